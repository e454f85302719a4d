/- Helpers of a proof. -/
import Derived.Test.YtnbgonichmcfaaaDoorA00
set_option linter.unusedVariables false
set_option linter.unusedSimpArgs false
section
set_option linter.unusedSimpArgs false
set_option maxRecDepth 100000
namespace Go.Dw.Seat.Cr
open Go Go.Dw Go.Proofs Go.IntWalk
theorem runIt_all {α ε : Type} {step : α → ε → Option Exit × α} (h : ∀ a e, (step a e).1 = none) : ∀ (L : List ε) (a : α), runIt step a L = (none, L.foldl (fun a e => (step a e).2) a)
 | [], a => rfl
 | e :: L, a => by
  have ih := runIt_all h L (step a e).2
  have hn := h a e
  rw [List.foldl_cons, ← ih]
  simp only [runIt]
  rcases he : step a e with ⟨o, a'⟩
  rw [he] at hn
  dsimp only at hn
  subst hn
  rfl
theorem w64_in {n : Int} (h : -9223372036854775808 ≤ n ∧ n < 9223372036854775808) : w64 n = n := i64_in n (by omega)
def loadsF : Nat → List Lod → List (Nat × Int × Int)
 | _, [] => []
 | i, _ :: t => (i, sumL t, sumH t) :: loadsF (i + 1) t
theorem fallS_app : ∀ (a b : List (Lod × Nat)) (lo hi lo' hi' : Int), lo' = a.foldl (fun s e => w64 (s + e.1.wl)) lo → hi' = a.foldl (fun s e => w64 (s + e.1.wh)) hi → fallS lo hi (a ++ b) = fallS lo hi a ++ fallS lo' hi' b
 | [], b, lo, hi, lo', hi', h1, h2 => by simp only [List.foldl_nil] at h1 h2; rw [h1, h2]; rfl
 | e :: a, b, lo, hi, lo', hi', h1, h2 => by
  simp only [List.cons_append, fallS]
  rw [fallS_app a b _ _ lo' hi' h1 h2]
theorem backL_cons (b : Lod) (t : List Lod) : backL (b :: t) = (backL t).map (fun e => (e.1, e.2 + 1)) ++ [(b, 0)] := by
 have : ∀ (l : List Lod) (n : Nat), l.zipIdx (n + 1) = (l.zipIdx n).map (fun e => (e.1, e.2 + 1)) := fun l => by
  induction l with
  | nil => intro n; rfl
  | cons x l ih => intro n; simp only [List.zipIdx_cons, List.map_cons, ih (n + 1)]
 simp only [backL, List.zipIdx_cons, Nat.zero_add, List.reverse_cons]
 rw [show t.zipIdx 1 = t.zipIdx (0 + 1) from rfl, this t 0, List.map_reverse]
theorem fallS_shift : ∀ (L : List (Lod × Nat)) (lo hi : Int), fallS lo hi (L.map (fun e => (e.1, e.2 + 1))) = (fallS lo hi L).map (fun e => (e.1 + 1, e.2))
 | [], _, _ => rfl
 | e :: L, lo, hi => by simp only [List.map_cons, fallS, fallS_shift L]
theorem loadsF_shift : ∀ (l : List Lod) (i : Nat), loadsF (i + 1) l = (loadsF i l).map (fun e => (e.1 + 1, e.2))
 | [], _ => rfl
 | b :: t, i => by simp only [loadsF, List.map_cons, loadsF_shift t (i + 1)]
theorem back_sums : ∀ (l : List Lod), (∀ b ∈ l, b.ok) → l.length ≤ 100000 → (backL l).foldl (fun s e => w64 (s + e.1.wl)) 0 = sumL l ∧ (backL l).foldl (fun s e => w64 (s + e.1.wh)) 0 = sumH l
 | [], _, _ => ⟨rfl, rfl⟩
 | b :: t, h, hl => by
  rw [List.length_cons] at hl
  have ht : ∀ x ∈ t, x.ok := fun x hx => h x (by simp [hx])
  obtain ⟨i1, i2⟩ := back_sums t ht (by omega)
  have hb := (h b (by simp)).weight
  obtain ⟨b1, b2⟩ := sum_b ht
  rw [backL_cons, List.foldl_append, List.foldl_append, List.foldl_map, List.foldl_map, i1, i2]
  simp only [List.foldl_cons, List.foldl_nil, sumL, sumH]
  exact ⟨w64_in (by omega), w64_in (by omega)⟩
theorem fallS_eq : ∀ (l : List Lod), (∀ b ∈ l, b.ok) → l.length ≤ 100000 → fallS 0 0 (backL l) = (loadsF 0 l).reverse
 | [], _, _ => rfl
 | b :: t, h, hl => by
  rw [List.length_cons] at hl
  have ht : ∀ x ∈ t, x.ok := fun x hx => h x (by simp [hx])
  have ih := fallS_eq t ht (by omega)
  obtain ⟨i1, i2⟩ := back_sums t ht (by omega)
  rw [backL_cons, fallS_app _ _ 0 0 (sumL t) (sumH t) (by rw [List.foldl_map, i1]) (by rw [List.foldl_map, i2]), fallS_shift, ih]
  simp only [fallS, loadsF, List.reverse_cons, loadsF_shift t 0, List.map_reverse]
def lowS (l : List Lod) (k : Int) (a : Int × Bool) (e : Nat × Int × Int) : Option Exit × (Int × Bool) := match l[e.1]? with
 | some v => if bearsI v k < e.2.2 then (none, ((e.1 : Int), true)) else (none, a)
 | none => (none, a)
theorem lowS_none (l : List Lod) (k : Int) (a : Int × Bool) (e : Nat × Int × Int) : (lowS l k a e).1 = none := by
 unfold lowS; split <;> (try split) <;> rfl
theorem low_fold (l : List Lod) (k : Int) (a : Int × Bool) : ∀ (t pre : List Lod), l = pre ++ t → (loadsF pre.length t).foldr (fun e a => (lowS l k a e).2) a = match failN k t with
  | some i => (((pre.length + i : Nat) : Int), true)
  | none => a
 | [], _, _ => rfl
 | b :: t, pre, hl => by
  have ih := low_fold l k a t (pre ++ [b]) (by simp [hl])
  simp only [List.length_append, List.length_singleton] at ih
  have hg : l[pre.length]? = some b := by rw [hl, List.getElem?_append_right (Nat.le_refl _), Nat.sub_self]; rfl
  simp only [loadsF, List.foldr_cons, failN, ih]
  unfold lowS
  simp only [hg]
  split
  ·simp
  ·cases hf : failN k t with
   | none => rfl
   | some i => simp only [Option.map_some]; congr 2; omega
def lowR (k : Int) (l : List Lod) : Int × Bool := match failN k l with
 | some i => ((i : Int), true)
 | none => (0, false)
theorem low_run (l : List Lod) (k : Int) (h : ∀ b ∈ l, b.ok) (hl : l.length ≤ 100000) : runIt (lowS l k) (0, false) (fallS 0 0 (backL l)) = (none, lowR k l) := by
 rw [runIt_all (lowS_none l k), fallS_eq l h hl, List.foldl_reverse]
 have := low_fold l k (0, false) l [] rfl
 simp only [List.length_nil, Nat.zero_add] at this
 rw [this]; rfl
set_option maxHeartbeats 1000000 in
theorem crLowest (l : List Lod) (h : ∀ b ∈ l, b.ok) (hl : l.length ≤ 1000) (k : Int) (hk : 0 ≤ k ∧ k ≤ 1000) : DCall Tryd.prog 60 [.c (.sl false 4 (rows eLd l)), dI k] [] (.tup [dI (lowR k l).1, bD (lowR k l).2]) [] := by
 have h1 := crFalling l
 have hit := crFall1 l hl false
 refine DCall.of Tryd.func60 sf60 hb60 (Nat.le_of_ble_eq_true rfl) (okRes_nil fun _ => rfl) ?_; simp only [s60, o60_0, o60_1, o60_2, o60_3, idxs, Nat.reduceAdd]
 repeat' (first|(with_reducible first|apply qA|apply qB|apply qC|apply qD|apply qE|apply qF)|(refine qL rfl (WF.of ?_) ?_; first|rfl|skip)|(refine DW.ord rfl (WF.of (by first|rfl|simp (disch:=omega) only [go_sem, simprocAttr, qN, qO, qP, qQ])) ?_ ?_ ?_; rotate_left)|rfl|(with_reducible refine And.intro ?_ ?_)|(simp (disch:=omega) only [go_sem, simprocAttr, qN, qO, qP, qQ])|exact qM rfl rfl rfl|(refine qG rfl ?_)|(refine qK (h1) (by decide) ?_)|(refine qH rfl ?_)|(refine qI rfl ?_ ?_<;>intro hc<;>(try simp only [go_sem] at hc))|(refine qJ ?_ ?_<;>intro hc<;>(try simp only [hc])<;>(try simp only [go_sem] at hc)))
 refine DW.rngBD (fs := []) (caps := [.c (.ro false [.sl false 4 (rows eLd l)] 0)]) (fun y : Int × Bool => [(5, .box [bD y.2]), (4, .box [dI y.1]), (3, .box [dI k]), (2, .box [.c (.sl false 4 (rows eLd l))])]) (0, false) (lowS l k) enF (fun e => e.1 < l.length) (fallS 0 0 (backL l)) hit (fun _ => True) trivial (fun _ _ _ _ _ => trivial) rfl (fun _ => ⟨rfl, rfl⟩) rfl (by decide) (fun _ _ => rfl) (fun _ _ _ => rfl) (by simp only [List.map_cons, List.map_nil]; decide) (fun _ => rfl) (fun _ => rfl) (fun _ => (by simp only [List.all_cons, List.all_nil, Blk.nb, rowC_nb, D.nb, D.nbs, C.nb, C.nbs, C.nbss, rows_nb eI_nb, Bool.and_true, Bool.not_false, Bool.and_self, bD, dI, iD, rows_nb eK_nb, rows_nb eLd_nb])) (by simp only [List.all_cons, List.all_nil, Blk.nb, rowC_nb, D.nb, D.nbs, C.nb, C.nbs, C.nbss, rows_nb eI_nb, Bool.and_true, Bool.not_false, Bool.and_self, bD, dI, iD, rows_nb eK_nb, rows_nb eLd_nb]) (fun a e => by rw [lowS_none]; rfl) ?_ ?_
 ·rintro ⟨bx, fl⟩ _ ⟨i, lo, hi⟩ hi' v
  dsimp only at hi'
  obtain ⟨u, hu⟩ := getE hi'
  have hbe := crBears u (h u (List.mem_of_getElem? hu)) k hk
  have hS : lowS l k (bx, fl) (i, lo, hi) = if bearsI u k < hi then (none, ((i : Int), true)) else (none, (bx, fl)) := by
   simp only [lowS, hu]
  rw [hS]
  by_cases hc : bearsI u k < hi
  ·have hd : decide (bearsI u k < hi) = true := decide_eq_true hc
   rw [if_pos hc]
   simp (disch:=omega) only [go_sem,simprocAttr,qN,qO,qP,qQ,rF,rG]
   repeat' (first|(with_reducible first|apply qA|apply qB|apply qC|apply qD|apply qE|apply qF)|(refine qL rfl (WF.of ?_) ?_; first|rfl|skip)|(refine DW.ord rfl (WF.of (by first|rfl|simp (disch:=omega) only [go_sem, simprocAttr, qN, qO, qP, qQ, hu, hd, rF, rG])) ?_ ?_ ?_; rotate_left)|rfl|(with_reducible refine And.intro ?_ ?_)|(simp (disch:=omega) only [go_sem, simprocAttr, qN, qO, qP, qQ, hu, hd, rF, rG])|exact qM rfl rfl rfl|(refine qG rfl ?_)|(refine qK (hbe) (by decide) ?_)|(refine qH rfl ?_)|(refine qI rfl ?_ ?_<;>intro hc<;>(try simp only [go_sem] at hc))|(refine qJ ?_ ?_<;>intro hc<;>(try simp only [hc])<;>(try simp only [go_sem] at hc)))
   refine round_end rfl rfl (Ent.to ?_ ?_) <;> simp (disch:=omega) only [qR,qS,qTw,qU,get,Nat.reduceEqDiff,↓reduceIte,qV,qW,qX,qY,qZ,and_self,dI,i64_in,and_true,true_and,rA,rB,rC,rD,capB,List.cons_append,List.nil_append]
  ·have hd : decide (bearsI u k < hi) = false := decide_eq_false hc
   rw [if_neg hc]
   simp (disch:=omega) only [go_sem,simprocAttr,qN,qO,qP,qQ,rF,rG]
   repeat' (first|(with_reducible first|apply qA|apply qB|apply qC|apply qD|apply qE|apply qF)|(refine qL rfl (WF.of ?_) ?_; first|rfl|skip)|(refine DW.ord rfl (WF.of (by first|rfl|simp (disch:=omega) only [go_sem, simprocAttr, qN, qO, qP, qQ, hu, hd, rF, rG])) ?_ ?_ ?_; rotate_left)|rfl|(with_reducible refine And.intro ?_ ?_)|(simp (disch:=omega) only [go_sem, simprocAttr, qN, qO, qP, qQ, hu, hd, rF, rG])|exact qM rfl rfl rfl|(refine qG rfl ?_)|(refine qK (hbe) (by decide) ?_)|(refine qH rfl ?_)|(refine qI rfl ?_ ?_<;>intro hc<;>(try simp only [go_sem] at hc))|(refine qJ ?_ ?_<;>intro hc<;>(try simp only [hc])<;>(try simp only [go_sem] at hc)))
   refine round_end rfl rfl (Ent.to ?_ ?_) <;> simp (disch:=omega) only [qR,qS,qTw,qU,get,Nat.reduceEqDiff,↓reduceIte,qV,qW,qX,qY,qZ,and_self,dI,i64_in,and_true,true_and,rA,rB,rC,rD,capB,List.cons_append,List.nil_append]
 ·rw [low_run l k h (by omega)]
  generalize lowR k l = R
  obtain ⟨x, y⟩ := R
  repeat' (first|(with_reducible first|apply qA|apply qB|apply qC|apply qD|apply qE|apply qF)|(refine qL rfl (WF.of ?_) ?_; first|rfl|skip)|(refine DW.ord rfl (WF.of (by first|rfl|simp (disch:=omega) only [go_sem, simprocAttr, qN, qO, qP, qQ])) ?_ ?_ ?_; rotate_left)|rfl|(with_reducible refine And.intro ?_ ?_)|(simp (disch:=omega) only [go_sem, simprocAttr, qN, qO, qP, qQ])|exact qM rfl rfl rfl|(refine qG rfl ?_)|(refine qH rfl ?_)|(refine qI rfl ?_ ?_<;>intro hc<;>(try simp only [go_sem] at hc))|(refine qJ ?_ ?_<;>intro hc<;>(try simp only [hc])<;>(try simp only [go_sem] at hc)))
end Go.Dw.Seat.Cr
end
section
set_option linter.unusedSimpArgs false
set_option maxRecDepth 100000
namespace Go.Dw.Seat.Cr
open Go Go.Dw Go.Proofs Go.IntWalk
abbrev dU (n : Nat) : D := .c (.v (.int .u64 n))
attribute [go_sem] dU
def bitsL (s : Nat) : List Nat := (List.range 10).filter (fun i => s.testBit i)
def tz (s : Nat) : Nat := (bitsL s).headD 64
theorem bits_step0 : ∀ s : Fin 1024, s.1 ≠ 0 → bitsL s.1 = tz s.1 :: bitsL (s.1 &&& (s.1 - 1)) ∧ tz s.1 < 10 := by decide +kernel
theorem bits_step {s : Nat} (hs : s < 1024) (h0 : s ≠ 0) : bitsL s = tz s :: bitsL (s &&& (s - 1)) ∧ tz s < 10 := bits_step0 ⟨s, hs⟩ h0
theorem bits_zero : bitsL 0 = [] := by decide
def tabI : List Int := [0, 1, 56, 2, 57, 49, 28, 3, 61, 58, 42, 50, 38, 29, 17, 4, 62, 47, 59, 36, 45, 43, 51, 22, 53, 39, 33, 30, 24, 18, 12, 5, 63, 55, 48, 27, 60, 41, 37, 16, 46, 35, 44, 21, 52, 32, 23, 11, 54, 26, 40, 15, 34, 20, 31, 10, 25, 14, 19, 9, 13, 8, 7, 6]
theorem tab_get (j : Nat) : tab64[j]? = (tabI[j]?).map (fun n => Value.int .u8 n) := by
 have : tab64 = tabI.map (fun n => Value.int .u8 n) := rfl
 rw [this, List.getElem?_map]
def tzX (s : Nat) : Int := shrI IntKind.u64 (IntKind.u64.wrap (andI IntKind.u64 (s : Int) (IntKind.u64.wrap (0 - (s : Int))) * 285870213051353865)) 58
theorem tzX_ok0 : ∀ s : Fin 1024, s.1 ≠ 0 → 0 ≤ tzX s.1 ∧ tzX s.1 < 64 ∧ tabI[(tzX s.1).toNat]? = some (tz s.1 : Int) := by decide +kernel
theorem tzX_ok {s : Nat} (hs : s < 1024) (h0 : s ≠ 0) : 0 ≤ tzX s ∧ tzX s < 64 ∧ tabI[(tzX s).toNat]? = some (tz s : Int) := tzX_ok0 ⟨s, hs⟩ h0
theorem ud5 : Tryd.prog.underlying 5 = some (.int .u8) := by kernel_rfl
theorem crTz64 (s : Nat) (hs : s < 1024) (h0 : s ≠ 0) : DCall Tryd.prog 110 [dU s] [] (dI (tz s)) [] := by
 have hd : ((s : Int) == 0) = false := by rw [beq_eq_false_iff_ne]; omega
 obtain ⟨h1, h2, h3⟩ := tzX_ok hs h0
 have ht := (bits_step hs h0).2
 have hx : shrI IntKind.u64 (IntKind.u64.wrap (andI IntKind.u64 (s : Int) (IntKind.u64.wrap (0 - (s : Int))) * 285870213051353865)) 58 = tzX s := rfl
 obtain ⟨j, hj⟩ : ∃ j : Nat, tzX s = j := ⟨(tzX s).toNat, by omega⟩
 rw [hj] at h1 h2 h3 hx
 rw [Int.toNat_natCast] at h3
 have h4 : tab64[j]? = some (.int .u8 (tz s : Int)) := by rw [tab_get, h3]; rfl
 have h5 : j < 64 := by omega
 refine DCall.of Tryd.func110 sf110 hb110 (Nat.le_of_ble_eq_true rfl) (okRes_nil fun _ => rfl) ?_; simp only [s110, idxs, Nat.reduceAdd]
 have h6 : ((j : Int) < 64) = True := eq_true h2
 repeat' (first|(with_reducible first|apply qA|apply qB|apply qC|apply qD|apply qE|apply qF)|(simp (disch:=omega) only [go_sem, simprocAttr, Blk.men, Blk.keysIn, hd, hx, h6, Nat.mul_one, List.getElem?_map, h4, ud5])|exact qM rfl rfl rfl|(refine qG rfl ?_)|(refine qH rfl ?_)|(refine qI rfl ?_ ?_<;>intro hc<;>(try simp only [go_sem] at hc))|(refine qJ ?_ ?_<;>intro hc<;>(try simp only [hc])<;>(try simp only [go_sem] at hc)))
theorem crTz (s : Nat) (hs : s < 1024) (h0 : s ≠ 0) : DCall Tryd.prog 74 [dU s] [] (dI (tz s)) [] := by
 refine DCall.of Tryd.func74 sf74 hb74 (Nat.le_of_ble_eq_true rfl) (okRes_nil fun _ => rfl) ?_; simp only [s74, idxs, Nat.reduceAdd]
 repeat' (first|(with_reducible first|apply qA|apply qB|apply qC|apply qD|apply qE|apply qF)|(simp (disch:=omega) only [go_sem, simprocAttr, Blk.men, Blk.keysIn])|exact qM rfl rfl rfl|(refine qG rfl ?_)|(refine qK (crTz64 s hs h0) (by decide) ?_)|(refine qH rfl ?_)|(refine qI rfl ?_ ?_<;>intro hc<;>(try simp only [go_sem] at hc))|(refine qJ ?_ ?_<;>intro hc<;>(try simp only [hc])<;>(try simp only [go_sem] at hc)))
def enB (e : Nat) : List D := [dI e]
attribute [go_sem] enB
theorem and_lt {s : Nat} (hs : s < 1024) (m : Nat) : s &&& m < 1024 := Nat.lt_of_le_of_lt Nat.and_le_left hs
theorem and_pred_lt0 : ∀ s : Fin 1024, s.1 ≠ 0 → s.1 &&& (s.1 - 1) < s.1 := by decide +kernel
theorem and_pred0 : ∀ s : Fin 1024, s.1 ≠ 0 → andI IntKind.u64 (s.1 : Int) ((s.1 - 1 : Nat) : Int) = ((s.1 &&& (s.1 - 1) : Nat) : Int) := by decide +kernel
def remB (s b : Nat) : Nat := s &&& (1023 ^^^ 2 ^ b)
theorem andNot0 : ∀ s : Fin 1024, ∀ b : Fin 10, andNotI IntKind.u64 (s.1 : Int) (shlI IntKind.u64 1 b.1) = ((remB s.1 b.1 : Nat) : Int) := by decide +kernel
theorem andNot_u {s b : Nat} (hs : s < 1024) (hb : b < 10) : andNotI IntKind.u64 (s : Int) (shlI IntKind.u64 1 b) = ((remB s b : Nat) : Int) := andNot0 ⟨s, hs⟩ ⟨b, hb⟩
theorem remB_mem0 : ∀ s : Fin 1024, ∀ b : Fin 10, b.1 ∈ bitsL s.1 → remB s.1 b.1 < s.1 := by decide +kernel
theorem remB_mem {s b : Nat} (hs : s < 1024) (hb : b ∈ bitsL s) : remB s b < s := by
 have hb10 : b < 10 := by
  have := (List.mem_filter.1 hb).1
  rwa [List.mem_range] at this
 exact remB_mem0 ⟨s, hs⟩ ⟨b, hb10⟩ hb
theorem bits_lt {s b : Nat} (hb : b ∈ bitsL s) : b < 10 := by
 have := (List.mem_filter.1 hb).1
 rwa [List.mem_range] at this
theorem crAllB (s : Nat) (hs : s < 1024) : ItB true Tryd.prog 53 [dU s] [] enB (fun e => e ∈ bitsL s) (bitsL s) := by
 intro ly β H stp live _ hW hY b0 hl0
 have hH : ∀ b, HidOk (H b) := fun b => (hW b).toHidOk
 refine DCall.of Tryd.func53 sf53 hb53 (Nat.le_of_ble_eq_true rfl) (hH _).res ?_
 simp only [s53, idxs, Nat.reduceAdd, List.map_nil, List.map_cons, List.nil_append, List.cons_append, List.append_nil]
 repeat' (first|(with_reducible first|apply qA|apply qB|apply qC|apply qD|apply qE|apply qF)|(simp (disch:=omega) only [go_sem, simprocAttr, Blk.men, Blk.keysIn])|exact qM rfl rfl rfl|(refine qG rfl ?_)|(refine qH rfl ?_)|(refine qI rfl ?_ ?_<;>intro hc<;>(try simp only [go_sem] at hc))|(refine qJ ?_ ?_<;>intro hc<;>(try simp only [hc])<;>(try simp only [go_sem] at hc)))
 refine DW.loop (ι := { y : Nat × β // y.1 < 1024 ∧ live (bitsL y.1) y.2 ∧ runB stp b0 (bitsL s) = runB stp y.2 (bitsL y.1) ∧ ∀ e ∈ bitsL y.1, e ∈ bitsL s })
  (fun y => ⟨15, [(0, dU y.1.1), (1, .c (.fn (.yield ly) [] []))], H y.1.2⟩) (fun y => y.1.1) ⟨(s, b0), hs, hl0, rfl, fun _ h => h⟩ ?_ ?_
 ·refine Ent.toT ?_; simp (disch:=omega) only [qR,qS,qTw,qU,get,Nat.reduceEqDiff,↓reduceIte,qV,qW,qX,qY,qZ,and_self,dI,i64_in,and_true,true_and,rA,rB,rC,rD]
 rintro ⟨⟨k, b1⟩, hk, hlv, hrun, hsub⟩
 dsimp only at hk hlv hrun hsub
 by_cases h0 : k = 0
 ·subst h0
  rw [bits_zero] at hrun
  simp only [runB] at hrun
  repeat' (first|(with_reducible first|apply qA|apply qB|apply qC|apply qD|apply qE|apply qF)|(simp (disch:=omega) only [go_sem, simprocAttr, Blk.men, Blk.keysIn])|exact qM rfl rfl rfl|(refine qG rfl ?_)|(refine qH rfl ?_)|(refine qI rfl ?_ ?_<;>intro hc<;>(try simp only [go_sem] at hc))|(refine qJ ?_ ?_<;>intro hc<;>(try simp only [hc])<;>(try simp only [go_sem] at hc)))
  rw [hrun]
  exact retS_hid (own := []) (.inr rfl) (hH _) rfl
 ·have hd : ((k : Int) != 0) = true := by rw [bne_iff_ne]; omega
  obtain ⟨hb, ht⟩ := bits_step hk h0
  rw [hb] at hrun hsub hlv
  obtain ⟨hyc, hlv4⟩ := hY b1 (tz k) _ hlv (hsub _ (by simp))
  simp only [runB] at hrun
  have htz := crTz k hk h0
  have hlt := and_pred_lt0 ⟨k, hk⟩ h0
  have e1 : (k : Int) - 1 = ((k - 1 : Nat) : Int) := by omega
  dsimp only at hlt
  repeat' (first|(with_reducible first|apply qA|apply qB|apply qC|apply qD|apply qE|apply qF)|(simp (disch:=omega) only [go_sem, simprocAttr, Blk.men, Blk.keysIn, hd])|exact qM rfl rfl rfl|(refine qG rfl ?_)|(refine qK (htz) (by decide) ?_)|(refine qH rfl ?_)|(refine qI rfl ?_ ?_<;>intro hc<;>(try simp only [go_sem] at hc))|(refine qJ ?_ ?_<;>intro hc<;>(try simp only [hc])<;>(try simp only [go_sem] at hc)))
  refine call_y (own := []) hyc rfl rfl rfl (hH _) (hH _) (by decide) ?_
  cases hs : (stp b1 (tz k)).1 with
  | true =>
   rw [hs] at hrun hlv4
   simp (disch:=omega) only [go_sem,simprocAttr,Blk.men,Blk.keysIn]
   have e2 := and_pred0 ⟨k, hk⟩ h0
   dsimp only at e2
   repeat' (first|(with_reducible first|apply qA|apply qB|apply qC|apply qD|apply qE|apply qF)|(simp (disch:=omega) only [go_sem, simprocAttr, Blk.men, Blk.keysIn, e1, e2])|exact qM rfl rfl rfl|(refine qG rfl ?_)|(refine qH rfl ?_)|(refine qI rfl ?_ ?_<;>intro hc<;>(try simp only [go_sem] at hc))|(refine qJ ?_ ?_<;>intro hc<;>(try simp only [hc])<;>(try simp only [go_sem] at hc)))
   refine ⟨⟨(k &&& (k - 1), (stp b1 (tz k)).2), and_lt hk _, hlv4 rfl, hrun, fun e he => hsub e (by simp [he])⟩, by (show _ < _; (try simp only); omega), Ent.toT ?_⟩; simp (disch:=omega) only [qR,qS,qTw,qU,get,Nat.reduceEqDiff,↓reduceIte,qV,qW,qX,qY,qZ,and_self,dI,i64_in,and_true,true_and,rA,rB,rC,rD]
  | false =>
   rw [hs] at hrun
   simp (disch:=omega) only [go_sem,simprocAttr,Blk.men,Blk.keysIn]
   repeat' (first|(with_reducible first|apply qA|apply qB|apply qC|apply qD|apply qE|apply qF)|(simp (disch:=omega) only [go_sem, simprocAttr, Blk.men, Blk.keysIn])|exact qM rfl rfl rfl|(refine qG rfl ?_)|(refine qH rfl ?_)|(refine qI rfl ?_ ?_<;>intro hc<;>(try simp only [go_sem] at hc))|(refine qJ ?_ ?_<;>intro hc<;>(try simp only [hc])<;>(try simp only [go_sem] at hc)))
   rw [hrun]
   exact retS_hid (own := []) (.inl rfl) (hH _) rfl
theorem crAll (s : Nat) (hs : s < 1024) : ItD Tryd.prog 53 [dU s] [] enB (fun e => e ∈ bitsL s) (bitsL s) := (crAllB s hs).toD
end Go.Dw.Seat.Cr
end
section
set_option linter.unusedSimpArgs false
set_option maxRecDepth 100000
namespace Go.Dw.Seat.Cr
open Go Go.Dw Go.Proofs Go.IntWalk
def whAt (l : List Lod) (i : Nat) : Int := match l[i]? with
 | some b => b.wh
 | none => 0
def wtI (l : List Lod) (s : Nat) : Int := (bitsL s).foldl (fun a e => a + whAt l e) 0
def wtS (l : List Lod) (a : Int) (e : Nat) : Option Exit × Int := (none, w64 (a + whAt l e))
theorem whAt_b {l : List Lod} (h : ∀ b ∈ l, b.ok) (i : Nat) : 0 ≤ whAt l i ∧ whAt l i ≤ 100000 := by
 unfold whAt
 split
 ·rename_i b hb
  have := (h b (List.mem_of_getElem? hb)).weight
  omega
 ·omega
theorem wt_run {l : List Lod} (h : ∀ b ∈ l, b.ok) : ∀ (L : List Nat) (a : Int), 0 ≤ a ∧ a + 100000 * (L.length : Int) ≤ 1000000000 → runIt (wtS l) a L = (none, L.foldl (fun a e => a + whAt l e) a) ∧ 0 ≤ L.foldl (fun a e => a + whAt l e) a ∧ L.foldl (fun a e => a + whAt l e) a ≤ a + 100000 * (L.length : Int)
 | [], a, ha => ⟨rfl, by simp only [List.foldl_nil, List.length_nil]; omega⟩
 | e :: L, a, ha => by
  have hb := whAt_b h e
  rw [List.length_cons] at ha
  have hw : w64 (a + whAt l e) = a + whAt l e := w64_in (by omega)
  have ih := wt_run h L (a + whAt l e) (by omega)
  simp only [runIt, wtS, hw, List.foldl_cons, List.length_cons]
  refine ⟨ih.1, ih.2.1, ?_⟩
  have := ih.2.2
  omega
theorem bits_len (s : Nat) : (bitsL s).length ≤ 10 := by
 have := List.length_filter_le (fun i => s.testBit i) (List.range 10)
 rwa [List.length_range] at this
def inB (n s : Nat) : Prop := ∀ e ∈ bitsL s, e < n
abbrev ptrD (l : Nat) : D := .c (.v (.pointer (some ⟨l, 0, none⟩)))
abbrev mapD (l : Nat) : D := .c (.v (.map (some l)))
attribute [go_sem] ptrD mapD
theorem crWeight (l : List Lod) (h : ∀ x ∈ l, x.ok) (k : Int) (lm s : Nat) (hs : s < 1024) (hb : inB l.length s) : DCall Tryd.prog 96 [.c (.ro false [.sl false 4 (rows eLd l), .v (.int .i64 k), .v (.map (some lm))] 0), dU s] [] (dI (wtI l s)) [] := by
 have hit := crAll s hs
 refine DCall.of Tryd.func96 sf96 hb96 (Nat.le_of_ble_eq_true rfl) (okRes_nil fun _ => rfl) ?_; simp only [s96, idxs, Nat.reduceAdd]
 repeat' (first|(with_reducible first|apply qA|apply qB|apply qC|apply qD|apply qE|apply qF)|(refine qL rfl (WF.of ?_) ?_; first|rfl|skip)|(simp (disch:=omega) only [go_sem, simprocAttr, qN, qO, qP, qQ])|exact qM rfl rfl rfl|(refine qG rfl ?_)|(refine qH rfl ?_)|(refine qI rfl ?_ ?_<;>intro hc<;>(try simp only [go_sem] at hc))|(refine qJ ?_ ?_<;>intro hc<;>(try simp only [hc])<;>(try simp only [go_sem] at hc)))
 refine DW.rngBD (fs := [dU s]) (caps := []) (fun y : Int => [(4, .box [dI y]), (2, .box [.c (.ro false [.sl false 4 (rows eLd l), .v (.int .i64 k), .v (.map (some lm))] 0)])]) 0 (wtS l) enB (fun e => e ∈ bitsL s) (bitsL s) hit (fun _ => True) trivial (fun _ _ _ _ _ => trivial) rfl (fun _ => ⟨rfl, rfl⟩) rfl (by decide) (fun _ _ => rfl) (fun _ _ _ => rfl) (by simp only [List.map_cons, List.map_nil]; decide) (fun _ => rfl) (fun _ => rfl) (fun _ => (by simp only [List.all_cons, List.all_nil, Blk.nb, rowC_nb, D.nb, D.nbs, C.nb, C.nbs, C.nbss, rows_nb eI_nb, Bool.and_true, Bool.not_false, Bool.and_self, bD, dI, iD, rows_nb eK_nb, rows_nb eLd_nb])) (by simp only [List.all_cons, List.all_nil, Blk.nb, rowC_nb, D.nb, D.nbs, C.nb, C.nbs, C.nbss, rows_nb eI_nb, Bool.and_true, Bool.not_false, Bool.and_self, bD, dI, iD, rows_nb eK_nb, rows_nb eLd_nb]) (fun a e => rfl) ?_ ?_
 ·rintro y _ e he v
  obtain ⟨u, hu⟩ := getE (hb e he)
  have hw : whAt l e = u.wh := by rw [whAt, hu]
  have hS : wtS l y e = (none, w64 (y + u.wh)) := by rw [wtS, hw]
  rw [hS]
  simp (disch:=omega) only [go_sem,simprocAttr,qN,qO,qP,qQ,rF,rG]
  repeat' (first|(with_reducible first|apply qA|apply qB|apply qC|apply qD|apply qE|apply qF)|(refine qL rfl (WF.of ?_) ?_; first|rfl|skip)|(simp (disch:=omega) only [go_sem, simprocAttr, qN, qO, qP, qQ, hu, rF, rG])|exact qM rfl rfl rfl|(refine qG rfl ?_)|(refine qH rfl ?_)|(refine qI rfl ?_ ?_<;>intro hc<;>(try simp only [go_sem] at hc))|(refine qJ ?_ ?_<;>intro hc<;>(try simp only [hc])<;>(try simp only [go_sem] at hc)))
  refine round_end rfl rfl (Ent.to ?_ ?_) <;> simp (disch:=omega) only [qR,qS,qTw,qU,get,Nat.reduceEqDiff,↓reduceIte,qV,qW,qX,qY,qZ,and_self,dI,i64_in,and_true,true_and,rA,rB,rC,rD,capB,List.cons_append,List.nil_append,w64]
 ·have hl := bits_len s
  rw [(wt_run h (bitsL s) 0 (by omega)).1]
  repeat' (first|(with_reducible first|apply qA|apply qB|apply qC|apply qD|apply qE|apply qF)|(refine qL rfl (WF.of ?_) ?_; first|rfl|skip)|(simp (disch:=omega) only [go_sem, simprocAttr, qN, qO, qP, qQ])|exact qM rfl rfl rfl|(refine qG rfl ?_)|(refine qH rfl ?_)|(refine qI rfl ?_ ?_<;>intro hc<;>(try simp only [go_sem] at hc))|(refine qJ ?_ ?_<;>intro hc<;>(try simp only [hc])<;>(try simp only [go_sem] at hc)))
end Go.Dw.Seat.Cr
end
section
set_option linter.unusedSimpArgs false
set_option maxRecDepth 100000
namespace Go.Dw.Seat.Cr
open Go Go.Dw Go.Proofs Go.IntWalk
def bearsAt (l : List Lod) (k : Int) (e : Nat) : Int := match l[e]? with
 | some b => bearsI b k
 | none => 0
def unF (l : List Lod) (k : Int) (rec : Nat → Memo → Bool × Memo) (s e : Nat) (m : Memo) : Bool × Memo :=
 if wtI l (remB s e) ≤ bearsAt l k e then rec (remB s e) m else (false, m)
def unS (l : List Lod) (k : Int) (rec : Nat → Memo → Bool × Memo) (s : Nat) (a : Bool × Memo) (e : Nat) : Option Exit × (Bool × Memo) :=
 if (unF l k rec s e a.2).1 then (some (.exit 0), (true, (unF l k rec s e a.2).2)) else (none, (a.1, (unF l k rec s e a.2).2))
def stF (l : List Lod) (k : Int) : Nat → Nat → Memo → Bool × Memo
 | 0, _, m => (true, m)
 | f + 1, s, m => if s = 0 then (true, m) else match mFind m s with
  | some b => (b, m)
  | none => ((runIt (unS l k (stF l k f) s) (false, m) (bitsL s)).2.1, mUpd (runIt (unS l k (stF l k f) s) (false, m) (bitsL s)).2.2 s (runIt (unS l k (stF l k f) s) (false, m) (bitsL s)).2.1)
abbrev pilC (l : List Lod) (k : Int) (lm : Nat) : C := .ro false [.sl false 4 (rows eLd l), .v (.int .i64 k), .v (.map (some lm))] 0
abbrev pilD (l : List Lod) (k : Int) (lm : Nat) : D := .c (.ro false [.sl false 4 (rows eLd l), .v (.int .i64 k), .v (.map (some lm))] 0)
abbrev memB (lm : Nat) (m : Memo) : Nat × Blk := (28, .pmap lm (mK .u64 m) (mD m))
attribute [go_sem] pilD memB pilC
theorem memB_ok (r : D) (hr : ∀ k, r.men k = false) (lm : Nat) (m : Memo) : okRes r [memB lm m] := by
 refine ⟨fun k _ => hr k, fun j x hj k hk => ?_⟩
 simp only [get] at hj
 split at hj
 ·cases hj; exact mD_men k m
 ·cases hj
theorem memB_nb (lm : Nat) (m : Memo) {k : Nat} {x : Blk} (hk : get k [memB lm m] = some x) : k = 28 ∧ x = .pmap lm (mK .u64 m) (mD m) ∧ x.nb = true := by
 simp only [get] at hk
 split at hk
 ·rename_i e; cases hk; exact ⟨e, rfl, mD_nb m⟩
 ·cases hk
def StC (l : List Lod) (k : Int) (lm f : Nat) : Prop := ∀ s m, s ≤ f → s < 1024 → inB l.length s → DCall Tryd.prog 52 [pilD l k lm, dU s] [memB lm m] (bD (stF l k f s m).1) [memB lm (stF l k f s m).2]
theorem inB_rem {n s : Nat} (h : inB n s) (hs : s < 1024) {e : Nat} (he : e ∈ bitsL s) : inB n (remB s e) := fun x hx => by
 refine h x ?_
 simp only [bitsL, List.mem_filter, List.mem_range, remB, Nat.testBit_and, Bool.and_eq_true] at hx ⊢
 exact ⟨hx.1, hx.2.1⟩
set_option maxHeartbeats 1000000 in
theorem crUnder (l : List Lod) (h : ∀ x ∈ l, x.ok) (k : Int) (hk : 0 ≤ k ∧ k ≤ 1000) (lm f : Nat) (ih : StC l k lm f) (s e : Nat) (m : Memo) (hf : s ≤ f + 1) (hs : s < 1024) (hb : inB l.length s) (he : e ∈ bitsL s) :
  DCall Tryd.prog 54 [pilD l k lm, dI e, dU s] [memB lm m] (bD (unF l k (stF l k f) s e m).1) [memB lm (unF l k (stF l k f) s e m).2] := by
 have hlt := remB_mem hs he
 have hin := inB_rem hb hs he
 have he10 := bits_lt he
 obtain ⟨u, hu⟩ := getE (hb e he)
 have hbe := crBears u (h u (List.mem_of_getElem? hu)) k hk
 have hw := crWeight l h k lm (remB s e) (by omega) hin
 have hand := andNot_u hs he10
 have hst := ih (remB s e) m (by omega) (by omega) hin
 have hbA : bearsAt l k e = bearsI u k := by rw [bearsAt, hu]
 refine DCall.of Tryd.func54 sf54 hb54 (Nat.le_of_ble_eq_true rfl) (memB_ok _ (fun _ => rfl) _ _) ?_
 simp only [s54, idxs, Nat.reduceAdd]
 rw [unF, hbA]
 generalize remB s e = s' at *
 generalize wtI l s' = W at *
 generalize bearsI u k = B at *
 by_cases hc : W ≤ B
 ·have hd : decide (W ≤ B) = true := decide_eq_true hc
  rw [if_pos hc]
  generalize stF l k f s' m = R at *
  repeat' (first|(with_reducible first|apply qA|apply qB|apply qC|apply qD|apply qE|apply qF)|(refine DW.regL rfl (WF.of ?_) ?_; first|rfl|skip)|(simp (disch:=omega) only [go_sem, simprocAttr, qN, qO, qP, qQ, hu, hand, hd, rF, rG])|exact qM rfl rfl rfl|(refine qG rfl ?_)|(refine qK (hbe) (by decide) ?_)|(refine qK (hw) (by decide) ?_)|(refine qH rfl ?_)|(refine qI rfl ?_ ?_<;>intro hc<;>(try simp only [go_sem] at hc))|(refine qJ ?_ ?_<;>intro hc<;>(try simp only [hc])<;>(try simp only [go_sem] at hc)))
  refine call_h (h := [memB lm m]) (h' := [memB lm R.2]) (own := []) hst (Ent.refl _) rfl rfl rfl rfl (by decide) ?_
  simp (disch:=omega) only [go_sem,simprocAttr,qN,qO,qP,qQ,rF,rG]
  repeat' (first|(with_reducible first|apply qA|apply qB|apply qC|apply qD|apply qE|apply qF)|(refine DW.regL rfl (WF.of ?_) ?_; first|rfl|skip)|(simp (disch:=omega) only [go_sem, simprocAttr, qN, qO, qP, qQ, rF, rG])|exact qM rfl rfl rfl|(refine qG rfl ?_)|(refine qH rfl ?_)|(refine qI rfl ?_ ?_<;>intro hc<;>(try simp only [go_sem] at hc))|(refine qJ ?_ ?_<;>intro hc<;>(try simp only [hc])<;>(try simp only [go_sem] at hc)))
  exact retS_bs rfl rfl rfl (fun j x hj => ⟨hj, (memB_nb lm R.2 hj).2.2⟩)
 ·have hd : decide (W ≤ B) = false := decide_eq_false hc
  rw [if_neg hc]
  repeat' (first|(with_reducible first|apply qA|apply qB|apply qC|apply qD|apply qE|apply qF)|(refine DW.regL rfl (WF.of ?_) ?_; first|rfl|skip)|(simp (disch:=omega) only [go_sem, simprocAttr, qN, qO, qP, qQ, hu, hand, hd, rF, rG])|exact qM rfl rfl rfl|(refine qG rfl ?_)|(refine qK (hbe) (by decide) ?_)|(refine qK (hw) (by decide) ?_)|(refine qH rfl ?_)|(refine qI rfl ?_ ?_<;>intro hc<;>(try simp only [go_sem] at hc))|(refine qJ ?_ ?_<;>intro hc<;>(try simp only [hc])<;>(try simp only [go_sem] at hc)))
  exact retS_bs rfl rfl rfl (fun j x hj => ⟨hj, (memB_nb lm m hj).2.2⟩)
theorem unS_j (l : List Lod) (k : Int) (rec : Nat → Memo → Bool × Memo) (s : Nat) (a : Bool × Memo) (e : Nat) : okJ (unS l k rec s a e).1 = true := by
 unfold unS; split <;> rfl
theorem un_run (l : List Lod) (k : Int) (rec : Nat → Memo → Bool × Memo) (s : Nat) : ∀ (L : List Nat) (a : Bool × Memo), (runIt (unS l k rec s) a L).1 = none ∨ (runIt (unS l k rec s) a L).1 = some (.exit 0)
 | [], _ => .inl rfl
 | e :: L, a => by
  simp only [runIt, unS]
  split
  ·rename_i a' e'
   split at e'
   ·cases e'
   ·cases e'; exact un_run l k rec s L _
  ·rename_i a' x e'
   split at e'
   ·cases e'; exact .inr rfl
   ·cases e'
set_option maxHeartbeats 2000000 in
theorem crStands1 (l : List Lod) (h : ∀ x ∈ l, x.ok) (k : Int) (hk : 0 ≤ k ∧ k ≤ 1000) (lm f : Nat) (ih : StC l k lm f) : StC l k lm (f + 1) := by
 intro s m hf hs hb
 have hit := crAll s hs
 refine DCall.of Tryd.func52 sf52 hb52 (Nat.le_of_ble_eq_true rfl) (memB_ok _ (fun _ => rfl) _ _) ?_
 simp only [s52, o52_0, o52_1, o52_2, o52_3, o52_4, o52_5, o52_6, o52_7, o52_8, o52_9, o52_10, o52_11, idxs, Nat.reduceAdd]
 by_cases h0 : s = 0
 ·have hz : ((s : Int) == 0) = true := by rw [h0]; rfl
  rw [stF, if_pos h0]
  repeat' (first|(with_reducible first|apply qA|apply qB|apply qC|apply qD|apply qE|apply qF)|(refine qL rfl (WF.of ?_) ?_; first|rfl|skip)|(refine DW.ord rfl (WF.of (by first|rfl|simp (disch:=omega) only [go_sem, simprocAttr, qN, qO, qP, qQ, hz])) ?_ ?_ ?_; rotate_left)|rfl|(with_reducible refine And.intro ?_ ?_)|(simp (disch:=omega) only [go_sem, simprocAttr, qN, qO, qP, qQ, hz])|exact qM rfl rfl rfl|(refine qG rfl ?_)|(refine qH rfl ?_)|(refine qI rfl ?_ ?_<;>intro hc<;>(try simp only [go_sem] at hc))|(refine qJ ?_ ?_<;>intro hc<;>(try simp only [hc])<;>(try simp only [go_sem] at hc)))
  exact retS_bs rfl rfl rfl (fun j x hj => by
   obtain ⟨rfl, rfl, hn⟩ := memB_nb lm m hj
   exact ⟨rfl, hn⟩)
 have hz : ((s : Int) == 0) = false := by rw [beq_eq_false_iff_ne]; omega
 rw [stF, if_neg h0]
 cases hm : mFind m s with
 | some b =>
  repeat' (first|(with_reducible first|apply qA|apply qB|apply qC|apply qD|apply qE|apply qF)|(refine qL rfl (WF.of ?_) ?_; first|rfl|skip)|(refine DW.ord rfl (WF.of (by first|rfl|simp (disch:=omega) only [go_sem, simprocAttr, qN, qO, qP, qQ, hz, hm, Option.isSome_some])) ?_ ?_ ?_; rotate_left)|rfl|(with_reducible refine And.intro ?_ ?_)|(simp (disch:=omega) only [go_sem, simprocAttr, qN, qO, qP, qQ, hz, hm, Option.isSome_some])|exact qM rfl rfl rfl|(refine qG rfl ?_)|(refine qH rfl ?_)|(refine qI rfl ?_ ?_<;>intro hc<;>(try simp only [go_sem] at hc))|(refine qJ ?_ ?_<;>intro hc<;>(try simp only [hc])<;>(try simp only [go_sem] at hc)))
  exact retS_bs rfl rfl rfl (fun j x hj => by
   obtain ⟨rfl, rfl, hn⟩ := memB_nb lm m hj
   exact ⟨rfl, hn⟩)
 | none =>
  repeat' (first|(with_reducible first|apply qA|apply qB|apply qC|apply qD|apply qE|apply qF)|(refine qL rfl (WF.of ?_) ?_; first|rfl|skip)|(refine DW.ord rfl (WF.of (by first|rfl|simp (disch:=omega) only [go_sem, simprocAttr, qN, qO, qP, qQ, hz, hm, Option.isSome_none])) ?_ ?_ ?_; rotate_left)|rfl|(with_reducible refine And.intro ?_ ?_)|(simp (disch:=omega) only [go_sem, simprocAttr, qN, qO, qP, qQ, hz, hm, Option.isSome_none])|exact qM rfl rfl rfl|(refine qG rfl ?_)|(refine qH rfl ?_)|(refine qI rfl ?_ ?_<;>intro hc<;>(try simp only [go_sem] at hc))|(refine qJ ?_ ?_<;>intro hc<;>(try simp only [hc])<;>(try simp only [go_sem] at hc)))
  refine DW.rngBD (fs := [dU s]) (caps := []) (fun y : Bool × Memo => [memB lm y.2, (5, .box [bD y.1]), (3, .box [dU s]), (2, .box [pilD l k lm])]) (false, m) (unS l k (stF l k f) s) enB (fun e => e ∈ bitsL s) (bitsL s) hit (fun _ => True) trivial (fun _ _ _ _ _ => trivial) rfl (fun _ => ⟨rfl, rfl⟩) rfl (by decide) (fun _ _ => rfl) (fun _ _ _ => rfl) (by simp only [List.map_cons, List.map_nil]; decide) (fun _ => rfl) (fun y => by show (_ && (D.keysIns _ (mD y.2) && _)) = true; rw [mD_keys]; rfl) (fun y => by show (D.nbs (mD y.2) && _) = true; rw [mD_nb, Bool.true_and]; exact (by simp only [List.all_cons, List.all_nil, Blk.nb, rowC_nb, D.nb, D.nbs, C.nb, C.nbs, C.nbss, rows_nb eI_nb, Bool.and_true, Bool.not_false, Bool.and_self, bD, dI, iD, rows_nb eK_nb, rows_nb eLd_nb])) (by simp only [List.all_cons, List.all_nil, Blk.nb, rowC_nb, D.nb, D.nbs, C.nb, C.nbs, C.nbss, rows_nb eI_nb, Bool.and_true, Bool.not_false, Bool.and_self, bD, dI, iD, rows_nb eK_nb, rows_nb eLd_nb]) (unS_j l k _ s) ?_ ?_
  ·rintro ⟨is, m'⟩ _ e he v
   have hun := crUnder l h k hk lm f ih s e m' hf hs hb he
   have hS : unS l k (stF l k f) s (is, m') e = if (unF l k (stF l k f) s e m').1 then (some (.exit 0), (true, (unF l k (stF l k f) s e m').2)) else (none, (is, (unF l k (stF l k f) s e m').2)) := rfl
   rw [hS]
   generalize unF l k (stF l k f) s e m' = R at *
   obtain ⟨u, m2⟩ := R
   dsimp only at hun ⊢
   simp (disch:=omega) only [go_sem,simprocAttr,qN,qO,qP,qQ,rF,rG]
   repeat' (first|(with_reducible first|apply qA|apply qB|apply qC|apply qD|apply qE|apply qF)|(refine qL rfl (WF.of ?_) ?_; first|rfl|skip)|(refine DW.ord rfl (WF.of (by first|rfl|simp (disch:=omega) only [go_sem, simprocAttr, qN, qO, qP, qQ, rF, rG])) ?_ ?_ ?_; rotate_left)|rfl|(with_reducible refine And.intro ?_ ?_)|(simp (disch:=omega) only [go_sem, simprocAttr, qN, qO, qP, qQ, rF, rG])|exact qM rfl rfl rfl|(refine qG rfl ?_)|(refine qH rfl ?_)|(refine qI rfl ?_ ?_<;>intro hc<;>(try simp only [go_sem] at hc))|(refine qJ ?_ ?_<;>intro hc<;>(try simp only [hc])<;>(try simp only [go_sem] at hc)))
   refine call_h (h := [memB lm m']) (h' := [memB lm m2]) hun (Ent.refl _) rfl rfl rfl rfl (by decide) ?_
   simp (disch:=omega) only [go_sem,simprocAttr,qN,qO,qP,qQ,rF,rG]
   cases u with
   | true =>
    rw [if_pos rfl]
    repeat' (first|(with_reducible first|apply qA|apply qB|apply qC|apply qD|apply qE|apply qF)|(refine qL rfl (WF.of ?_) ?_; first|rfl|skip)|(refine DW.ord rfl (WF.of (by first|rfl|simp (disch:=omega) only [go_sem, simprocAttr, qN, qO, qP, qQ, rF, rG])) ?_ ?_ ?_; rotate_left)|rfl|(with_reducible refine And.intro ?_ ?_)|(simp (disch:=omega) only [go_sem, simprocAttr, qN, qO, qP, qQ, rF, rG])|exact qM rfl rfl rfl|(refine qG rfl ?_)|(refine qH rfl ?_)|(refine qI rfl ?_ ?_<;>intro hc<;>(try simp only [go_sem] at hc))|(refine qJ ?_ ?_<;>intro hc<;>(try simp only [hc])<;>(try simp only [go_sem] at hc)))
    refine round_end rfl rfl (Ent.to ?_ ?_) <;> simp (disch:=omega) only [qR,qS,qTw,qU,get,Nat.reduceEqDiff,↓reduceIte,qV,qW,qX,qY,qZ,and_self,dI,i64_in,and_true,true_and,rA,rB,rC,rD,capB,List.cons_append,List.nil_append]
   | false =>
    rw [if_neg (by decide)]
    repeat' (first|(with_reducible first|apply qA|apply qB|apply qC|apply qD|apply qE|apply qF)|(refine qL rfl (WF.of ?_) ?_; first|rfl|skip)|(refine DW.ord rfl (WF.of (by first|rfl|simp (disch:=omega) only [go_sem, simprocAttr, qN, qO, qP, qQ, rF, rG])) ?_ ?_ ?_; rotate_left)|rfl|(with_reducible refine And.intro ?_ ?_)|(simp (disch:=omega) only [go_sem, simprocAttr, qN, qO, qP, qQ, rF, rG])|exact qM rfl rfl rfl|(refine qG rfl ?_)|(refine qH rfl ?_)|(refine qI rfl ?_ ?_<;>intro hc<;>(try simp only [go_sem] at hc))|(refine qJ ?_ ?_<;>intro hc<;>(try simp only [hc])<;>(try simp only [go_sem] at hc)))
    refine round_end rfl rfl (Ent.to ?_ ?_) <;> simp (disch:=omega) only [qR,qS,qTw,qU,get,Nat.reduceEqDiff,↓reduceIte,qV,qW,qX,qY,qZ,and_self,dI,i64_in,and_true,true_and,rA,rB,rC,rD,capB,List.cons_append,List.nil_append]
  ·have hrun := un_run l k (stF l k f) s (bitsL s) (false, m)
   generalize runIt (unS l k (stF l k f) s) (false, m) (bitsL s) = R at *
   obtain ⟨o, is, m'⟩ := R
   dsimp only at hrun ⊢
   rcases hrun with rfl | rfl
   ·simp (disch:=omega) only [go_sem,simprocAttr,qN,qO,qP,qQ,Option.getD_none]
    repeat' (first|(with_reducible first|apply qA|apply qB|apply qC|apply qD|apply qE|apply qF)|(refine qL rfl (WF.of ?_) ?_; first|rfl|skip)|(refine DW.ord rfl (WF.of (by first|rfl|simp (disch:=omega) only [go_sem, simprocAttr, qN, qO, qP, qQ])) ?_ ?_ ?_; rotate_left)|rfl|(with_reducible refine And.intro ?_ ?_)|(simp (disch:=omega) only [go_sem, simprocAttr, qN, qO, qP, qQ])|exact qM rfl rfl rfl|(refine qG rfl ?_)|(refine qH rfl ?_)|(refine qI rfl ?_ ?_<;>intro hc<;>(try simp only [go_sem] at hc))|(refine qJ ?_ ?_<;>intro hc<;>(try simp only [hc])<;>(try simp only [go_sem] at hc)))
    exact retS_bs rfl rfl rfl (fun j x hj => by
     obtain ⟨rfl, rfl, hn⟩ := memB_nb lm _ hj
     exact ⟨rfl, hn⟩)
   ·simp (disch:=omega) only [go_sem,simprocAttr,qN,qO,qP,qQ,Option.getD_some]
    repeat' (first|(with_reducible first|apply qA|apply qB|apply qC|apply qD|apply qE|apply qF)|(refine qL rfl (WF.of ?_) ?_; first|rfl|skip)|(refine DW.ord rfl (WF.of (by first|rfl|simp (disch:=omega) only [go_sem, simprocAttr, qN, qO, qP, qQ])) ?_ ?_ ?_; rotate_left)|rfl|(with_reducible refine And.intro ?_ ?_)|(simp (disch:=omega) only [go_sem, simprocAttr, qN, qO, qP, qQ])|exact qM rfl rfl rfl|(refine qG rfl ?_)|(refine qH rfl ?_)|(refine qI rfl ?_ ?_<;>intro hc<;>(try simp only [go_sem] at hc))|(refine qJ ?_ ?_<;>intro hc<;>(try simp only [hc])<;>(try simp only [go_sem] at hc)))
    exact retS_bs rfl rfl rfl (fun j x hj => by
     obtain ⟨rfl, rfl, hn⟩ := memB_nb lm _ hj
     exact ⟨rfl, hn⟩)
theorem crStands0 (l : List Lod) (k : Int) (lm : Nat) : StC l k lm 0 := by
 intro s m hf hs hb
 obtain rfl : s = 0 := by omega
 refine DCall.of Tryd.func52 sf52 hb52 (Nat.le_of_ble_eq_true rfl) (memB_ok _ (fun _ => rfl) _ _) ?_
 simp only [s52, o52_0, o52_1, o52_2, o52_3, o52_4, o52_5, o52_6, o52_7, o52_8, o52_9, o52_10, o52_11, idxs, Nat.reduceAdd]
 have hz : (((0 : Nat) : Int) == 0) = true := rfl
 rw [stF]
 repeat' (first|(with_reducible first|apply qA|apply qB|apply qC|apply qD|apply qE|apply qF)|(refine qL rfl (WF.of ?_) ?_; first|rfl|skip)|(refine DW.ord rfl (WF.of (by first|rfl|simp (disch:=omega) only [go_sem, simprocAttr, qN, qO, qP, qQ, hz])) ?_ ?_ ?_; rotate_left)|rfl|(with_reducible refine And.intro ?_ ?_)|(simp (disch:=omega) only [go_sem, simprocAttr, qN, qO, qP, qQ, hz])|exact qM rfl rfl rfl|(refine qG rfl ?_)|(refine qH rfl ?_)|(refine qI rfl ?_ ?_<;>intro hc<;>(try simp only [go_sem] at hc))|(refine qJ ?_ ?_<;>intro hc<;>(try simp only [hc])<;>(try simp only [go_sem] at hc)))
 exact retS_bs rfl rfl rfl (fun j x hj => by
  obtain ⟨rfl, rfl, hn⟩ := memB_nb lm m hj
  exact ⟨rfl, hn⟩)
theorem crStands (l : List Lod) (h : ∀ x ∈ l, x.ok) (k : Int) (hk : 0 ≤ k ∧ k ≤ 1000) (lm : Nat) : ∀ f, StC l k lm f
 | 0 => crStands0 l k lm
 | f + 1 => crStands1 l h k hk lm f (crStands l h k hk lm f)
def stB (l : List Lod) (k : Int) : Nat → Nat → Bool
 | 0, _ => true
 | f + 1, s => decide (s = 0) || (bitsL s).any (fun e => decide (wtI l (remB s e) ≤ bearsAt l k e) && stB l k f (remB s e))
def stI (l : List Lod) (k : Int) (s : Nat) : Bool := stB l k s s
theorem any_congr {α : Type} {p q : α → Bool} : ∀ {L : List α}, (∀ e ∈ L, p e = q e) → L.any p = L.any q
 | [], _ => rfl
 | e :: L, h => by rw [List.any_cons, List.any_cons, h e (by simp), any_congr (fun x hx => h x (by simp [hx]))]
theorem stB_fuel (l : List Lod) (k : Int) : ∀ (f g s : Nat), s ≤ f → s ≤ g → s < 1024 → stB l k f s = stB l k g s
 | 0, 0, _, _, _, _ => rfl
 | 0, g + 1, s, h1, _, _ => by
  obtain rfl : s = 0 := by omega
  simp [stB]
 | f + 1, 0, s, _, h1, _ => by
  obtain rfl : s = 0 := by omega
  simp [stB]
 | f + 1, g + 1, s, h1, h2, hs => by
  simp only [stB]
  congr 1
  refine any_congr fun e he => ?_
  have hlt := remB_mem hs he
  rw [stB_fuel l k f g (remB s e) (by omega) (by omega) (by omega)]
theorem stI_eq (l : List Lod) (k : Int) {s : Nat} (hs : s < 1024) : stI l k s = (decide (s = 0) || (bitsL s).any (fun e => decide (wtI l (remB s e) ≤ bearsAt l k e) && stI l k (remB s e))) := by
 rcases s with _ | s
 ·simp [stI, stB]
 ·rw [stI, stB]
  congr 1
  refine any_congr fun e he => ?_
  have hlt := remB_mem hs he
  rw [stI, stB_fuel l k s (remB (s + 1) e) (remB (s + 1) e) (by omega) (Nat.le_refl _) (by omega)]
def MemoOk (l : List Lod) (k : Int) (m : Memo) : Prop := ∀ s b, mFind m s = some b → b = stI l k s
theorem memoOk_upd {l : List Lod} {k : Int} {m : Memo} (h : MemoOk l k m) {s : Nat} {b : Bool} (hb : b = stI l k s) : MemoOk l k (mUpd m s b) := fun t c hc => by
 rw [find_upd] at hc
 split at hc
 ·rename_i e; cases hc; rw [e]; exact hb
 ·exact h t c hc
theorem un_ok {l : List Lod} {k : Int} {s : Nat} (hs : s < 1024) {rec : Nat → Memo → Bool × Memo} (hr : ∀ t m, t < s → MemoOk l k m → (rec t m).1 = stI l k t ∧ MemoOk l k (rec t m).2) {e : Nat} (he : e ∈ bitsL s) {m : Memo} (hm : MemoOk l k m) :
  (unF l k rec s e m).1 = (decide (wtI l (remB s e) ≤ bearsAt l k e) && stI l k (remB s e)) ∧ MemoOk l k (unF l k rec s e m).2 := by
 have := hr _ m (remB_mem hs he) hm
 unfold unF
 split
 ·rename_i h; rw [decide_eq_true h, Bool.true_and]; exact this
 ·rename_i h; rw [decide_eq_false h]; exact ⟨rfl, hm⟩
theorem unS_ok {l : List Lod} {k : Int} {s : Nat} (hs : s < 1024) {rec : Nat → Memo → Bool × Memo} (hr : ∀ t m, t < s → MemoOk l k m → (rec t m).1 = stI l k t ∧ MemoOk l k (rec t m).2) : ∀ (L : List Nat) (m : Memo), (∀ e ∈ L, e ∈ bitsL s) → MemoOk l k m →
  (runIt (unS l k rec s) (false, m) L).2.1 = L.any (fun e => decide (wtI l (remB s e) ≤ bearsAt l k e) && stI l k (remB s e)) ∧ MemoOk l k (runIt (unS l k rec s) (false, m) L).2.2
 | [], m, _, hm => ⟨rfl, hm⟩
 | e :: L, m, hL, hm => by
  obtain ⟨h1, h2⟩ := un_ok hs hr (hL e (by simp)) hm
  simp only [runIt, unS, List.any_cons]
  rw [← h1]
  cases hu : (unF l k rec s e m).1 with
  | true => exact ⟨rfl, h2⟩
  | false => exact unS_ok hs hr L _ (fun x hx => hL x (by simp [hx])) h2
theorem stF_ok (l : List Lod) (k : Int) : ∀ (f s : Nat) (m : Memo), s ≤ f → s < 1024 → MemoOk l k m → (stF l k f s m).1 = stI l k s ∧ MemoOk l k (stF l k f s m).2
 | 0, s, m, hf, _, hm => by
  obtain rfl : s = 0 := by omega
  exact ⟨rfl, hm⟩
 | f + 1, s, m, hf, hs, hm => by
  rw [stF]
  by_cases h0 : s = 0
  ·rw [if_pos h0, h0]
   exact ⟨rfl, hm⟩
  ·rw [if_neg h0]
   cases hfd : mFind m s with
   | some b => exact ⟨hm s b hfd, hm⟩
   | none =>
    obtain ⟨h1, h2⟩ := unS_ok hs (rec := stF l k f) (fun t m ht hm => stF_ok l k f t m (by omega) (by omega) hm) (bitsL s) m (fun _ h => h) hm
    have h3 : (runIt (unS l k (stF l k f) s) (false, m) (bitsL s)).2.1 = stI l k s := by
     rw [h1, stI_eq l k hs, decide_eq_false h0, Bool.false_or]
    exact ⟨h3, memoOk_upd h2 h3⟩
theorem crStandsI (l : List Lod) (h : ∀ x ∈ l, x.ok) (k : Int) (hk : 0 ≤ k ∧ k ≤ 1000) (lm s : Nat) (hs : s < 1024) (hb : inB l.length s) (m : Memo) (hm : MemoOk l k m) : ∃ m', MemoOk l k m' ∧ DCall Tryd.prog 52 [pilD l k lm, dU s] [memB lm m] (bD (stI l k s)) [memB lm m'] := by
 obtain ⟨h1, h2⟩ := stF_ok l k s s m (Nat.le_refl _) hs hm
 have := crStands l h k hk lm s s m (Nat.le_refl _) hs hb
 rw [h1] at this
 exact ⟨_, h2, this⟩
def unI (l : List Lod) (k : Int) (s e : Nat) : Bool := decide (wtI l (remB s e) ≤ bearsAt l k e) && stI l k (remB s e)
end Go.Dw.Seat.Cr
end
section
set_option linter.unusedSimpArgs false
set_option maxRecDepth 100000
namespace Go.Dw.Seat.Cr
open Go Go.Dw Go.Proofs Go.IntWalk
abbrev pilBs (l : List Lod) (k : Int) : List (Nat × Blk) := [(30, .box [.c (.sl false 4 (rows eLd l)), dI k, .hd 28]), (28, .map [] [])]
theorem pilBs_ok (l : List Lod) (k : Int) : okRes (.tup [.box 30 0, dI 0]) (pilBs l k) := by
 have hg : ∀ j, get j (pilBs l k) = none → j ≠ 30 ∧ j ≠ 28 := fun j hj => by
  constructor <;> (rintro rfl; cases hj)
 refine ⟨fun j hj => ?_, fun i x hi j hj => ?_⟩
 ·obtain ⟨h1, h2⟩ := hg j hj
  simp only [D.men, D.mens, Bool.or_false, beq_eq_false_iff_ne]
  omega
 ·obtain ⟨h1, h2⟩ := hg j hj
  have := get_mem hi
  simp only [List.mem_cons, Prod.mk.injEq, List.not_mem_nil, or_false] at this
  rcases this with ⟨_, rfl⟩ | ⟨_, rfl⟩
  ·simp only [Blk.men, D.men, D.mens, Bool.or_false, Bool.false_or, beq_eq_false_iff_ne]
   omega
  ·rfl
theorem crPiler (l : List Lod) (h : ∀ b ∈ l, b.ok) (hl : l.length ≤ 10) (t : List (Int × Int)) (days : Int) (ht : TabOk t days) : DCall Tryd.prog 51 [.c (.sl false 4 (rows eLd l)), .c (.sl false 2 (rows eK t)), dI days] [] (.tup [.box 30 0, dI 0]) (pilBs l (lastI days t 0)) := by
 have h1 := crBoxes false l 10 (by omega) (by omega) h
 have h2 := crTable t days ht
 have hlen := ht.len
 have h3 := crLast false t days (by omega)
 refine DCall.of Tryd.func51 sf51 hb51 (Nat.le_of_ble_eq_true rfl) (pilBs_ok _ _) ?_
 simp only [s51, idxs, Nat.reduceAdd]
 repeat' (first|(with_reducible first|apply qA|apply qB|apply qC|apply qD|apply qE|apply qF)|(simp (disch:=omega) only [go_sem, simprocAttr, qN, qO, qP, qQ])|exact qM rfl rfl rfl|(refine qG rfl ?_)|(refine qK (h1) (by decide) ?_)|(refine qK (h2) (by decide) ?_)|(refine qK (h3) (by decide) ?_)|(refine qH rfl ?_)|(refine qI rfl ?_ ?_<;>intro hc<;>(try simp only [go_sem] at hc))|(refine qJ ?_ ?_<;>intro hc<;>(try simp only [hc])<;>(try simp only [go_sem] at hc)))
 refine retS_bs rfl rfl rfl (get_all (p := fun k x => get k _ = some x ∧ x.nb = true) ?_)
 intro q hq
 simp only [List.mem_cons, Prod.mk.injEq, List.not_mem_nil, or_false] at hq
 rcases hq with rfl | rfl
 ·exact ⟨rfl, (by simp only [List.all_cons, List.all_nil, Blk.nb, rowC_nb, D.nb, D.nbs, C.nb, C.nbs, C.nbss, rows_nb eI_nb, Bool.and_true, Bool.not_false, Bool.and_self, bD, dI, iD, rows_nb eK_nb, rows_nb eLd_nb])⟩
 ·exact ⟨rfl, rfl⟩
def apS (a : List Int) (e : Nat) : Option Exit × List Int := (none, a ++ [(e : Int)])
theorem ap_run : ∀ (L : List Nat) (a : List Int), runIt apS a L = (none, a ++ nL L)
 | [], a => by simp [runIt, nL]
 | e :: L, a => by
  simp only [runIt, apS, ap_run L]
  simp [nL]
set_option maxHeartbeats 1000000 in
theorem crAppSeq (s : Nat) (hs : s < 1024) : DCall Tryd.prog 75 [.c (.v (.slice none 0 0)), .c (.fn (.func 53) [.v (.int .u64 s)] [])] [] (dIs false (nL (bitsL s))) [] := by
 have hit := crAllB s hs
 have hbl := bits_len s
 refine DCall.of Tryd.func75 sf75 hb75 (Nat.le_of_ble_eq_true rfl) (okRes_nil fun _ => rfl) ?_; simp only [s75, idxs, Nat.reduceAdd]
 repeat' (first|(with_reducible first|apply qA|apply qB|apply qC|apply qD|apply qE|apply qF)|(simp (disch:=omega) only [go_sem, simprocAttr, qN, qO, qP, qQ])|exact qM rfl rfl rfl|(refine qG rfl ?_)|(refine qH rfl ?_)|(refine qI rfl ?_ ?_<;>intro hc<;>(try simp only [go_sem] at hc))|(refine qJ ?_ ?_<;>intro hc<;>(try simp only [hc])<;>(try simp only [go_sem] at hc)))
 (refine DW.ent (Ent.adoptB 2 0 11 1 rfl rfl rfl rfl) ?_; simp only [ins, Nat.reduceLT, Nat.reduceEqDiff, ↓reduceIte, List.set_cons_zero, List.set_cons_succ])
 refine DW.rngBS (fs := [dU s]) (caps := []) (fun y : List Int => [(11, .row 1 (rowC (rows eI y))), (2, .box [.own 11])]) [] apS enB (fun e => e ∈ bitsL s) (bitsL s) hit (fun t y => y.length + t.length ≤ 10) (by simpa using hbl) (fun a e t ha he _ => by simp only [apS, List.length_append, List.length_cons, List.length_nil] at ha ⊢; omega) rfl (fun _ => ⟨rfl, rfl⟩) rfl (by decide) (fun _ _ => rfl) (fun _ _ _ => rfl) (by simp only [List.map_cons, List.map_nil]; decide) (fun _ => rfl) (fun _ => wf_row rfl rfl) (fun _ => nb_row eI_nb _ rfl) (by simp only [List.all_cons, List.all_nil, Blk.nb, rowC_nb, D.nb, D.nbs, C.nb, C.nbs, C.nbss, rows_nb eI_nb, Bool.and_true, Bool.not_false, Bool.and_self, bD, dI, iD, rows_nb eK_nb, rows_nb eLd_nb]) (fun _ _ => rfl) ?_ ?_
 ·rintro y e t hy he v
  have hy : y.length ≤ 10 := by omega
  simp (disch:=omega) only [go_sem,simprocAttr,qN,qO,qP,qQ,rF,rG,apS]
  repeat' (first|(with_reducible first|apply qA|apply qB|apply qC|apply qD|apply qE|apply qF)|(simp (disch:=omega) only [go_sem, simprocAttr, qN, qO, qP, qQ, rF, rG])|exact qM rfl rfl rfl|(refine qG rfl ?_)|(refine qH rfl ?_)|(refine qI rfl ?_ ?_<;>intro hc<;>(try simp only [go_sem] at hc))|(refine qJ ?_ ?_<;>intro hc<;>(try simp only [hc])<;>(try simp only [go_sem] at hc)))
  refine round_end rfl rfl (Ent.to ?_ ?_) <;> simp (disch:=omega) only [qR,qS,qTw,qU,get,Nat.reduceEqDiff,↓reduceIte,qV,qW,qX,qY,qZ,and_self,dI,i64_in,and_true,true_and,rA,rB,rC,rD,capB,List.cons_append,List.nil_append,rowC_snocI]
 ·rw [ap_run]
  repeat' (first|(with_reducible first|apply qA|apply qB|apply qC|apply qD|apply qE|apply qF)|(simp (disch:=omega) only [go_sem, simprocAttr, qN, qO, qP, qQ])|exact qM rfl rfl rfl|(refine qG rfl ?_)|(refine qH rfl ?_)|(refine qI rfl ?_ ?_<;>intro hc<;>(try simp only [go_sem] at hc))|(refine qJ ?_ ?_<;>intro hc<;>(try simp only [hc])<;>(try simp only [go_sem] at hc)))
  (refine retS_ent (Ent.rel 11 rfl) ?_; simp (disch:=omega) only [go_sem,simprocAttr,qN,qO,qP,qQ])
  refine retS_wk rfl ?_ (by simp only [Blk.nb, rowC_nb, D.nb, D.nbs, C.nb, C.nbs, C.nbss, rows_nb eI_nb, Bool.and_true, Bool.not_false, Bool.and_self, bD, dI, iD, rows_nb eK_nb, rows_nb eLd_nb]); exact .refl _
end Go.Dw.Seat.Cr
end
section
set_option linter.unusedSimpArgs false
set_option maxRecDepth 100000
namespace Go.Dw.Seat.Cr
open Go Go.Dw Go.Proofs Go.IntWalk
theorem crNaN (a : Int) : DCall Tryd.prog 80 [dI a] [] (bD false) [] := by
 refine DCall.of Tryd.func80 sf80 hb80 (Nat.le_of_ble_eq_true rfl) (okRes_nil fun _ => rfl) ?_; simp only [s80, idxs, Nat.reduceAdd]
 repeat' (first|(with_reducible first|apply qA|apply qB|apply qC|apply qD|apply qE|apply qF)|(simp (disch:=omega) only [go_sem, simprocAttr, Blk.men, Blk.keysIn])|exact qM rfl rfl rfl|(refine qG rfl ?_)|(refine qH rfl ?_)|(refine qI rfl ?_ ?_<;>intro hc<;>(try simp only [go_sem] at hc))|(refine qJ ?_ ?_<;>intro hc<;>(try simp only [hc])<;>(try simp only [go_sem] at hc)))
def cmpI (a b : Int) : Int := if a < b then -1 else if b < a then 1 else 0
theorem crCmp (a b : Int) : DCall Tryd.prog 76 [dI a, dI b] [] (dI (cmpI a b)) [] := by
 have h1 := crNaN a
 have h2 := crNaN b
 by_cases hab : a < b
 ·have d1 : decide (a < b) = true := decide_eq_true hab
  have e : cmpI a b = -1 := if_pos hab
  rw [e]
  refine DCall.of Tryd.func76 sf76 hb76 (Nat.le_of_ble_eq_true rfl) (okRes_nil fun _ => rfl) ?_; simp only [s76, idxs, Nat.reduceAdd]
  repeat' (first|(with_reducible first|apply qA|apply qB|apply qC|apply qD|apply qE|apply qF)|(simp (disch:=omega) only [go_sem, simprocAttr, Blk.men, Blk.keysIn, d1])|exact qM rfl rfl rfl|(refine qG rfl ?_)|(refine qK (h1) (by decide) ?_)|(refine qK (h2) (by decide) ?_)|(refine qH rfl ?_)|(refine qI rfl ?_ ?_<;>intro hc<;>(try simp only [go_sem] at hc))|(refine qJ ?_ ?_<;>intro hc<;>(try simp only [hc])<;>(try simp only [go_sem] at hc)))
 have d1 : decide (a < b) = false := decide_eq_false hab
 by_cases hba : b < a
 ·have d2 : decide (b < a) = true := decide_eq_true hba
  have e : cmpI a b = 1 := by rw [cmpI, if_neg hab, if_pos hba]
  rw [e]
  refine DCall.of Tryd.func76 sf76 hb76 (Nat.le_of_ble_eq_true rfl) (okRes_nil fun _ => rfl) ?_; simp only [s76, idxs, Nat.reduceAdd]
  repeat' (first|(with_reducible first|apply qA|apply qB|apply qC|apply qD|apply qE|apply qF)|(simp (disch:=omega) only [go_sem, simprocAttr, Blk.men, Blk.keysIn, d1, d2])|exact qM rfl rfl rfl|(refine qG rfl ?_)|(refine qK (h1) (by decide) ?_)|(refine qK (h2) (by decide) ?_)|(refine qH rfl ?_)|(refine qI rfl ?_ ?_<;>intro hc<;>(try simp only [go_sem] at hc))|(refine qJ ?_ ?_<;>intro hc<;>(try simp only [hc])<;>(try simp only [go_sem] at hc)))
 ·have d2 : decide (b < a) = false := decide_eq_false hba
  have e : cmpI a b = 0 := by rw [cmpI, if_neg hab, if_neg hba]
  rw [e]
  refine DCall.of Tryd.func76 sf76 hb76 (Nat.le_of_ble_eq_true rfl) (okRes_nil fun _ => rfl) ?_; simp only [s76, idxs, Nat.reduceAdd]
  repeat' (first|(with_reducible first|apply qA|apply qB|apply qC|apply qD|apply qE|apply qF)|(simp (disch:=omega) only [go_sem, simprocAttr, Blk.men, Blk.keysIn, d1, d2])|exact qM rfl rfl rfl|(refine qG rfl ?_)|(refine qK (h1) (by decide) ?_)|(refine qK (h2) (by decide) ?_)|(refine qH rfl ?_)|(refine qI rfl ?_ ?_<;>intro hc<;>(try simp only [go_sem] at hc))|(refine qJ ?_ ?_<;>intro hc<;>(try simp only [hc])<;>(try simp only [go_sem] at hc)))
def cmpL : List Int → List Int → Int
 | [], [] => 0
 | [], _ :: _ => -1
 | _ :: _, [] => 1
 | a :: s, b :: t => if cmpI a b = 0 then cmpL s t else cmpI a b
theorem drop_cons {α : Type} {l : List α} {i : Nat} {v : α} (h : l[i]? = some v) : l.drop i = v :: l.drop (i + 1) := by
 have hlt := (List.getElem?_eq_some_iff.1 h).1
 have e : l[i] = v := (List.getElem?_eq_some_iff.1 h).2
 rw [← e]; exact List.drop_eq_getElem_cons hlt
theorem crCmpL (b1 b2 : Bool) (s t : List Int) (hs : s.length ≤ 2 ^ 36) (ht : t.length ≤ 2 ^ 36) : DCall Tryd.prog 39 [dIs b1 s, dIs b2 t] [] (dI (cmpL s t)) [] := by
 generalize hR : cmpL s t = R
 refine DCall.of Tryd.func39 sf39 hb39 (Nat.le_of_ble_eq_true rfl) (okRes_nil fun _ => rfl) ?_; simp only [s39, idxs, Nat.reduceAdd]
 repeat' (first|(with_reducible first|apply qA|apply qB|apply qC|apply qD|apply qE|apply qF)|(simp (disch:=omega) only [go_sem, simprocAttr, Blk.men, Blk.keysIn])|exact qM rfl rfl rfl|(refine qG rfl ?_)|(refine qH rfl ?_)|(refine qI rfl ?_ ?_<;>intro hc<;>(try simp only [go_sem] at hc))|(refine qJ ?_ ?_<;>intro hc<;>(try simp only [hc])<;>(try simp only [go_sem] at hc)))
 refine DW.loop (ι := { i : Nat // i ≤ s.length ∧ i ≤ t.length ∧ cmpL (s.drop i) (t.drop i) = R }) (fun i => ⟨36, [(11, dI i.1), (10, dI s.length), (9, dIs b1 s), (1, dIs b2 t), (0, dIs b1 s)], []⟩) (fun i => s.length - i.1) ⟨0, Nat.zero_le _, Nat.zero_le _, hR⟩ ?_ ?_
 ·refine Ent.to ?_ ?_ <;> simp (disch:=omega) only [qR,qS,qTw,qU,get,Nat.reduceEqDiff,↓reduceIte,qV,qW,qX,qY,qZ,and_self,dI,i64_in,and_true,true_and,rA,rB,rC,rD]
 rintro ⟨i, hi, hit, hr⟩
 rcases at_or s i hi with ⟨v, hv, hlt, hd⟩ | ⟨he, hd⟩
 ·rw [drop_cons hv] at hr
  rcases Nat.lt_or_ge i t.length with hlt2 | hge
  ·obtain ⟨u, hu⟩ := getE (l := t) (i := i) hlt2
   have hdt : decide ((t.length : Int) ≤ (i : Int)) = false := by rw [decide_eq_false_iff_not]; omega
   have hc := crCmp v u
   rw [drop_cons hu, cmpL] at hr
   by_cases h0 : cmpI v u = 0
   ·have e : (cmpI v u != 0) = false := by rw [h0]; rfl
    rw [if_pos h0] at hr
    repeat' (first|(with_reducible first|apply qA|apply qB|apply qC|apply qD|apply qE|apply qF)|(simp (disch:=omega) only [go_sem, simprocAttr, Blk.men, Blk.keysIn, hd, hv, hdt, hu, e])|exact qM rfl rfl rfl|(refine qG rfl ?_)|(refine qK (hc) (by decide) ?_)|(refine qH rfl ?_)|(refine qI rfl ?_ ?_<;>intro hc<;>(try simp only [go_sem] at hc))|(refine qJ ?_ ?_<;>intro hc<;>(try simp only [hc])<;>(try simp only [go_sem] at hc)))
    refine ⟨⟨i + 1, hlt, hlt2, hr⟩, ?_, Ent.to ?_ ?_⟩ <;> first | (show _ < _; (try simp only); omega) | (simp (disch:=omega) only [qR,qS,qTw,qU,get,Nat.reduceEqDiff,↓reduceIte,qV,qW,qX,qY,qZ,and_self,dI,i64_in,and_true,true_and,rA,rB,rC,rD])
   ·have e : (cmpI v u != 0) = true := by simpa using h0
    rw [if_neg h0] at hr
    repeat' (first|(with_reducible first|apply qA|apply qB|apply qC|apply qD|apply qE|apply qF)|(simp (disch:=omega) only [go_sem, simprocAttr, Blk.men, Blk.keysIn, hd, hv, hdt, hu, e])|exact qM rfl rfl rfl|(refine qG rfl ?_)|(refine qK (hc) (by decide) ?_)|(refine qH rfl ?_)|(refine qI rfl ?_ ?_<;>intro hc<;>(try simp only [go_sem] at hc))|(refine qJ ?_ ?_<;>intro hc<;>(try simp only [hc])<;>(try simp only [go_sem] at hc)))
    refine retS_of rfl ?_ rfl; simp only [oneD, St.op, get, Nat.reduceEqDiff, ↓reduceIte, Option.getD_some, bD, dI]
    rw [← hr]
  ·have hdt : decide ((t.length : Int) ≤ (i : Int)) = true := by rw [decide_eq_true_eq]; omega
   rw [List.drop_of_length_le hge, cmpL] at hr
   repeat' (first|(with_reducible first|apply qA|apply qB|apply qC|apply qD|apply qE|apply qF)|(simp (disch:=omega) only [go_sem, simprocAttr, Blk.men, Blk.keysIn, hd, hv, hdt])|exact qM rfl rfl rfl|(refine qG rfl ?_)|(refine qH rfl ?_)|(refine qI rfl ?_ ?_<;>intro hc<;>(try simp only [go_sem] at hc))|(refine qJ ?_ ?_<;>intro hc<;>(try simp only [hc])<;>(try simp only [go_sem] at hc)))
   refine retS_of rfl ?_ rfl; simp only [oneD, St.op, get, Nat.reduceEqDiff, ↓reduceIte, Option.getD_some, bD, dI]
   rw [← hr]
 ·rw [List.drop_of_length_le (by omega : s.length ≤ i)] at hr
  rcases Nat.lt_or_ge s.length t.length with h1 | h1
  ·have hdl : decide ((s.length : Int) < (t.length : Int)) = true := by rw [decide_eq_true_eq]; omega
   obtain ⟨u, hu⟩ := getE (l := t) (i := i) (by omega)
   rw [drop_cons hu, cmpL] at hr
   repeat' (first|(with_reducible first|apply qA|apply qB|apply qC|apply qD|apply qE|apply qF)|(simp (disch:=omega) only [go_sem, simprocAttr, Blk.men, Blk.keysIn, hd, hdl])|exact qM rfl rfl rfl|(refine qG rfl ?_)|(refine qH rfl ?_)|(refine qI rfl ?_ ?_<;>intro hc<;>(try simp only [go_sem] at hc))|(refine qJ ?_ ?_<;>intro hc<;>(try simp only [hc])<;>(try simp only [go_sem] at hc)))
   refine retS_of rfl ?_ rfl; simp only [oneD, St.op, get, Nat.reduceEqDiff, ↓reduceIte, Option.getD_some, bD, dI]
   rw [← hr]
  ·have hdl : decide ((s.length : Int) < (t.length : Int)) = false := by rw [decide_eq_false_iff_not]; omega
   rw [List.drop_of_length_le (by omega : t.length ≤ i), cmpL] at hr
   repeat' (first|(with_reducible first|apply qA|apply qB|apply qC|apply qD|apply qE|apply qF)|(simp (disch:=omega) only [go_sem, simprocAttr, Blk.men, Blk.keysIn, hd, hdl])|exact qM rfl rfl rfl|(refine qG rfl ?_)|(refine qH rfl ?_)|(refine qI rfl ?_ ?_<;>intro hc<;>(try simp only [go_sem] at hc))|(refine qJ ?_ ?_<;>intro hc<;>(try simp only [hc])<;>(try simp only [go_sem] at hc)))
   refine retS_of rfl ?_ rfl; simp only [oneD, St.op, get, Nat.reduceEqDiff, ↓reduceIte, Option.getD_some, bD, dI]
   rw [← hr]
end Go.Dw.Seat.Cr
end
section
set_option linter.unusedSimpArgs false
set_option maxRecDepth 100000
namespace Go.Dw.Seat.Cr
open Go Go.Dw Go.Proofs Go.IntWalk
theorem crCollect (s : Nat) (hs : s < 1024) : DCall Tryd.prog 38 [.c (.fn (.func 53) [.v (.int .u64 s)] [])] [] (dIs false (nL (bitsL s))) [] := by
 have h1 := crAppSeq s hs
 refine DCall.of Tryd.func38 sf38 hb38 (Nat.le_of_ble_eq_true rfl) (okRes_nil fun _ => rfl) ?_; simp only [s38, idxs, Nat.reduceAdd]
 repeat' (first|(with_reducible first|apply qA|apply qB|apply qC|apply qD|apply qE|apply qF)|(simp (disch:=omega) only [go_sem, simprocAttr, qN, qO, qP, qQ])|exact qM rfl rfl rfl|(refine qG rfl ?_)|(refine qK (h1) (by decide) ?_)|(refine qH rfl ?_)|(refine qI rfl ?_ ?_<;>intro hc<;>(try simp only [go_sem] at hc))|(refine qJ ?_ ?_<;>intro hc<;>(try simp only [hc])<;>(try simp only [go_sem] at hc)))
 refine retS_wk rfl ?_ (by simp only [Blk.nb, rowC_nb, D.nb, D.nbs, C.nb, C.nbs, C.nbss, rows_nb eI_nb, Bool.and_true, Bool.not_false, Bool.and_self, bD, dI, iD, rows_nb eK_nb, rows_nb eLd_nb]); exact .refl _
theorem shl_u0 : ∀ n : Fin 11, shlI IntKind.u64 1 n.1 = ((2 ^ n.1 : Nat) : Int) := by decide +kernel
theorem shl_u {n : Nat} (h : n ≤ 10) : shlI IntKind.u64 1 n = ((2 ^ n : Nat) : Int) := shl_u0 ⟨n, by omega⟩
theorem pow_le10 {n : Nat} (h : n ≤ 10) : 2 ^ n ≤ 1024 := by
 have := Nat.pow_le_pow_right (n := 2) (by decide) h
 simpa using this
theorem inB_of {n s : Nat} (hn : n ≤ 10) (hs : s < 2 ^ n) : inB n s := fun e he => by
 have h1 := (List.mem_filter.1 he).2
 rcases Nat.lt_or_ge e n with h | h
 ·exact h
 ·have := Nat.testBit_lt_two_pow (Nat.lt_of_lt_of_le hs (Nat.pow_le_pow_right (by decide) h))
  rw [this] at h1; cases h1
def bestS (l : List Lod) (k : Int) (best : List Int) (s : Nat) : List Int :=
 if stI l k s then (if decide ((best.length : Int) < (nL (bitsL s)).length) || (((nL (bitsL s)).length : Int) == best.length && decide (cmpL (nL (bitsL s)) best < 0)) then nL (bitsL s) else best) else best
def mostI (l : List Lod) (k : Int) : List Int := (List.range (2 ^ l.length)).foldl (bestS l k) []
theorem bestS_len (l : List Lod) (k : Int) (best : List Int) (s : Nat) (h : best.length ≤ 10) : (bestS l k best s).length ≤ 10 := by
 have := bits_len s
 have e := nL_length (bitsL s)
 unfold bestS
 split
 ·split
  ·omega
  ·exact h
 ·exact h
theorem most_len (l : List Lod) (k : Int) : ∀ (L : List Nat) (best : List Int), best.length ≤ 10 → (L.foldl (bestS l k) best).length ≤ 10
 | [], _, h => h
 | s :: L, best, h => most_len l k L _ (bestS_len l k best s h)
set_option maxHeartbeats 2000000 in
theorem crMost (l : List Lod) (h : ∀ b ∈ l, b.ok) (hl : l.length ≤ 10) (t : List (Int × Int)) (days : Int) (ht : TabOk t days) : DCall Tryd.prog 22 [.c (.sl false 4 (rows eLd l)), .c (.sl false 2 (rows eK t)), dI days] [] (.tup [dIs false (mostI l (lastI days t 0)), dI 0]) [] := by
 have h1 := crPiler l h hl t days ht
 have hk := lastI_b days t 0 (fun s hs => (ht.mem s hs).2) (by decide)
 have hsh := shl_u hl
 have hpw := pow_le10 hl
 generalize lastI days t 0 = k at *
 refine DCall.of Tryd.func22 sf22 hb22 (Nat.le_of_ble_eq_true rfl) (okRes_nil fun _ => rfl) ?_; simp only [s22, idxs, Nat.reduceAdd]
 repeat' (first|(with_reducible first|apply qA|apply qB|apply qC|apply qD|apply qE|apply qF)|(simp (disch:=omega) only [go_sem, simprocAttr, qN, qO, qP, qQ])|exact qM rfl rfl rfl|(refine qG rfl ?_)|(refine qH rfl ?_)|(refine qI rfl ?_ ?_<;>intro hc<;>(try simp only [go_sem] at hc))|(refine qJ ?_ ?_<;>intro hc<;>(try simp only [hc])<;>(try simp only [go_sem] at hc)))
 refine call_b h1 ⟨⟨trivial, rfl, rfl, rfl⟩, rfl, rfl, rfl⟩ (by decide) ?_
 simp only [St.addBs, St.putB, St.putO, St.put]
 repeat' (first|(with_reducible first|apply qA|apply qB|apply qC|apply qD|apply qE|apply qF)|(simp (disch:=omega) only [go_sem, simprocAttr, qN, qO, qP, qQ, hsh])|exact qM rfl rfl rfl|(refine qG rfl ?_)|(refine qH rfl ?_)|(refine qI rfl ?_ ?_<;>intro hc<;>(try simp only [go_sem] at hc))|(refine qJ ?_ ?_<;>intro hc<;>(try simp only [hc])<;>(try simp only [go_sem] at hc)))
 refine DW.pin 28 rfl rfl fun lm => ?_
 simp (disch:=omega) only [go_sem,simprocAttr,qN,qO,qP,qQ,pinT,pinX,pinD,pinDs,pinB,pinO]
 refine DW.ent (Ent.rel 30 rfl) ?_
 simp (disch:=omega) only [go_sem,simprocAttr,qN,qO,qP,qQ]
 refine DW.loop (ι := { i : Nat × Memo // i.1 ≤ 2 ^ l.length ∧ MemoOk l k i.2 }) (fun i => ⟨55, [(24, dU i.1.1), (23, dU (2 ^ l.length)), (8, pilD l k lm), (6, dIs false ((List.range i.1.1).foldl (bestS l k) []))], [memB lm i.1.2]⟩) (fun i => 2 ^ l.length - i.1.1) ⟨(0, []), Nat.zero_le _, fun _ _ h => by cases h⟩ ?_ ?_
 ·refine Ent.to ?_ ?_ <;> simp (disch:=omega) only [qR,qS,qTw,qU,get,Nat.reduceEqDiff,↓reduceIte,qV,qW,qX,qY,qZ,and_self,dI,i64_in,and_true,true_and,rA,rB,rC,rD]
  ·exact ⟨.refl _, .nil _ _⟩
  ·exact .refl _
 rintro ⟨⟨i, m⟩, hi, hm⟩
 dsimp only at hi hm ⊢
 have hbl := most_len l k (List.range i) [] (by simp)
 rcases Nat.lt_or_ge i (2 ^ l.length) with hlt | hge
 ·have hd : decide ((i : Int) < ((2 ^ l.length : Nat) : Int)) = true := by rw [decide_eq_true_eq]; omega
  have hw : IntKind.u64.wrap ((i : Int) + 1) = (i : Int) + 1 := IntWalk.u64_in _ (by omega)
  have hcol := crCollect i (by omega)
  have hL := bits_len i
  have hLn := nL_length (bitsL i)
  have hc3 := crCmpL false false (nL (bitsL i)) ((List.range i).foldl (bestS l k) []) (by omega) (by omega)
  obtain ⟨m', hm', hst⟩ := crStandsI l h k hk lm i (by omega) (inB_of hl hlt) m hm
  generalize hbest : (List.range i).foldl (bestS l k) [] = best at *
  have hs : (List.range (i + 1)).foldl (bestS l k) [] = bestS l k best i := by rw [List.range_succ, List.foldl_append, hbest]; rfl
  have hbS : bestS l k best i = if stI l k i then (if decide ((best.length : Int) < (nL (bitsL i)).length) || (((nL (bitsL i)).length : Int) == best.length && decide (cmpL (nL (bitsL i)) best < 0)) then nL (bitsL i) else best) else best := rfl
  rw [hbS] at hs
  generalize nL (bitsL i) = L at *
  cases hstv : stI l k i with
  | false =>
   rw [hstv] at hst
   rw [hstv, if_neg (by decide)] at hs
   repeat' (first|(with_reducible first|apply qA|apply qB|apply qC|apply qD|apply qE|apply qF)|(simp (disch:=omega) only [go_sem, simprocAttr, qN, qO, qP, qQ, hd])|exact qM rfl rfl rfl|(refine qG rfl ?_)|(refine qH rfl ?_)|(refine qI rfl ?_ ?_<;>intro hc<;>(try simp only [go_sem] at hc))|(refine qJ ?_ ?_<;>intro hc<;>(try simp only [hc])<;>(try simp only [go_sem] at hc)))
   refine call_h (h := [memB lm m]) (h' := [memB lm m']) (own := []) hst (Ent.refl _) rfl rfl rfl rfl (by decide) ?_
   simp (disch:=omega) only [go_sem,simprocAttr,qN,qO,qP,qQ]
   repeat' (first|(with_reducible first|apply qA|apply qB|apply qC|apply qD|apply qE|apply qF)|(simp (disch:=omega) only [go_sem, simprocAttr, qN, qO, qP, qQ, hw])|exact qM rfl rfl rfl|(refine qG rfl ?_)|(refine qH rfl ?_)|(refine qI rfl ?_ ?_<;>intro hc<;>(try simp only [go_sem] at hc))|(refine qJ ?_ ?_<;>intro hc<;>(try simp only [hc])<;>(try simp only [go_sem] at hc)))
   refine ⟨⟨(i + 1, m'), hlt, hm'⟩, ?_, Ent.to ?_ ?_⟩ <;> first | (show _ < _; (try simp only); omega) | (simp (disch:=omega) only [qR,qS,qTw,qU,get,Nat.reduceEqDiff,↓reduceIte,qV,qW,qX,qY,qZ,and_self,dI,i64_in,and_true,true_and,rA,rB,rC,rD, hs])
  | true =>
   rw [hstv] at hst
   rw [hstv, if_pos rfl] at hs
   repeat' (first|(with_reducible first|apply qA|apply qB|apply qC|apply qD|apply qE|apply qF)|(simp (disch:=omega) only [go_sem, simprocAttr, qN, qO, qP, qQ, hd])|exact qM rfl rfl rfl|(refine qG rfl ?_)|(refine qH rfl ?_)|(refine qI rfl ?_ ?_<;>intro hc<;>(try simp only [go_sem] at hc))|(refine qJ ?_ ?_<;>intro hc<;>(try simp only [hc])<;>(try simp only [go_sem] at hc)))
   refine call_h (h := [memB lm m]) (h' := [memB lm m']) (own := []) hst (Ent.refl _) rfl rfl rfl rfl (by decide) ?_
   simp (disch:=omega) only [go_sem,simprocAttr,qN,qO,qP,qQ]
   cases c1 : decide ((best.length : Int) < L.length) with
   | true =>
    rw [c1, Bool.true_or, if_pos rfl] at hs
    repeat' (first|(with_reducible first|apply qA|apply qB|apply qC|apply qD|apply qE|apply qF)|(simp (disch:=omega) only [go_sem, simprocAttr, qN, qO, qP, qQ, hw, c1])|exact qM rfl rfl rfl|(refine qG rfl ?_)|(refine qK (hcol) (by decide) ?_)|(refine qH rfl ?_)|(refine qI rfl ?_ ?_<;>intro hc<;>(try simp only [go_sem] at hc))|(refine qJ ?_ ?_<;>intro hc<;>(try simp only [hc])<;>(try simp only [go_sem] at hc)))
    refine ⟨⟨(i + 1, m'), hlt, hm'⟩, ?_, Ent.to ?_ ?_⟩ <;> first | (show _ < _; (try simp only); omega) | (simp (disch:=omega) only [qR,qS,qTw,qU,get,Nat.reduceEqDiff,↓reduceIte,qV,qW,qX,qY,qZ,and_self,dI,i64_in,and_true,true_and,rA,rB,rC,rD, hs])
   | false =>
    cases c2 : ((L.length : Int) == best.length) with
    | false =>
     rw [c1, c2, Bool.false_or, Bool.false_and, if_neg (by decide)] at hs
     repeat' (first|(with_reducible first|apply qA|apply qB|apply qC|apply qD|apply qE|apply qF)|(simp (disch:=omega) only [go_sem, simprocAttr, qN, qO, qP, qQ, hw, c1, c2])|exact qM rfl rfl rfl|(refine qG rfl ?_)|(refine qK (hcol) (by decide) ?_)|(refine qH rfl ?_)|(refine qI rfl ?_ ?_<;>intro hc<;>(try simp only [go_sem] at hc))|(refine qJ ?_ ?_<;>intro hc<;>(try simp only [hc])<;>(try simp only [go_sem] at hc)))
     refine ⟨⟨(i + 1, m'), hlt, hm'⟩, ?_, Ent.to ?_ ?_⟩ <;> first | (show _ < _; (try simp only); omega) | (simp (disch:=omega) only [qR,qS,qTw,qU,get,Nat.reduceEqDiff,↓reduceIte,qV,qW,qX,qY,qZ,and_self,dI,i64_in,and_true,true_and,rA,rB,rC,rD, hs])
    | true =>
     cases c4 : decide (cmpL L best < 0) with
     | true =>
      rw [c1, c2, c4, Bool.false_or, Bool.true_and, if_pos rfl] at hs
      repeat' (first|(with_reducible first|apply qA|apply qB|apply qC|apply qD|apply qE|apply qF)|(simp (disch:=omega) only [go_sem, simprocAttr, qN, qO, qP, qQ, hw, c1, c2, c4])|exact qM rfl rfl rfl|(refine qG rfl ?_)|(refine qK (hcol) (by decide) ?_)|(refine qK (hc3) (by decide) ?_)|(refine qH rfl ?_)|(refine qI rfl ?_ ?_<;>intro hc<;>(try simp only [go_sem] at hc))|(refine qJ ?_ ?_<;>intro hc<;>(try simp only [hc])<;>(try simp only [go_sem] at hc)))
      refine ⟨⟨(i + 1, m'), hlt, hm'⟩, ?_, Ent.to ?_ ?_⟩ <;> first | (show _ < _; (try simp only); omega) | (simp (disch:=omega) only [qR,qS,qTw,qU,get,Nat.reduceEqDiff,↓reduceIte,qV,qW,qX,qY,qZ,and_self,dI,i64_in,and_true,true_and,rA,rB,rC,rD, hs])
     | false =>
      rw [c1, c2, c4, Bool.false_or, Bool.true_and, if_neg (by decide)] at hs
      repeat' (first|(with_reducible first|apply qA|apply qB|apply qC|apply qD|apply qE|apply qF)|(simp (disch:=omega) only [go_sem, simprocAttr, qN, qO, qP, qQ, hw, c1, c2, c4])|exact qM rfl rfl rfl|(refine qG rfl ?_)|(refine qK (hcol) (by decide) ?_)|(refine qK (hc3) (by decide) ?_)|(refine qH rfl ?_)|(refine qI rfl ?_ ?_<;>intro hc<;>(try simp only [go_sem] at hc))|(refine qJ ?_ ?_<;>intro hc<;>(try simp only [hc])<;>(try simp only [go_sem] at hc)))
      refine ⟨⟨(i + 1, m'), hlt, hm'⟩, ?_, Ent.to ?_ ?_⟩ <;> first | (show _ < _; (try simp only); omega) | (simp (disch:=omega) only [qR,qS,qTw,qU,get,Nat.reduceEqDiff,↓reduceIte,qV,qW,qX,qY,qZ,and_self,dI,i64_in,and_true,true_and,rA,rB,rC,rD, hs])
 ·obtain rfl : i = 2 ^ l.length := by omega
  have hd : decide (((2 ^ l.length : Nat) : Int) < ((2 ^ l.length : Nat) : Int)) = false := by rw [decide_eq_false_iff_not]; omega
  have ee : (List.range (2 ^ l.length)).foldl (bestS l k) [] = mostI l k := rfl
  rw [ee]
  generalize mostI l k = best at *
  repeat' (first|(with_reducible first|apply qA|apply qB|apply qC|apply qD|apply qE|apply qF)|(simp (disch:=omega) only [go_sem, simprocAttr, qN, qO, qP, qQ, hd])|exact qM rfl rfl rfl|(refine qG rfl ?_)|(refine qH rfl ?_)|(refine qI rfl ?_ ?_<;>intro hc<;>(try simp only [go_sem] at hc))|(refine qJ ?_ ?_<;>intro hc<;>(try simp only [hc])<;>(try simp only [go_sem] at hc)))
  refine retS_wk rfl ?_ (by simp only [Blk.nb, rowC_nb, D.nb, D.nbs, C.nb, C.nbs, C.nbss, rows_nb eI_nb, Bool.and_true, Bool.not_false, Bool.and_self, bD, dI, iD, rows_nb eK_nb, rows_nb eLd_nb]); exact .refl _
end Go.Dw.Seat.Cr
end
section
set_option linter.unusedSimpArgs false
set_option maxRecDepth 100000
namespace Go.Dw.Seat.Cr
open Go Go.Dw Go.Proofs Go.IntWalk
def fallR (l : List Lod) (days : Int) (t : List (Int × Int)) : Int × Int × Int := match fallT l days t with
 | some (d, i) => (d, (i : Int), 0)
 | none => (0, 0, 7)
set_option maxHeartbeats 1000000 in
theorem crFall (l : List Lod) (h : ∀ b ∈ l, b.ok) (hl : l.length ≤ 50) (t : List (Int × Int)) (days : Int) (ht : TabOk t days) : DCall Tryd.prog 26 [.c (.sl false 4 (rows eLd l)), .c (.sl false 2 (rows eK t)), dI days] [] (.tup [dI (fallR l days t).1, dI (fallR l days t).2.1, dI (fallR l days t).2.2]) [] := by
 generalize hR : fallR l days t = R
 have h1 := crBoxes false l 50 (by omega) (by omega) h
 have h2 := crTable t days ht
 have hlen := ht.len
 refine DCall.of Tryd.func26 sf26 hb26 (Nat.le_of_ble_eq_true rfl) (okRes_nil fun _ => rfl) ?_; simp only [s26, idxs, Nat.reduceAdd]
 repeat' (first|(with_reducible first|apply qA|apply qB|apply qC|apply qD|apply qE|apply qF)|(simp (disch:=omega) only [go_sem, simprocAttr, qN, qO, qP, qQ])|exact qM rfl rfl rfl|(refine qG rfl ?_)|(refine qK (h1) (by decide) ?_)|(refine qK (h2) (by decide) ?_)|(refine qH rfl ?_)|(refine qI rfl ?_ ?_<;>intro hc<;>(try simp only [go_sem] at hc))|(refine qJ ?_ ?_<;>intro hc<;>(try simp only [hc])<;>(try simp only [go_sem] at hc)))
 refine DW.loop (ι := { i : Nat // i ≤ t.length ∧ fallR l days (t.drop i) = R }) (fun i => ⟨53, [(32, dI i.1), (31, dI t.length), (30, .c (.sl false 2 (rows eK t))), (10, .box 10 0), (0, .c (.sl false 4 (rows eLd l)))], [(10, .box [.c (.sl false 2 (rows eK t)), dI days])]⟩) (fun i => t.length - i.1) ⟨0, Nat.zero_le _, hR⟩ ?_ ?_
 ·refine Ent.to ?_ ?_ <;> simp (disch:=omega) only [qR,qS,qTw,qU,get,Nat.reduceEqDiff,↓reduceIte,qV,qW,qX,qY,qZ,and_self,dI,i64_in,and_true,true_and,rA,rB,rC,rD]
 rintro ⟨i, hi, hr⟩
 rcases at_or t i hi with ⟨v, hv, hlt, hd⟩ | ⟨he, hd⟩
 ·have hm := ht.mem v (List.mem_of_getElem? hv)
  have hlow := crLowest l h (by omega) v.2 hm.2
  have hdrop : t.drop i = v :: t.drop (i + 1) := by
   have e : t[i] = v := by
    have := List.getElem?_eq_getElem hlt
    rw [hv] at this; cases this; rfl
   rw [← e]; exact List.drop_eq_getElem_cons hlt
  rw [hdrop] at hr
  by_cases hc : days < v.1
  ·have hdd : decide (days < v.1) = true := decide_eq_true hc
   have hr' : R = (0, 0, 7) := by rw [← hr, fallR, fallT, if_pos hc]
   repeat' (first|(with_reducible first|apply qA|apply qB|apply qC|apply qD|apply qE|apply qF)|(simp (disch:=omega) only [go_sem, simprocAttr, qN, qO, qP, qQ, hd, hv, hdd, rF, rG])|exact qM rfl rfl rfl|(refine qG rfl ?_)|(refine qH rfl ?_)|(refine qI rfl ?_ ?_<;>intro hc<;>(try simp only [go_sem] at hc))|(refine qJ ?_ ?_<;>intro hc<;>(try simp only [hc])<;>(try simp only [go_sem] at hc)))
   refine retS_of rfl ?_ rfl; simp only [oneD, St.op, get, Nat.reduceEqDiff, ↓reduceIte, Option.getD_some, bD, dI]
   rw [hr']
  ·have hdd : decide (days < v.1) = false := decide_eq_false hc
   cases hf : failN v.2 l with
   | none =>
    have hr' : fallR l days (t.drop (i + 1)) = R := by rw [← hr, fallR, fallR, fallT, if_neg hc, hf]
    simp only [lowR, hf] at hlow
    repeat' (first|(with_reducible first|apply qA|apply qB|apply qC|apply qD|apply qE|apply qF)|(simp (disch:=omega) only [go_sem, simprocAttr, qN, qO, qP, qQ, hd, hv, hdd, rF, rG])|exact qM rfl rfl rfl|(refine qG rfl ?_)|(refine qK (hlow) (by decide) ?_)|(refine qH rfl ?_)|(refine qI rfl ?_ ?_<;>intro hc<;>(try simp only [go_sem] at hc))|(refine qJ ?_ ?_<;>intro hc<;>(try simp only [hc])<;>(try simp only [go_sem] at hc)))
    refine ⟨⟨i + 1, hlt, hr'⟩, ?_, Ent.to ?_ ?_⟩ <;> first | (show _ < _; (try simp only); omega) | (simp (disch:=omega) only [qR,qS,qTw,qU,get,Nat.reduceEqDiff,↓reduceIte,qV,qW,qX,qY,qZ,and_self,dI,i64_in,and_true,true_and,rA,rB,rC,rD])
   | some j =>
    have hr' : R = (v.1, (j : Int), 0) := by rw [← hr, fallR, fallT, if_neg hc, hf]
    simp only [lowR, hf] at hlow
    repeat' (first|(with_reducible first|apply qA|apply qB|apply qC|apply qD|apply qE|apply qF)|(simp (disch:=omega) only [go_sem, simprocAttr, qN, qO, qP, qQ, hd, hv, hdd, rF, rG])|exact qM rfl rfl rfl|(refine qG rfl ?_)|(refine qK (hlow) (by decide) ?_)|(refine qH rfl ?_)|(refine qI rfl ?_ ?_<;>intro hc<;>(try simp only [go_sem] at hc))|(refine qJ ?_ ?_<;>intro hc<;>(try simp only [hc])<;>(try simp only [go_sem] at hc)))
    refine retS_of rfl ?_ rfl; simp only [oneD, St.op, get, Nat.reduceEqDiff, ↓reduceIte, Option.getD_some, bD, dI]
    rw [hr']
 ·rw [he, List.drop_length] at hr
  have hr' : R = (0, 0, 7) := by rw [← hr]; rfl
  repeat' (first|(with_reducible first|apply qA|apply qB|apply qC|apply qD|apply qE|apply qF)|(simp (disch:=omega) only [go_sem, simprocAttr, qN, qO, qP, qQ, hd])|exact qM rfl rfl rfl|(refine qG rfl ?_)|(refine qH rfl ?_)|(refine qI rfl ?_ ?_<;>intro hc<;>(try simp only [go_sem] at hc))|(refine qJ ?_ ?_<;>intro hc<;>(try simp only [hc])<;>(try simp only [go_sem] at hc)))
  refine retS_of rfl ?_ rfl; simp only [oneD, St.op, get, Nat.reduceEqDiff, ↓reduceIte, Option.getD_some, bD, dI]
  rw [hr']
def loadsL : List Lod → List (Int × Int)
 | [] => []
 | _ :: t => (sumL t, sumH t) :: loadsL t
theorem loadsL_len : ∀ l : List Lod, (loadsL l).length = l.length
 | [] => rfl
 | _ :: t => by simp [loadsL, loadsL_len t]
theorem replK (n : Nat) : List.replicate n [C.v (.int .i64 0), C.v (.int .i64 0)] = rows eK (List.replicate n (0, 0)) := by simp [rows, eK]
theorem rows_setK (l : List (Int × Int)) (i : Nat) (x y : Int) : List.set (rows eK l) i [.v (.int .i64 x), .v (.int .i64 y)] = rows eK (List.set l i (x, y)) := by simp [rows, List.map_set, eK]
theorem rowC_setK (l : List (Int × Int)) (i : Nat) (x y : Int) : List.set (rowC (rows eK l)) i [.c (.v (.int .i64 x)), .c (.v (.int .i64 y))] = rowC (rows eK (List.set l i (x, y))) := by simp [rowC, rows, List.map_set, eK]
def ldS (a : List (Int × Int)) (e : Nat × Int × Int) : Option Exit × List (Int × Int) := (none, List.set a e.1 e.2)
theorem loads_set : ∀ (t : List Lod) (pre : List (Int × Int)) (post : List (Int × Int)), post.length = t.length → (loadsF pre.length t).foldr (fun e a => List.set a e.1 e.2) (pre ++ post) = pre ++ loadsL t
 | [], pre, post, h => by simp at h; subst h; simp [loadsF, loadsL]
 | b :: t, pre, [], h => by simp at h
 | b :: t, pre, p :: post, h => by
  have ih := loads_set t (pre ++ [p]) post (by simpa using h)
  simp only [List.length_append, List.length_singleton, List.append_assoc, List.singleton_append] at ih
  simp only [loadsF, List.foldr_cons, ih, loadsL]
  rw [List.set_append_right _ _ (Nat.le_refl _), Nat.sub_self]; rfl
theorem loads_run (l : List Lod) (h : ∀ b ∈ l, b.ok) (hl : l.length ≤ 100000) : runIt ldS (List.replicate l.length (0, 0)) (fallS 0 0 (backL l)) = (none, loadsL l) := by
 rw [runIt_all (fun _ _ => rfl), fallS_eq l h hl, List.foldl_reverse]
 have := loads_set l [] (List.replicate l.length (0, 0)) (by simp)
 simp only [List.length_nil, List.nil_append] at this
 exact congrArg (Prod.mk none) this
set_option maxHeartbeats 1000000 in
theorem crLoads (l : List Lod) (h : ∀ b ∈ l, b.ok) (hl : l.length ≤ 50) : DCall Tryd.prog 25 [.c (.sl false 4 (rows eLd l))] [] (.tup [.c (.sl false 2 (rows eK (loadsL l))), dI 0]) [] := by
 have h1 := crBoxes false l 50 (by omega) (by omega) h
 have h2 := crFalling l
 have hit := crFall1 l (by omega) false
 refine DCall.of Tryd.func25 sf25 hb25 (Nat.le_of_ble_eq_true rfl) (okRes_nil fun _ => rfl) ?_; simp only [s25, idxs, Nat.reduceAdd]
 repeat' (first|(with_reducible first|apply qA|apply qB|apply qC|apply qD|apply qE|apply qF)|(simp (disch:=omega) only [go_sem, simprocAttr, qN, qO, qP, qQ, replK])|exact qM rfl rfl rfl|(refine qG rfl ?_)|(refine qK (h1) (by decide) ?_)|(refine qK (h2) (by decide) ?_)|(refine qH rfl ?_)|(refine qI rfl ?_ ?_<;>intro hc<;>(try simp only [go_sem] at hc))|(refine qJ ?_ ?_<;>intro hc<;>(try simp only [hc])<;>(try simp only [go_sem] at hc)))
 refine DW.rngBD (fs := []) (caps := [.c (.ro false [.sl false 4 (rows eLd l)] 0)]) (fun y : List (Int × Int) => [(15, .row 2 (rowC (rows eK y))), (5, .box [.own 15])]) (List.replicate l.length (0, 0)) ldS enF (fun e => e.1 < l.length) (fallS 0 0 (backL l)) hit (fun y => y.length = l.length) (by simp) (fun a e ha _ _ => by simpa [ldS] using ha) rfl (fun _ => ⟨rfl, rfl⟩) rfl (by decide) (fun _ _ => rfl) (fun _ _ _ => rfl) (by simp only [List.map_cons, List.map_nil]; decide) (fun _ => rfl) (fun _ => wf_row rfl rfl) (fun _ => nb_row eK_nb _ rfl) (by simp only [List.all_cons, List.all_nil, Blk.nb, rowC_nb, D.nb, D.nbs, C.nb, C.nbs, C.nbss, rows_nb eI_nb, Bool.and_true, Bool.not_false, Bool.and_self, bD, dI, iD, rows_nb eK_nb, rows_nb eLd_nb]) (fun a e => rfl) ?_ ?_
 ·rintro y hy ⟨i, lo, hi⟩ hi' v
  dsimp only at hi'
  have hiy : ((i : Nat) < y.length) = True := eq_true (by omega)
  obtain ⟨u, hu⟩ := getE (l := y) (i := i) (by omega)
  simp (disch:=omega) only [go_sem,simprocAttr,qN,qO,qP,qQ,rF,rG,ldS]
  repeat' (first|(with_reducible first|apply qA|apply qB|apply qC|apply qD|apply qE|apply qF)|(simp (disch:=omega) only [go_sem, simprocAttr, qN, qO, qP, qQ, hu, hiy, rows_setK, rF, rG])|exact qM rfl rfl rfl|(refine qG rfl ?_)|(refine qH rfl ?_)|(refine qI rfl ?_ ?_<;>intro hc<;>(try simp only [go_sem] at hc))|(refine qJ ?_ ?_<;>intro hc<;>(try simp only [hc])<;>(try simp only [go_sem] at hc)))
  refine round_end rfl rfl (Ent.to ?_ ?_) <;> simp (disch:=omega) only [qR,qS,qTw,qU,get,Nat.reduceEqDiff,↓reduceIte,qV,qW,qX,qY,qZ,and_self,dI,i64_in,and_true,true_and,rA,rB,rC,rD,capB,List.cons_append,List.nil_append,rowC_setK]
 ·rw [loads_run l h (by omega)]
  repeat' (first|(with_reducible first|apply qA|apply qB|apply qC|apply qD|apply qE|apply qF)|(simp (disch:=omega) only [go_sem, simprocAttr, qN, qO, qP, qQ])|exact qM rfl rfl rfl|(refine qG rfl ?_)|(refine qH rfl ?_)|(refine qI rfl ?_ ?_<;>intro hc<;>(try simp only [go_sem] at hc))|(refine qJ ?_ ?_<;>intro hc<;>(try simp only [hc])<;>(try simp only [go_sem] at hc)))
  (refine retS_ent (Ent.rel 15 rfl) ?_; simp (disch:=omega) only [go_sem,simprocAttr,qN,qO,qP,qQ])
  refine retS_wk rfl ?_ (by simp only [Blk.nb, rowC_nb, D.nb, D.nbs, C.nb, C.nbs, C.nbss, rows_nb eI_nb, Bool.and_true, Bool.not_false, Bool.and_self, bD, dI, iD, rows_nb eK_nb, rows_nb eLd_nb]); exact .refl _
end Go.Dw.Seat.Cr
end
section
set_option linter.unusedSimpArgs false
set_option maxRecDepth 100000
namespace Go.Dw.Seat.Cr
open Go Go.Dw Go.Proofs Go.IntWalk
structure LeB (b c : Lod) : Prop where
 s : b.sl ≤ c.sl
 w : c.wh ≤ b.wh
theorem LeB.refl (b : Lod) : LeB b b := ⟨Int.le_refl _, Int.le_refl _⟩
theorem most_spec (l : List Lod) (k : Int) : ∀ n, (∃ s, (s < n ∨ s = 0) ∧ stI l k s = true ∧ (List.range n).foldl (bestS l k) [] = nL (bitsL s)) ∧ ∀ s, s < n → stI l k s = true → (bitsL s).length ≤ ((List.range n).foldl (bestS l k) []).length
 | 0 => ⟨⟨0, .inr rfl, rfl, rfl⟩, fun s h => by omega⟩
 | n + 1 => by
  obtain ⟨⟨s, h1, h2, h3⟩, h4⟩ := most_spec l k n
  have e : (List.range (n + 1)).foldl (bestS l k) [] = bestS l k ((List.range n).foldl (bestS l k) []) n := by rw [List.range_succ, List.foldl_append]; rfl
  rw [e]
  generalize (List.range n).foldl (bestS l k) [] = best at *
  unfold bestS
  have hln := nL_length (bitsL n)
  cases hst : stI l k n with
  | false =>
   rw [if_neg (by decide)]
   refine ⟨⟨s, by omega, h2, h3⟩, fun t ht hts => ?_⟩
   have : t ≠ n := fun e => by rw [e, hst] at hts; cases hts
   exact h4 t (by omega) hts
  | true =>
   rw [if_pos rfl]
   cases hc : (decide ((best.length : Int) < (nL (bitsL n)).length) || (((nL (bitsL n)).length : Int) == best.length && decide (cmpL (nL (bitsL n)) best < 0))) with
   | true =>
    rw [if_pos rfl]
    refine ⟨⟨n, by omega, hst, rfl⟩, fun t ht hts => ?_⟩
    have hge : best.length ≤ (nL (bitsL n)).length := by
     simp only [Bool.or_eq_true, decide_eq_true_eq, Bool.and_eq_true, beq_iff_eq] at hc
     omega
    by_cases et : t = n
    ·rw [et, hln]; exact Nat.le_refl _
    ·have := h4 t (by omega) hts; omega
   | false =>
    rw [if_neg (by decide)]
    refine ⟨⟨s, by omega, h2, h3⟩, fun t ht hts => ?_⟩
    by_cases et : t = n
    ·simp only [Bool.or_eq_false_iff, decide_eq_false_iff_not] at hc
     rw [et]; omega
    ·exact h4 t (by omega) hts
theorem fallR_iff {st : List Lod} (hst : ∀ b ∈ st, b.ok) {l : List (Int × Int)} {days : Int} (h : TabOk l days) : (fallR st days l).2.2 = (if failN (lastI days l 0) st = none then 7 else 0) := by
 unfold fallR
 cases hf : fallT st days l with
 | none => rw [if_pos ((fall_iff hst h).1 hf)]
 | some p =>
  have : ¬ failN (lastI days l 0) st = none := fun hn => by rw [(fall_iff hst h).2 hn] at hf; cases hf
  rw [if_neg this]
end Go.Dw.Seat.Cr
end
section
set_option linter.unusedSimpArgs false
set_option maxRecDepth 100000
namespace Go.Dw.Seat.Cr
open Go Go.Dw Go.Proofs Go.IntWalk
def ordI (l : List Lod) (k : Int) : Nat → Nat → List Int
 | 0, _ => []
 | f + 1, s => if s = 0 then [] else match (bitsL s).find? (fun e => unI l k s e) with
  | some e => (e : Int) :: ordI l k f (remB s e)
  | none => []
structure OrS where
 acc : List Int
 left : Nat
 m : Memo
def ordS (l : List Lod) (k : Int) (s : Nat) (y : OrS) (e : Nat) : Option Exit × OrS :=
 if (unF l k (stF l k s) s e y.m).1 then (some (.exit 2), ⟨y.acc ++ [(e : Int)], remB s e, (unF l k (stF l k s) s e y.m).2⟩) else (none, ⟨y.acc, y.left, (unF l k (stF l k s) s e y.m).2⟩)
theorem un_ok' {l : List Lod} {k : Int} {s : Nat} (hs : s < 1024) {e : Nat} (he : e ∈ bitsL s) {m : Memo} (hm : MemoOk l k m) : (unF l k (stF l k s) s e m).1 = unI l k s e ∧ MemoOk l k (unF l k (stF l k s) s e m).2 :=
 un_ok hs (rec := stF l k s) (fun t m ht hm => stF_ok l k s t m (by omega) (by omega) hm) he hm
theorem ord_run {l : List Lod} {k : Int} {s : Nat} (hs : s < 1024) {e : Nat} (acc : List Int) : ∀ (L : List Nat) (m : Memo), (∀ x ∈ L, x ∈ bitsL s) → MemoOk l k m → L.find? (fun e => unI l k s e) = some e → ∃ m', MemoOk l k m' ∧ runIt (ordS l k s) ⟨acc, s, m⟩ L = (some (.exit 2), ⟨acc ++ [(e : Int)], remB s e, m'⟩)
 | x :: L, m, hL, hm, hf => by
  obtain ⟨h1, h2⟩ := un_ok' hs (hL x (by simp)) hm
  rw [List.find?_cons] at hf
  simp only [runIt, ordS]
  rw [h1]
  cases hu : unI l k s x with
  | true =>
   rw [hu] at hf
   cases hf
   exact ⟨_, h2, rfl⟩
  | false =>
   rw [hu] at hf
   simp only [Bool.false_eq_true, if_false]
   exact ord_run hs acc L _ (fun y hy => hL y (by simp [hy])) h2 hf
theorem remB_len0 : ∀ s : Fin 1024, ∀ b : Fin 10, b.1 ∈ bitsL s.1 → (bitsL (remB s.1 b.1)).length + 1 = (bitsL s.1).length := by decide +kernel
theorem remB_len {s b : Nat} (hs : s < 1024) (hb : b ∈ bitsL s) : (bitsL (remB s b)).length + 1 = (bitsL s).length := remB_len0 ⟨s, hs⟩ ⟨b, bits_lt hb⟩ hb
theorem stI_find {l : List Lod} {k : Int} {s : Nat} (hs : s < 1024) (h0 : s ≠ 0) (h : stI l k s = true) : ∃ e, (bitsL s).find? (fun e => unI l k s e) = some e ∧ e ∈ bitsL s ∧ stI l k (remB s e) = true := by
 rw [stI_eq l k hs, decide_eq_false h0, Bool.false_or, List.any_eq_true] at h
 obtain ⟨x, hx, hu⟩ := h
 cases hf : (bitsL s).find? (fun e => unI l k s e) with
 | none =>
  have := List.find?_eq_none.1 hf x hx
  exact absurd hu (by simpa [unI] using this)
 | some e =>
  have h1 := List.find?_some hf
  have h2 := List.mem_of_find?_eq_some hf
  simp only [unI, Bool.and_eq_true] at h1
  exact ⟨e, rfl, h2, h1.2⟩
theorem ordI_fuel (l : List Lod) (k : Int) : ∀ {s : Nat}, s < 1024 → ∀ (f g : Nat), s ≤ f → s ≤ g → ordI l k f s = ordI l k g s
 | s, hs, 0, g, h1, _ => by
  obtain rfl : s = 0 := by omega
  cases g <;> simp [ordI]
 | s, hs, f + 1, 0, _, h1 => by
  obtain rfl : s = 0 := by omega
  simp [ordI]
 | s, hs, f + 1, g + 1, h1, h2 => by
  simp only [ordI]
  split
  ·rfl
  ·cases hf : (bitsL s).find? (fun e => unI l k s e) with
   | none => rfl
   | some e =>
    have he := List.mem_of_find?_eq_some hf
    have hlt := remB_mem hs he
    simp only
    rw [ordI_fuel l k (s := remB s e) (by omega) f g (by omega) (by omega)]
set_option maxHeartbeats 4000000 in
theorem crOrder (l : List Lod) (h : ∀ b ∈ l, b.ok) (hl : l.length ≤ 10) (t : List (Int × Int)) (days : Int) (ht : TabOk t days) (hst : stI l (lastI days t 0) (2 ^ l.length - 1) = true) :
  DCall Tryd.prog 20 [.c (.sl false 4 (rows eLd l)), .c (.sl false 2 (rows eK t)), dI days] [] (.tup [dIs false (ordI l (lastI days t 0) (2 ^ l.length - 1) (2 ^ l.length - 1)), dI 0]) [] := by
 have h1 := crPiler l h hl t days ht
 have hk := lastI_b days t 0 (fun s hs => (ht.mem s hs).2) (by decide)
 have hsh := shl_u hl
 have hpw := pow_le10 hl
 have hp1 := Nat.one_le_two_pow (n := l.length)
 generalize lastI days t 0 = k at *
 generalize hR : ordI l k (2 ^ l.length - 1) (2 ^ l.length - 1) = R
 have hw : IntKind.u64.wrap (((2 ^ l.length : Nat) : Int) - 1) = ((2 ^ l.length - 1 : Nat) : Int) := by rw [IntWalk.u64_in _ (by omega)]; omega
 refine DCall.of Tryd.func20 sf20 hb20 (Nat.le_of_ble_eq_true rfl) (okRes_nil fun _ => rfl) ?_; simp only [s20, o20_0, o20_1, o20_2, o20_3, o20_4, o20_5, o20_6, o20_7, o20_8, o20_9, idxs, Nat.reduceAdd]
 repeat' (first|(with_reducible first|apply qA|apply qB|apply qC|apply qD|apply qE|apply qF)|(refine DW.ord rfl (WF.of (by first|rfl|simp (disch:=omega) only [go_sem, simprocAttr, qN, qO, qP, qQ, hsh, hw])) ?_ ?_ ?_; rotate_left)|rfl|(with_reducible refine And.intro ?_ ?_)|(simp (disch:=omega) only [go_sem, simprocAttr, qN, qO, qP, qQ, hsh, hw])|exact qM rfl rfl rfl|(refine qG rfl ?_)|(refine qH rfl ?_)|(refine qI rfl ?_ ?_<;>intro hc<;>(try simp only [go_sem] at hc))|(refine qJ ?_ ?_<;>intro hc<;>(try simp only [hc])<;>(try simp only [go_sem] at hc)))
 refine call_b h1 ⟨⟨trivial, rfl, rfl, rfl⟩, rfl, rfl, rfl⟩ (by decide) ?_
 simp only [St.addBs, St.putB, St.putO, St.put]
 simp (disch:=omega) only [go_sem,simprocAttr,qN,qO,qP,qQ]
 refine DW.pin 28 rfl rfl fun lm => ?_
 simp (disch:=omega) only [go_sem,simprocAttr,qN,qO,qP,qQ,pinT,pinX,pinD,pinDs,pinB,pinO]
 refine DW.ent (Ent.rel 30 rfl) ?_
 simp (disch:=omega) only [go_sem,simprocAttr,qN,qO,qP,qQ]
 obtain ⟨m0, hm0, hst0⟩ := crStandsI l h k hk lm (2 ^ l.length - 1) (by omega) (inB_of hl (by omega)) [] (fun _ _ h => by cases h)
 rw [hst] at hst0
 have hnil : memB lm [] = (28, Blk.pmap lm [] []) := rfl
 repeat' (first|(with_reducible first|apply qA|apply qB|apply qC|apply qD|apply qE|apply qF)|(refine DW.ord rfl (WF.of (by first|rfl|simp (disch:=omega) only [go_sem, simprocAttr, qN, qO, qP, qQ, hsh, hw])) ?_ ?_ ?_; rotate_left)|rfl|(with_reducible refine And.intro ?_ ?_)|(simp (disch:=omega) only [go_sem, simprocAttr, qN, qO, qP, qQ, hsh, hw])|exact qM rfl rfl rfl|(refine qG rfl ?_)|(refine qH rfl ?_)|(refine qI rfl ?_ ?_<;>intro hc<;>(try simp only [go_sem] at hc))|(refine qJ ?_ ?_<;>intro hc<;>(try simp only [hc])<;>(try simp only [go_sem] at hc)))
 refine call_h (h := [memB lm []]) (h' := [memB lm m0]) hst0 (Ent.refl _) rfl rfl rfl rfl (by decide) ?_
 simp (disch:=omega) only [go_sem,simprocAttr,qN,qO,qP,qQ]
 repeat' (first|(with_reducible first|apply qA|apply qB|apply qC|apply qD|apply qE|apply qF)|(refine DW.ord rfl (WF.of (by first|rfl|simp (disch:=omega) only [go_sem, simprocAttr, qN, qO, qP, qQ])) ?_ ?_ ?_; rotate_left)|rfl|(with_reducible refine And.intro ?_ ?_)|(simp (disch:=omega) only [go_sem, simprocAttr, qN, qO, qP, qQ])|exact qM rfl rfl rfl|(refine qG rfl ?_)|(refine qH rfl ?_)|(refine qI rfl ?_ ?_<;>intro hc<;>(try simp only [go_sem] at hc))|(refine qJ ?_ ?_<;>intro hc<;>(try simp only [hc])<;>(try simp only [go_sem] at hc)))
 refine DW.ent (Ent.adoptB 6 0 41 1 rfl rfl rfl (by simp (disch:=omega) only [go_sem,simprocAttr,qN,qO,qP,qQ])) ?_
 simp (disch:=omega) only [go_sem,simprocAttr,qN,qO,qP,qQ]
 have hbl := bits_len (2 ^ l.length - 1)
 refine DW.loop (ι := { y : OrS // y.left < 2 ^ l.length ∧ MemoOk l k y.m ∧ stI l k y.left = true ∧ y.acc.length + (bitsL y.left).length ≤ 10 ∧ ∀ f, y.left ≤ f → y.acc ++ ordI l k f y.left = R })
  (fun y => ⟨47, [(9, .box 9 0), (8, .box 8 0), (6, .box 6 0)], [(41, .row 1 (rowC (rows eI y.1.acc))), memB lm y.1.m, (9, .box [dU y.1.left]), (8, .box [pilD l k lm]), (6, .box [.own 41])]⟩) (fun y => y.1.left) ⟨⟨[], 2 ^ l.length - 1, m0⟩, by dsimp only; omega, hm0, hst, by simpa using hbl, fun f hf => by rw [List.nil_append, ← hR]; exact ordI_fuel l k (show 2 ^ l.length - 1 < 1024 by omega) f _ hf (Nat.le_refl _)⟩ ?_ ?_
 ·refine Ent.to ?_ ?_ <;> simp (disch:=omega) only [qR,qS,qTw,qU,get,Nat.reduceEqDiff,↓reduceIte,qV,qW,qX,qY,qZ,and_self,dI,i64_in,and_true,true_and,rA,rB,rC,rD]
  exact ⟨.refl _, .refl _⟩
 rintro ⟨⟨acc, s, m⟩, i1, i2, i3, i4, i5⟩
 dsimp only at i1 i2 i3 i4 i5 ⊢
 by_cases h0 : s = 0
 ·have hd : ((s : Int) != 0) = false := by rw [h0]; rfl
  have hacc : acc = R := by
   have := i5 s (Nat.le_refl _)
   subst h0
   simpa [ordI] using this
  subst hacc
  repeat' (first|(with_reducible first|apply qA|apply qB|apply qC|apply qD|apply qE|apply qF)|(refine DW.ord rfl (WF.of (by first|rfl|simp (disch:=omega) only [go_sem, simprocAttr, qN, qO, qP, qQ, hd])) ?_ ?_ ?_; rotate_left)|rfl|(with_reducible refine And.intro ?_ ?_)|(simp (disch:=omega) only [go_sem, simprocAttr, qN, qO, qP, qQ, hd])|exact qM rfl rfl rfl|(refine qG rfl ?_)|(refine qH rfl ?_)|(refine qI rfl ?_ ?_<;>intro hc<;>(try simp only [go_sem] at hc))|(refine qJ ?_ ?_<;>intro hc<;>(try simp only [hc])<;>(try simp only [go_sem] at hc)))
  (refine retS_ent (Ent.rel 41 rfl) ?_; simp (disch:=omega) only [go_sem,simprocAttr,qN,qO,qP,qQ])
  refine retS_wk rfl ?_ (by simp only [Blk.nb, rowC_nb, D.nb, D.nbs, C.nb, C.nbs, C.nbss, rows_nb eI_nb, Bool.and_true, Bool.not_false, Bool.and_self, bD, dI, iD, rows_nb eK_nb, rows_nb eLd_nb]); exact .refl _
 ·have hd : ((s : Int) != 0) = true := by rw [bne_iff_ne]; omega
  have hs : s < 1024 := by omega
  have hit := crAll s hs
  have hbs := inB_of hl i1
  obtain ⟨e, hfd, he, hse⟩ := stI_find hs h0 i3
  obtain ⟨m1, hm1, hrun⟩ := ord_run hs acc (bitsL s) m (fun _ h => h) i2 hfd
  have hlt := remB_mem hs he
  have hlen := remB_len hs he
  repeat' (first|(with_reducible first|apply qA|apply qB|apply qC|apply qD|apply qE|apply qF)|(refine DW.ord rfl (WF.of (by first|rfl|simp (disch:=omega) only [go_sem, simprocAttr, qN, qO, qP, qQ, hd])) ?_ ?_ ?_; rotate_left)|rfl|(with_reducible refine And.intro ?_ ?_)|(simp (disch:=omega) only [go_sem, simprocAttr, qN, qO, qP, qQ, hd])|exact qM rfl rfl rfl|(refine qG rfl ?_)|(refine qH rfl ?_)|(refine qI rfl ?_ ?_<;>intro hc<;>(try simp only [go_sem] at hc))|(refine qJ ?_ ?_<;>intro hc<;>(try simp only [hc])<;>(try simp only [go_sem] at hc)))
  refine DW.rngBD (fs := [dU s]) (caps := []) (fun y : OrS => [(41, .row 1 (rowC (rows eI y.acc))), memB lm y.m, (9, .box [dU y.left]), (8, .box [pilD l k lm]), (6, .box [.own 41])]) ⟨acc, s, m⟩ (ordS l k s) enB (fun e => e ∈ bitsL s) (bitsL s) hit (fun y => y.left = s ∧ MemoOk l k y.m ∧ y.acc.length ≤ 10) ⟨rfl, i2, by dsimp only; omega⟩ ?_ rfl (fun _ => ⟨rfl, rfl⟩) rfl (by decide) (fun _ _ => rfl) (fun _ _ _ => rfl) (by simp only [List.map_cons, List.map_nil]; decide) (fun _ => rfl) (fun y => wf_row rfl (by show (D.keysIns _ (mD y.m) && _) = true; rw [mD_keys]; rfl)) (fun y => nb_row eI_nb _ (by show (D.nbs (mD y.m) && _) = true; rw [mD_nb, Bool.true_and]; exact (by simp only [List.all_cons, List.all_nil, Blk.nb, rowC_nb, D.nb, D.nbs, C.nb, C.nbs, C.nbss, rows_nb eI_nb, Bool.and_true, Bool.not_false, Bool.and_self, bD, dI, iD, rows_nb eK_nb, rows_nb eLd_nb]))) (by simp only [List.all_cons, List.all_nil, Blk.nb, rowC_nb, D.nb, D.nbs, C.nb, C.nbs, C.nbss, rows_nb eI_nb, Bool.and_true, Bool.not_false, Bool.and_self, bD, dI, iD, rows_nb eK_nb, rows_nb eLd_nb]) ?_ ?_ ?_
  ·rintro y x ⟨a1, a2, a3⟩ hx hn
   obtain ⟨u1, u2⟩ := un_ok' hs hx a2
   simp only [ordS] at hn ⊢
   split
   ·rename_i hc; rw [if_pos hc] at hn; cases hn
   ·exact ⟨a1, u2, a3⟩
  ·intro y x
   unfold ordS
   split <;> rfl
  ·rintro ⟨acc', s', m'⟩ ⟨a1, a2, a3⟩ x hx v
   dsimp only at a1 a2 a3
   subst a1
   have hx10 := bits_lt hx
   have hand := andNot_u hs hx10
   have hun := crUnder l h k hk lm s' (crStands l h k hk lm s') s' x m' (by omega) hs hbs hx
   have hS : ordS l k s' ⟨acc', s', m'⟩ x = if (unF l k (stF l k s') s' x m').1 then (some (.exit 2), ⟨acc' ++ [(x : Int)], remB s' x, (unF l k (stF l k s') s' x m').2⟩) else (none, ⟨acc', s', (unF l k (stF l k s') s' x m').2⟩) := rfl
   rw [hS]
   generalize unF l k (stF l k s') s' x m' = U at *
   obtain ⟨u, m2⟩ := U
   dsimp only at hun ⊢
   simp (disch:=omega) only [go_sem,simprocAttr,qN,qO,qP,qQ,rF,rG]
   repeat' (first|(with_reducible first|apply qA|apply qB|apply qC|apply qD|apply qE|apply qF)|(refine DW.ord rfl (WF.of (by first|rfl|simp (disch:=omega) only [go_sem, simprocAttr, qN, qO, qP, qQ, rF, rG])) ?_ ?_ ?_; rotate_left)|rfl|(with_reducible refine And.intro ?_ ?_)|(simp (disch:=omega) only [go_sem, simprocAttr, qN, qO, qP, qQ, rF, rG])|exact qM rfl rfl rfl|(refine qG rfl ?_)|(refine qH rfl ?_)|(refine qI rfl ?_ ?_<;>intro hc<;>(try simp only [go_sem] at hc))|(refine qJ ?_ ?_<;>intro hc<;>(try simp only [hc])<;>(try simp only [go_sem] at hc)))
   refine call_hk 28 hun rfl rfl rfl (by simp (disch:=omega) only [go_sem,simprocAttr,qN,qO,qP,qQ,del]) (by decide) ?_
   simp (disch:=omega) only [go_sem,simprocAttr,qN,qO,qP,qQ,rF,rG,del]
   refine DW.ent (Ent.swap2 (show (28 : Nat) ≠ 41 by decide)) ?_
   cases u with
   | true =>
    rw [if_pos rfl]
    repeat' (first|(with_reducible first|apply qA|apply qB|apply qC|apply qD|apply qE|apply qF)|(refine DW.ord rfl (WF.of (by first|rfl|simp (disch:=omega) only [go_sem, simprocAttr, qN, qO, qP, qQ, rF, rG, hand])) ?_ ?_ ?_; rotate_left)|rfl|(with_reducible refine And.intro ?_ ?_)|(simp (disch:=omega) only [go_sem, simprocAttr, qN, qO, qP, qQ, rF, rG, hand])|exact qM rfl rfl rfl|(refine qG rfl ?_)|(refine qH rfl ?_)|(refine qI rfl ?_ ?_<;>intro hc<;>(try simp only [go_sem] at hc))|(refine qJ ?_ ?_<;>intro hc<;>(try simp only [hc])<;>(try simp only [go_sem] at hc)))
    refine round_end rfl rfl (Ent.to ?_ ?_) <;> simp (disch:=omega) only [qR,qS,qTw,qU,get,Nat.reduceEqDiff,↓reduceIte,qV,qW,qX,qY,qZ,and_self,dI,i64_in,and_true,true_and,rA,rB,rC,rD,capB,List.cons_append,List.nil_append]
   | false =>
    rw [if_neg (by decide)]
    repeat' (first|(with_reducible first|apply qA|apply qB|apply qC|apply qD|apply qE|apply qF)|(refine DW.ord rfl (WF.of (by first|rfl|simp (disch:=omega) only [go_sem, simprocAttr, qN, qO, qP, qQ, rF, rG])) ?_ ?_ ?_; rotate_left)|rfl|(with_reducible refine And.intro ?_ ?_)|(simp (disch:=omega) only [go_sem, simprocAttr, qN, qO, qP, qQ, rF, rG])|exact qM rfl rfl rfl|(refine qG rfl ?_)|(refine qH rfl ?_)|(refine qI rfl ?_ ?_<;>intro hc<;>(try simp only [go_sem] at hc))|(refine qJ ?_ ?_<;>intro hc<;>(try simp only [hc])<;>(try simp only [go_sem] at hc)))
    refine round_end rfl rfl (Ent.to ?_ ?_) <;> simp (disch:=omega) only [qR,qS,qTw,qU,get,Nat.reduceEqDiff,↓reduceIte,qV,qW,qX,qY,qZ,and_self,dI,i64_in,and_true,true_and,rA,rB,rC,rD,capB,List.cons_append,List.nil_append]
  ·rw [hrun]
   simp (disch:=omega) only [go_sem,simprocAttr,qN,qO,qP,qQ,Option.getD_some]
   have hfin : ∀ f, remB s e ≤ f → (acc ++ [(e : Int)]) ++ ordI l k f (remB s e) = R := fun f hf => by
    have h5 := i5 (s + 1) (by omega)
    rw [ordI, if_neg h0, hfd] at h5
    rw [ordI_fuel l k (s := remB s e) (by omega) f s hf (by omega), List.append_assoc]
    exact h5
   refine ⟨⟨⟨acc ++ [(e : Int)], remB s e, m1⟩, by dsimp only; omega, hm1, hse, by simp only [List.length_append, List.length_cons, List.length_nil]; omega, hfin⟩, ?_, Ent.to ?_ ?_⟩ <;> first | (show _ < _; (try simp only); omega) | (simp (disch:=omega) only [qR,qS,qTw,qU,get,Nat.reduceEqDiff,↓reduceIte,qV,qW,qX,qY,qZ,and_self,dI,i64_in,and_true,true_and,rA,rB,rC,rD])
end Go.Dw.Seat.Cr
end
section
set_option linter.unusedSimpArgs false
set_option maxRecDepth 100000
namespace Go.Dw.Seat.Cr
open Go Go.Dw Go.Proofs Go.IntWalk
theorem okB {l : List Lod} (h : (l.all fun b => decide (0 ≤ b.sl ∧ b.sl ≤ b.sh ∧ b.sh ≤ 20000000) && decide (0 ≤ b.wl ∧ b.wl ≤ b.wh ∧ b.wh ≤ 100000)) = true) : ∀ b ∈ l, b.ok := fun b hb => by
 have := List.all_eq_true.1 h b hb
 simp only [Bool.and_eq_true, decide_eq_true_eq] at this
 exact ⟨this.1, this.2⟩
end Go.Dw.Seat.Cr
end
section
set_option linter.unusedSimpArgs false
set_option maxRecDepth 100000
namespace Go.Dw.Seat.Cr
open Go Go.Dw Go.Proofs Go.IntWalk
def lexB : List Int → List Int → Bool
 | a :: s, b :: t => if a = b then lexB s t else decide (a < b)
 | _, _ => false
end Go.Dw.Seat.Cr
end
section
set_option linter.unusedSimpArgs false
set_option maxRecDepth 100000
namespace Go.Dw.Seat.Cr
open Go Go.Dw Go.Proofs Go.IntWalk
def pk (l : List Lod) (e : Nat) : Lod := (l[e]?).getD ⟨0, 0, 0, 0⟩
def pickL (l : List Lod) (o : List Nat) : List Lod := o.map (pk l)
theorem pk_wh (l : List Lod) (e : Nat) : (pk l e).wh = whAt l e := by
 unfold pk whAt
 cases l[e]? <;> rfl
theorem pk_bears (l : List Lod) (k : Int) (e : Nat) : bearsI (pk l e) k = bearsAt l k e := by
 unfold pk bearsAt
 cases l[e]? with
 | some b => rfl
 | none => simp [bearsI]
theorem pk_ok {l : List Lod} (h : ∀ b ∈ l, b.ok) (e : Nat) : (pk l e).ok := by
 unfold pk
 cases e1 : l[e]? with
 | some b => exact h b (List.mem_of_getElem? e1)
 | none => exact ⟨by decide, by decide⟩
theorem failN_cons {k : Int} {b : Lod} {t : List Lod} : failN k (b :: t) = none ↔ sumH t ≤ bearsI b k ∧ failN k t = none := by
 simp only [failN]
 split
 ·simp; omega
 ·rename_i h
  simp only [Option.map_eq_none_iff]
  exact ⟨fun h2 => ⟨by omega, h2⟩, fun h2 => h2.2⟩
theorem full_bit0 : ∀ x : Fin 10, (1023 : Nat).testBit x.1 = true := by decide
theorem rem_mem {s e x : Nat} (he : e < 10) : x ∈ bitsL (remB s e) ↔ x ∈ bitsL s ∧ x ≠ e := by
 simp only [bitsL, List.mem_filter, List.mem_range, remB, Nat.testBit_and, Nat.testBit_xor, Nat.testBit_two_pow, Bool.and_eq_true]
 constructor
 ·rintro ⟨h1, h2, h3⟩
  rw [full_bit0 ⟨x, h1⟩] at h3
  refine ⟨⟨h1, h2⟩, fun e2 => ?_⟩
  rw [e2] at h3; simp at h3
 ·rintro ⟨⟨h1, h2⟩, h3⟩
  refine ⟨h1, h2, ?_⟩
  rw [full_bit0 ⟨x, h1⟩, decide_eq_false (fun h => h3 h.symm)]; rfl
theorem bits_nodup (s : Nat) : (bitsL s).Nodup := List.Nodup.sublist List.filter_sublist List.nodup_range
theorem bits_rem_eq {s e : Nat} (he : e < 10) : bitsL (remB s e) = (bitsL s).filter (fun x => decide (x ≠ e)) := by
 unfold bitsL
 rw [List.filter_filter]
 refine List.filter_congr fun x hx => ?_
 have hx := List.mem_range.1 hx
 have h := rem_mem (s := s) (e := e) (x := x) he
 simp only [bitsL, List.mem_filter, List.mem_range, hx, true_and] at h
 cases h1 : (remB s e).testBit x <;> cases h2 : s.testBit x <;> by_cases h3 : x = e <;> simp_all
theorem fold_shift (f : Nat → Int) : ∀ (L : List Nat) (a c : Int), L.foldl (fun a e => a + f e) (a + c) = c + L.foldl (fun a e => a + f e) a
 | [], a, c => by simp only [List.foldl_nil]; omega
 | x :: L, a, c => by
  simp only [List.foldl_cons]
  rw [show a + c + f x = (a + f x) + c by omega]
  exact fold_shift f L (a + f x) c
theorem fold_erase (f : Nat → Int) : ∀ (L : List Nat) (a : Int) (e : Nat), L.Nodup → e ∈ L → L.foldl (fun a e => a + f e) a = f e + (L.filter (fun x => decide (x ≠ e))).foldl (fun a e => a + f e) a
 | x :: L, a, e, hn, he => by
  obtain ⟨h1, h2⟩ := List.nodup_cons.1 hn
  by_cases hx : x = e
  ·subst hx
   have : L.filter (fun y => decide (y ≠ x)) = L := List.filter_eq_self.2 fun y hy => by
    simp only [ne_eq, decide_not, Bool.not_eq_true', decide_eq_false_iff_not]
    exact fun e2 => h1 (e2 ▸ hy)
   rw [List.filter_cons_of_neg (by simp), this, List.foldl_cons]
   exact fold_shift f L a (f x)
  ·have he2 : e ∈ L := by
    rcases List.mem_cons.1 he with h | h
    ·exact absurd h.symm hx
    ·exact h
   rw [List.filter_cons_of_pos (by simpa using hx), List.foldl_cons, List.foldl_cons]
   exact fold_erase f L (a + f x) e h2 he2
theorem wt_rem (l : List Lod) {s e : Nat} (he : e ∈ bitsL s) : wtI l s = whAt l e + wtI l (remB s e) := by
 unfold wtI
 rw [bits_rem_eq (bits_lt he)]
 exact fold_erase (whAt l) (bitsL s) 0 e (bits_nodup s) he
def stO (l : List Lod) (k : Int) : Nat → List Nat → Prop
 | s, [] => s = 0
 | s, e :: t => e ∈ bitsL s ∧ wtI l (remB s e) ≤ bearsAt l k e ∧ stO l k (remB s e) t
structure OrdOk (l : List Lod) (k : Int) (s : Nat) (o : List Nat) : Prop where
 sum : sumH (pickL l o) = wtI l s
 fail : failN k (pickL l o) = none
 nodup : o.Nodup
 mem : ∀ e, e ∈ o ↔ e ∈ bitsL s
 len : o.length = (bitsL s).length
theorem stO_ok {l : List Lod} {k : Int} : ∀ {o : List Nat} {s : Nat}, s < 1024 → stO l k s o → OrdOk l k s o
 | [], s, hs, h => by
  obtain rfl : s = 0 := h
  exact ⟨rfl, rfl, List.nodup_nil, fun e => by rw [bits_zero], by rw [bits_zero]⟩
 | e :: t, s, hs, ⟨h1, h2, h3⟩ => by
  have hlt := remB_mem hs h1
  have ih := stO_ok (by omega) h3
  have hm := fun x => rem_mem (s := s) (e := e) (x := x) (bits_lt h1)
  refine ⟨?_, ?_, ?_, fun x => ?_, ?_⟩
  ·show sumH (pickL l t) + (pk l e).wh = _
   rw [ih.sum, pk_wh, wt_rem l h1]; omega
  ·refine failN_cons.2 ⟨?_, ih.fail⟩
   rw [pk_bears]
   show sumH (pickL l t) ≤ _
   rw [ih.sum]; exact h2
  ·exact List.nodup_cons.2 ⟨fun h => ((hm e).1 ((ih.mem e).1 h)).2 rfl, ih.nodup⟩
  ·rw [List.mem_cons, ih.mem, hm]
   constructor
   ·rintro (rfl | h)
    ·exact h1
    ·exact h.1
   ·intro h
    by_cases e2 : x = e
    ·exact .inl e2
    ·exact .inr ⟨h, e2⟩
  ·rw [List.length_cons, ih.len, remB_len hs h1]
theorem stI_iff (l : List Lod) (k : Int) : ∀ n s, s ≤ n → s < 1024 → (stI l k s = true ↔ ∃ o, stO l k s o)
 | 0, s, hn, hs => by
  obtain rfl : s = 0 := by omega
  exact ⟨fun _ => ⟨[], rfl⟩, fun _ => rfl⟩
 | n + 1, s, hn, hs => by
  rw [stI_eq l k hs]
  simp only [Bool.or_eq_true, decide_eq_true_eq, List.any_eq_true, Bool.and_eq_true]
  constructor
  ·rintro (h0 | ⟨e, he, h1, h2⟩)
   ·exact ⟨[], h0⟩
   ·have hlt := remB_mem hs he
    obtain ⟨o, ho⟩ := (stI_iff l k n (remB s e) (by omega) (by omega)).1 h2
    exact ⟨e :: o, he, h1, ho⟩
  ·rintro ⟨o, ho⟩
   match o, ho with
   | [], h => exact .inl h
   | e :: t, ⟨h1, h2, h3⟩ =>
    have hlt := remB_mem hs h1
    exact .inr ⟨e, h1, h2, (stI_iff l k n (remB s e) (by omega) (by omega)).2 ⟨t, h3⟩⟩
theorem stI_of {l : List Lod} {k : Int} {s : Nat} (hs : s < 1024) {o : List Nat} (h : stO l k s o) : stI l k s = true := (stI_iff l k s s (Nat.le_refl _) hs).2 ⟨o, h⟩
theorem find_first {p : Nat → Bool} : ∀ {L : List Nat} {e x : Nat}, L.Pairwise (· < ·) → L.find? p = some e → x ∈ L → p x = true → e ≤ x
 | a :: L, e, x, hp, hf, hx, hpx => by
  obtain ⟨h1, h2⟩ := List.pairwise_cons.1 hp
  rw [List.find?_cons] at hf
  split at hf
  ·cases hf
   rcases List.mem_cons.1 hx with rfl | hx
   ·exact Nat.le_refl _
   ·exact Nat.le_of_lt (h1 x hx)
  ·rename_i hn
   rcases List.mem_cons.1 hx with rfl | hx
   ·rw [hpx] at hn; cases hn
   ·exact find_first h2 hf hx hpx
theorem bits_asc (s : Nat) : (bitsL s).Pairwise (· < ·) := List.Pairwise.filter _ List.pairwise_lt_range
theorem ord_spec (l : List Lod) (k : Int) : ∀ n s f, s ≤ n → s < 1024 → s ≤ f → stI l k s = true → ∃ o, ordI l k f s = nL o ∧ stO l k s o ∧ ∀ o', stO l k s o' → lexB (nL o') (nL o) = false
 | n, s, f, hn, hs, hf, hst => by
  by_cases h0 : s = 0
  ·subst h0
   refine ⟨[], ?_, rfl, fun o' h => ?_⟩
   ·cases f <;> simp [ordI, nL]
   ·match o', h with
    | [], _ => rfl
    | e :: t, ⟨h1, _⟩ => rw [bits_zero] at h1; cases h1
  ·obtain ⟨e, h1, h2, h3⟩ := stI_find hs h0 hst
   have hlt := remB_mem hs h2
   match n, f with
   | 0, _ => omega
   | _, 0 => omega
   | n + 1, f + 1 =>
    obtain ⟨o, ho1, ho2, ho3⟩ := ord_spec l k n (remB s e) f (by omega) (by omega) (by omega) h3
    have hun := List.find?_some h1
    simp only [unI, Bool.and_eq_true, decide_eq_true_eq] at hun
    refine ⟨e :: o, ?_, ⟨h2, hun.1, ho2⟩, fun o' h => ?_⟩
    ·simp only [ordI, if_neg h0, h1, ho1]; rfl
    ·match o', h with
     | [], h => exact absurd h h0
     | x :: t, ⟨x1, x2, x3⟩ =>
      have hltx := remB_mem hs x1
      have hux : unI l k s x = true := by
       simp only [unI, Bool.and_eq_true, decide_eq_true_eq]
       exact ⟨x2, stI_of (by omega) x3⟩
      have hle := find_first (bits_asc s) h1 x1 hux
      show lexB ((x : Int) :: nL t) ((e : Int) :: nL o) = false
      simp only [lexB]
      by_cases he : (x : Int) = (e : Int)
      ·rw [if_pos he]
       obtain rfl : x = e := by omega
       exact ho3 t x3
      ·rw [if_neg he]; exact decide_eq_false (by omega)
theorem full0 : ∀ n : Fin 11, ∀ s : Fin 1024, s.1 < 2 ^ n.1 → (bitsL s.1).length ≤ n.1 ∧ ((bitsL s.1).length = n.1 → s.1 = 2 ^ n.1 - 1) := by decide +kernel
theorem full1 : ∀ n : Fin 11, (bitsL (2 ^ n.1 - 1)).length = n.1 := by decide +kernel
theorem full2 : ∀ n : Fin 11, bitsL (2 ^ n.1 - 1) = List.range n.1 := by decide +kernel
theorem bits_le {n s : Nat} (hn : n ≤ 10) (hs : s < 2 ^ n) : (bitsL s).length ≤ n := (full0 ⟨n, by omega⟩ ⟨s, by have := pow_le10 hn; omega⟩ hs).1
theorem bits_full {n s : Nat} (hn : n ≤ 10) (hs : s < 2 ^ n) (h : (bitsL s).length = n) : s = 2 ^ n - 1 := (full0 ⟨n, by omega⟩ ⟨s, by have := pow_le10 hn; omega⟩ hs).2 h
theorem full_len {n : Nat} (hn : n ≤ 10) : (bitsL (2 ^ n - 1)).length = n := full1 ⟨n, by omega⟩
theorem full_bits {n : Nat} (hn : n ≤ 10) : bitsL (2 ^ n - 1) = List.range n := full2 ⟨n, by omega⟩
theorem most_set (l : List Lod) (k : Int) (hl : l.length ≤ 10) : ∃ s, s < 2 ^ l.length ∧ stI l k s = true ∧ mostI l k = nL (bitsL s) := by
 obtain ⟨⟨s, h1, h2, h3⟩, _⟩ := most_spec l k (2 ^ l.length)
 have : 0 < 2 ^ l.length := Nat.two_pow_pos _
 exact ⟨s, by omega, h2, h3⟩
theorem most_ge (l : List Lod) (k : Int) {s : Nat} (hs : s < 2 ^ l.length) (h : stI l k s = true) : (bitsL s).length ≤ (mostI l k).length := (most_spec l k (2 ^ l.length)).2 s hs h
theorem most_full (l : List Lod) (k : Int) (hl : l.length ≤ 10) : (mostI l k).length ≤ l.length ∧ ((mostI l k).length = l.length ↔ stI l k (2 ^ l.length - 1) = true) := by
 obtain ⟨s, h1, h2, h3⟩ := most_set l k hl
 have hb := bits_le hl h1
 have hp : 0 < 2 ^ l.length := Nat.two_pow_pos _
 rw [h3, nL_length]
 refine ⟨hb, fun h => ?_, fun h => ?_⟩
 ·rw [← bits_full hl h1 h]; exact h2
 ·have := most_ge l k (s := 2 ^ l.length - 1) (by omega) h
  rw [h3, nL_length, full_len hl] at this
  omega
end Go.Dw.Seat.Cr
end
section
set_option linter.unusedSimpArgs false
namespace Go.Dw.Seat
open Go Go.Dw Go.Proofs Go.IntWalk
structure Cause where
 noz : Int
 kind : Int
 frm : Int
instance : DecidableEq Cause := fun a b => decidable_of_iff (a.noz = b.noz ∧ a.kind = b.kind ∧ a.frm = b.frm) (by cases a; cases b; simp)
def eC (c : Cause) : List C := [.v (.int .i64 c.noz), .v (.int .i64 c.kind), .v (.int .i64 c.frm)]
structure Look where
 box : Int
 noz : Int
 step : Int
 glue : Bool
instance : DecidableEq Look := fun a b => decidable_of_iff (a.box = b.box ∧ a.noz = b.noz ∧ a.step = b.step ∧ a.glue = b.glue) (by cases a; cases b; simp)
def eL (c : Look) : List C := [.v (.int .i64 c.box), .v (.int .i64 c.noz), .v (.int .i64 c.step), .v (.bool c.glue)]
structure Room where
 wl : Int
 wh : Int
 dl : Int
 dh : Int
instance : DecidableEq Room := fun a b => decidable_of_iff (a.wl = b.wl ∧ a.wh = b.wh ∧ a.dl = b.dl ∧ a.dh = b.dh) (by cases a; cases b; simp)
def eR (c : Room) : List C := [.v (.int .i64 c.wl), .v (.int .i64 c.wh), .v (.int .i64 c.dl), .v (.int .i64 c.dh)]
def eSb (b : Bool) (s : List Cause) : List C := [.sl b 3 (rows eC s)]
abbrev eS := eSb false
def eG (s : List Int) : List C := [.sl false 1 (rows eI s)]
structure Plan where
 steps : Int
 noz : List Int
abbrev dP (b : Bool) (p : Plan) : D := .agg [.c (.v (.int .i64 p.steps)), .c (.sl b 1 (rows eI p.noz))]
abbrev dCs (b : Bool) (l : List Cause) : D := .c (.sl b 3 (rows eC l))
abbrev dLs (b : Bool) (l : List Look) : D := .c (.sl b 4 (rows eL l))
abbrev dSs (b : Bool) (l : List (List Cause)) : D := .c (.sl b 1 (rows eS l))
theorem rowC_snocC (l : List Cause) (a b c : Int) : rowC (rows eC l) ++ [[D.c (.v (.int .i64 a)), D.c (.v (.int .i64 b)), D.c (.v (.int .i64 c))]] = rowC (rows eC (l ++ [⟨a, b, c⟩])) := by simp [rowC, rows, eC]
theorem rowC_snocL (l : List Look) (a b c : Int) (d : Bool) : rowC (rows eL l) ++ [[D.c (.v (.int .i64 a)), D.c (.v (.int .i64 b)), D.c (.v (.int .i64 c)), D.c (.v (.bool d))]] = rowC (rows eL (l ++ [⟨a, b, c, d⟩])) := by simp [rowC, rows, eL]
theorem rowC_snocS (l : List (List Cause)) (s : List Cause) : rowC (rows (eSb false) l) ++ [[D.c (.sl false 3 (rows eC s))]] = rowC (rows (eSb false) (l ++ [s])) := by simp [rowC, rows, eSb]
attribute [go_sem] rowC_snocC rowC_snocL rowC_snocS
attribute [go_sem] eC eL eR eS eSb eG dP dCs dLs dSs
end Go.Dw.Seat
end
section
set_option linter.unusedSimpArgs false
namespace Go.Dw.Seat
open Go Go.Dw Go.Proofs Go.IntWalk
theorem c122 (b : Bool) (l : List (Int)) (hl : l.length ≤ 2 ^ 36) (g : FuncId) (fs caps : List C) (p : Int → Bool) (hp : ∀ x ∈ l, DCall Tryd.prog g (fs.map D.c ++ [dI x] ++ caps.map D.c) [] (bD (p x)) []) : DCall Tryd.prog 111 [.c (.sl b 1 (rows eI l)), .c (.fn (.func g) fs caps)] [] (dI (idxI p l)) [] := by
 refine DCall.of Tryd.func111 sf111 hb111 (Nat.le_of_ble_eq_true rfl) (okRes_nil fun _ => rfl) ?_; simp only [s111, idxs, Nat.reduceAdd]
 repeat' (first|(with_reducible first|apply qA|apply qB|apply qC|apply qD|apply qE|apply qF)|(simp (disch:=omega) only [go_sem, simprocAttr, Blk.men, Blk.keysIn])|exact qM rfl rfl rfl|(refine qG rfl ?_)|(refine qH rfl ?_)|(refine qI rfl ?_ ?_<;>intro hc<;>(try simp only [go_sem] at hc))|(refine qJ ?_ ?_<;>intro hc<;>(try simp only [hc])<;>(try simp only [go_sem] at hc)))
 refine DW.loop (ι := { i : Nat // i ≤ l.length ∧ ∀ j u, j < i → l[j]? = some u → p u = false }) (fun i => ⟨19, [(8, dI i.1), (7, dI l.length), (1, .c (.fn (.func g) fs caps)), (0, .c (.sl b 1 (rows eI l)))], []⟩) (fun i => l.length - i.1) ⟨0, Nat.zero_le _, fun j u h => by omega⟩ ?_ ?_
 ·refine Ent.to ?_ ?_ <;> simp (disch:=omega) only [qR,qS,qTw,qU,get,Nat.reduceEqDiff,↓reduceIte,qV,qW,qX,qY,qZ,and_self,dI,i64_in,and_true,true_and,rA,rB,rC,rD]
 rintro ⟨i, hi, hij⟩
 rcases at_or l i hi with ⟨v, hv, hlt, hd⟩ | ⟨he, hd⟩
 ·have hcall := hp v (List.mem_of_getElem? hv)
  repeat' (first|(with_reducible first|apply qA|apply qB|apply qC|apply qD|apply qE|apply qF)|(simp (disch:=omega) only [go_sem, simprocAttr, Blk.men, Blk.keysIn, hd, hv, closeDs_fn, rF, rG])|exact qM rfl rfl rfl|(refine qG rfl ?_)|(refine qH rfl ?_)|(refine qI rfl ?_ ?_<;>intro hc<;>(try simp only [go_sem] at hc))|(refine qJ ?_ ?_<;>intro hc<;>(try simp only [hc])<;>(try simp only [go_sem] at hc)))
  refine call_c hcall (by decide) ?_
  simp (disch:=omega) only [go_sem,simprocAttr,Blk.men,Blk.keysIn]
  refine DW.cond rfl ?_ ?_ <;> intro hc
  ·repeat' (first|(with_reducible first|apply qA|apply qB|apply qC|apply qD|apply qE|apply qF)|(simp (disch:=omega) only [go_sem, simprocAttr, Blk.men, Blk.keysIn])|exact qM rfl rfl rfl|(refine qG rfl ?_)|(refine qH rfl ?_)|(refine qI rfl ?_ ?_<;>intro hc<;>(try simp only [go_sem] at hc))|(refine qJ ?_ ?_<;>intro hc<;>(try simp only [hc])<;>(try simp only [go_sem] at hc)))
   refine retS_of rfl ?_ rfl; simp only [oneD, St.op, get, Nat.reduceEqDiff, ↓reduceIte, Option.getD_some, bD, dI]
   simp only [idxI, idxOf_some hij hv hc]
  ·repeat' (first|(with_reducible first|apply qA|apply qB|apply qC|apply qD|apply qE|apply qF)|(simp (disch:=omega) only [go_sem, simprocAttr, Blk.men, Blk.keysIn])|exact qM rfl rfl rfl|(refine qG rfl ?_)|(refine qH rfl ?_)|(refine qI rfl ?_ ?_<;>intro hc<;>(try simp only [go_sem] at hc))|(refine qJ ?_ ?_<;>intro hc<;>(try simp only [hc])<;>(try simp only [go_sem] at hc)))
   refine ⟨⟨i + 1, by omega, fun j u hj hu => by
    rcases Nat.lt_or_ge j i with h | h
    ·exact hij j u h hu
    ·have : j = i := by omega
     subst this
     rw [hv] at hu; cases hu; exact hc⟩, ?_, Ent.to ?_ ?_⟩ <;> first | (show _ < _; (try simp only); omega) | (simp (disch:=omega) only [qR,qS,qTw,qU,get,Nat.reduceEqDiff,↓reduceIte,qV,qW,qX,qY,qZ,and_self,dI,i64_in,and_true,true_and,rA,rB,rC,rD])
 ·repeat' (first|(with_reducible first|apply qA|apply qB|apply qC|apply qD|apply qE|apply qF)|(simp (disch:=omega) only [go_sem, simprocAttr, Blk.men, Blk.keysIn, hd])|exact qM rfl rfl rfl|(refine qG rfl ?_)|(refine qH rfl ?_)|(refine qI rfl ?_ ?_<;>intro hc<;>(try simp only [go_sem] at hc))|(refine qJ ?_ ?_<;>intro hc<;>(try simp only [hc])<;>(try simp only [go_sem] at hc)))
  refine retS_of rfl ?_ rfl; simp only [oneD, St.op, get, Nat.reduceEqDiff, ↓reduceIte, Option.getD_some, bD, dI]
  simp only [idxI, idxOf_none (he ▸ hij)]
theorem c110 (b : Bool) (l : List (Int)) (hl : l.length ≤ 2 ^ 36) (g : FuncId) (fs caps : List C) (p : Int → Bool) (hp : ∀ x ∈ l, DCall Tryd.prog g (fs.map D.c ++ [dI x] ++ caps.map D.c) [] (bD (p x)) []) : DCall Tryd.prog 78 [.c (.sl b 1 (rows eI l)), .c (.fn (.func g) fs caps)] [] (bD (l.any p)) [] := by
 refine DCall.of Tryd.func78 sf78 hb78 (Nat.le_of_ble_eq_true rfl) (okRes_nil fun _ => rfl) ?_; simp only [s78, idxs, Nat.reduceAdd]
 repeat' (first|(with_reducible first|apply qA|apply qB|apply qC|apply qD|apply qE|apply qF)|(simp (disch:=omega) only [go_sem, simprocAttr, Blk.men, Blk.keysIn])|exact qM rfl rfl rfl|(refine qG rfl ?_)|(refine qH rfl ?_)|(refine qI rfl ?_ ?_<;>intro hc<;>(try simp only [go_sem] at hc))|(refine qJ ?_ ?_<;>intro hc<;>(try simp only [hc])<;>(try simp only [go_sem] at hc)))
 refine call_c (c122 b l hl g fs caps p hp) (by decide) ?_
 repeat' (first|(with_reducible first|apply qA|apply qB|apply qC|apply qD|apply qE|apply qF)|(simp (disch:=omega) only [go_sem, simprocAttr, Blk.men, Blk.keysIn])|exact qM rfl rfl rfl|(refine qG rfl ?_)|(refine qH rfl ?_)|(refine qI rfl ?_ ?_<;>intro hc<;>(try simp only [go_sem] at hc))|(refine qJ ?_ ?_<;>intro hc<;>(try simp only [hc])<;>(try simp only [go_sem] at hc)))
 refine retS_of rfl ?_ rfl; simp only [oneD, St.op, get, Nat.reduceEqDiff, ↓reduceIte, Option.getD_some, bD, dI]
 rw [idxI_any]
end Go.Dw.Seat
end
section
set_option linter.unusedSimpArgs false
set_option maxRecDepth 100000
namespace Go.Dw.Seat
open Go Go.Dw Go.Proofs Go.IntWalk
theorem ud5 : Tryd.prog.underlying 5 = some (.int .u8) := by kernel_rfl
abbrev d8 (n : Nat) : D := .c (.v (.int .u8 n))
def eY (v : Nat) : List C := [.v (.int .u8 v)]
theorem eY_nb (v : Nat) : C.nbs (eY v) = true := rfl
attribute [go_sem] ud5 d8 eY
theorem tmodN (m k : Nat) : (m : Int).tmod (k : Int) = ((m % k : Nat) : Int) := by
 rw [Int.tmod_eq_emod_of_nonneg (by omega)]; simp
theorem tdivN (m k : Nat) : (m : Int).tdiv (k : Int) = ((m / k : Nat) : Int) := by
 rw [Int.tdiv_eq_ediv_of_nonneg (by omega)]; simp
def byteI (l : List Nat) (i : Nat) : Nat := (l[i % l.length]?).getD 0
theorem arByte (b : Bool) (l : List Nat) (i : Nat) (hi : i ≤ 1000) (hl : ∀ v ∈ l, v < 256) : DCall Tryd.prog 46 [.c (.sl b 1 (rows eY l)), dI i] [] (dI (byteI l i)) [] := by
 by_cases h0 : l.length = 0
 ·have he : ((l.length : Int) == 0) = true := by rw [h0]; rfl
  have hb : byteI l i = 0 := by
   have : l = [] := List.length_eq_zero_iff.1 h0
   subst this; rfl
  rw [hb]
  refine DCall.of Tryd.func46 sf46 hb46 (Nat.le_of_ble_eq_true rfl) (okRes_nil fun _ => rfl) ?_; simp only [s46, idxs, Nat.reduceAdd]
  repeat' (first|(with_reducible first|apply qA|apply qB|apply qC|apply qD|apply qE|apply qF)|(simp (disch:=omega) only [go_sem, simprocAttr, Blk.men, Blk.keysIn, he])|exact qM rfl rfl rfl|(refine qG rfl ?_)|(refine qH rfl ?_)|(refine qI rfl ?_ ?_<;>intro hc<;>(try simp only [go_sem] at hc))|(refine qJ ?_ ?_<;>intro hc<;>(try simp only [hc])<;>(try simp only [go_sem] at hc)))
 ·have he : ((l.length : Int) == 0) = false := by rw [beq_eq_false_iff_ne]; omega
  have hz : ((l.length : Int) = 0) = False := eq_false (by omega)
  have hr : (i : Int).tmod (l.length : Int) = ((i % l.length : Nat) : Int) := tmodN i l.length
  have hlt : i % l.length < l.length := Nat.mod_lt _ (by omega)
  have hv : l[i % l.length]? = some (byteI l i) := by
   rw [byteI, List.getElem?_eq_getElem hlt]; rfl
  have hv8 := hl _ (List.mem_of_getElem? hv)
  generalize byteI l i = v at *
  generalize i % l.length = j at *
  refine DCall.of Tryd.func46 sf46 hb46 (Nat.le_of_ble_eq_true rfl) (okRes_nil fun _ => rfl) ?_; simp only [s46, idxs, Nat.reduceAdd]
  repeat' (first|(with_reducible first|apply qA|apply qB|apply qC|apply qD|apply qE|apply qF)|(simp (disch:=omega) only [go_sem, simprocAttr, Blk.men, Blk.keysIn, he, hz, hr, hv])|exact qM rfl rfl rfl|(refine qG rfl ?_)|(refine qH rfl ?_)|(refine qI rfl ?_ ?_<;>intro hc<;>(try simp only [go_sem] at hc))|(refine qJ ?_ ?_<;>intro hc<;>(try simp only [hc])<;>(try simp only [go_sem] at hc)))
end Go.Dw.Seat
end
section
set_option linter.unusedSimpArgs false
set_option maxRecDepth 100000
namespace Go.Dw.Seat
open Go Go.Dw Go.Proofs Go.IntWalk
def wthn (lo hi : Int) (l : List Int) : Bool := !(l.any fun n => decide (n < lo) || decide (hi < n))
end Go.Dw.Seat
end
section
set_option linter.unusedSimpArgs false
set_option maxRecDepth 100000
namespace Go.Dw.Seat
open Go Go.Dw Go.Proofs Go.IntWalk
theorem crW1 (n lo hi : Int) (p q : Bool) : DCall Tryd.prog 124 [dI n, .c (.ro p [.v (.int .i64 lo)] 0), .c (.ro q [.v (.int .i64 hi)] 0)] [] (bD (decide (n < lo) || decide (hi < n))) [] := by
 refine DCall.of Tryd.func124 sf124 hb124 (Nat.le_of_ble_eq_true rfl) (okRes_nil fun _ => rfl) ?_; simp only [s124, idxs, Nat.reduceAdd]
 repeat' (first|(with_reducible first|apply qA|apply qB|apply qC|apply qD|apply qE|apply qF)|(simp (disch:=omega) only [go_sem, simprocAttr, Blk.men, Blk.keysIn])|exact qM rfl rfl rfl|(refine qG rfl ?_)|(refine qH rfl ?_)|(refine qI rfl ?_ ?_<;>intro hc<;>(try simp only [go_sem] at hc))|(refine qJ ?_ ?_<;>intro hc<;>(try simp only [hc])<;>(try simp only [go_sem] at hc)))
theorem crWithin (b : Bool) (lo hi : Int) (l : List Int) (hl : l.length ≤ 2 ^ 36) : DCall Tryd.prog 98 [dI lo, dI hi, dIs b l] [] (bD (wthn lo hi l)) [] := by
 refine DCall.of Tryd.func98 sf98 hb98 (Nat.le_of_ble_eq_true rfl) (okRes_nil fun _ => rfl) ?_; simp only [s98, idxs, Nat.reduceAdd]
 repeat' (first|(with_reducible first|apply qA|apply qB|apply qC|apply qD|apply qE|apply qF)|(simp (disch:=omega) only [go_sem, simprocAttr, Blk.men, Blk.keysIn])|exact qM rfl rfl rfl|(refine qG rfl ?_)|(refine qH rfl ?_)|(refine qI rfl ?_ ?_<;>intro hc<;>(try simp only [go_sem] at hc))|(refine qJ ?_ ?_<;>intro hc<;>(try simp only [hc])<;>(try simp only [go_sem] at hc)))
 (refine call_c (c110 b l hl 124 [] [.ro true [.v (.int .i64 lo)] 0, .ro true [.v (.int .i64 hi)] 0] (fun n => decide (n < lo) || decide (hi < n)) (fun x _ => crW1 x lo hi true true)) (by decide) ?_; simp (disch:=omega) only [go_sem,simprocAttr,Blk.men,Blk.keysIn])
 repeat' (first|(with_reducible first|apply qA|apply qB|apply qC|apply qD|apply qE|apply qF)|(simp (disch:=omega) only [go_sem, simprocAttr, Blk.men, Blk.keysIn])|exact qM rfl rfl rfl|(refine qG rfl ?_)|(refine qH rfl ?_)|(refine qI rfl ?_ ?_<;>intro hc<;>(try simp only [go_sem] at hc))|(refine qJ ?_ ?_<;>intro hc<;>(try simp only [hc])<;>(try simp only [go_sem] at hc)))
structure CR where
 tests : Int
 mean : Int
 low : Int
 bad : Int
abbrev dCR (r : CR) : D := .agg [dI r.tests, dI r.mean, dI r.low, dI r.bad]
structure CLot where
 off : Int
 made : Int
 ws : Int
 wb : Int
 bs : Int
 bb : Int
abbrev dLot (r : CR) (l : CLot) : D := .agg [dI r.tests, dI r.mean, dI r.low, dI r.bad, dI l.off, dI l.made, dI l.ws, dI l.wb, dI l.bs, dI l.bb]
attribute [go_sem] dCR dLot
theorem wthn_yes {lo hi : Int} {l : List Int} (h : ∀ v ∈ l, lo ≤ v ∧ v ≤ hi) : wthn lo hi l = true := by
 simp only [wthn, Bool.not_eq_true', List.any_eq_false, Bool.or_eq_true, decide_eq_true_eq]
 intro v hv
 have := h v hv
 omega
def lowT (off x : Int) : Int := if 0 < x - off then x - off else 0
def highT (off x : Int) : Int := if x + off < 100000 then x + off else 100000
def CLot.after (r : CR) (l : CLot) (x : Int) : CLot :=
 ⟨l.off, l.made + 1, l.ws + lowT l.off x, if lowT l.off x < r.low then l.wb + 1 else l.wb, l.bs + highT l.off x, if highT l.off x < r.low then l.bb + 1 else l.bb⟩
structure CLot.ok (l : CLot) : Prop where
 off : 0 ≤ l.off ∧ l.off ≤ 1000
 made : 0 ≤ l.made ∧ l.made ≤ 100
 ws : 0 ≤ l.ws ∧ l.ws ≤ 100000 * l.made
 wb : 0 ≤ l.wb ∧ l.wb ≤ l.made
 bs : 0 ≤ l.bs ∧ l.bs ≤ 100000 * l.made
 bb : 0 ≤ l.bb ∧ l.bb ≤ l.made
end Go.Dw.Seat
end
section
set_option linter.unusedSimpArgs false
set_option maxRecDepth 100000
namespace Go.Dw.Seat
open Go Go.Dw Go.Proofs Go.IntWalk
theorem mulB0 {a b A B : Int} (ha : 0 ≤ a ∧ a ≤ A) (hb : 0 ≤ b ∧ b ≤ B) : 0 ≤ a * b ∧ a * b ≤ A * B := by
 refine ⟨Int.mul_nonneg ha.1 hb.1, ?_⟩
 exact Int.le_trans (Int.mul_le_mul_of_nonneg_right ha.2 hb.1) (Int.mul_le_mul_of_nonneg_left hb.2 (Int.le_trans ha.1 ha.2))
end Go.Dw.Seat
end
section
set_option linter.unusedSimpArgs false
set_option maxRecDepth 100000
namespace Go.Dw.Seat
open Go Go.Dw Go.Proofs Go.IntWalk
theorem crIn (b : Bool) (lo hi : Int) (l : List Int) (hl : l.length ≤ 2 ^ 36) (h : ∀ v ∈ l, lo ≤ v ∧ v ≤ hi) : DCall Tryd.prog 98 [dI lo, dI hi, dIs b l] [] (bD true) [] := by
 have := crWithin b lo hi l hl
 rwa [wthn_yes h] at this
theorem crSpan (lo hi least most : Int) (h : least ≤ lo ∧ lo ≤ hi ∧ hi ≤ most) : DCall Tryd.prog 97 [.agg [dI lo, dI hi], dI least, dI most] [] (bD true) [] := by
 have h1 := crIn true least most [lo, hi] (by simp) (by simp; omega)
 have hd : decide (lo ≤ hi) = true := decide_eq_true h.2.1
 refine DCall.of Tryd.func97 sf97 hb97 (Nat.le_of_ble_eq_true rfl) (okRes_nil fun _ => rfl) ?_; simp only [s97, idxs, Nat.reduceAdd]
 repeat' (first|(with_reducible first|apply qA|apply qB|apply qC|apply qD|apply qE|apply qF)|(simp (disch:=omega) only [go_sem, simprocAttr, Blk.men, Blk.keysIn, hd])|exact qM rfl rfl rfl|(refine qG rfl ?_)|(refine qK (h1) (by decide) ?_)|(refine qH rfl ?_)|(refine qI rfl ?_ ?_<;>intro hc<;>(try simp only [go_sem] at hc))|(refine qJ ?_ ?_<;>intro hc<;>(try simp only [hc])<;>(try simp only [go_sem] at hc)))
theorem closeDs_mapc' {σ : St} {mv : Option Nat} {caps : List C} : closeDs σ mv (caps.map D.c) = some (caps.map D.c) := by
 have := @closeDs_fn _ σ mv [] caps []
 simpa [closeDs] using this
theorem ud3 : Tryd.prog.underlying 3 = some (.int .i64) := by kernel_rfl
theorem ud226 : Tryd.prog.underlying 102 = some (.int .u64) := by kernel_rfl
theorem srSearch (n r : Int) (h : 0 ≤ r ∧ r ≤ n ∧ n ≤ 1099511627776) (g : FuncId) (caps : List C) (hp : ∀ k, 0 ≤ k → k < n → DCall Tryd.prog g (dI k :: caps.map D.c) [] (bD (decide (r ≤ k))) []) : DCall Tryd.prog 125 [dI n, .c (.fn (.func g) [] caps)] [] (dI r) [] := by
 refine DCall.of Tryd.func125 sf125 hb125 (Nat.le_of_ble_eq_true rfl) (okRes_nil fun _ => rfl) ?_; simp only [s125, idxs, Nat.reduceAdd]
 repeat' (first|(with_reducible first|apply qA|apply qB|apply qC|apply qD|apply qE|apply qF)|(simp (disch:=omega) only [go_sem, simprocAttr, Blk.men, Blk.keysIn])|exact qM rfl rfl rfl|(refine qG rfl ?_)|(refine qH rfl ?_)|(refine qI rfl ?_ ?_<;>intro hc<;>(try simp only [go_sem] at hc))|(refine qJ ?_ ?_<;>intro hc<;>(try simp only [hc])<;>(try simp only [go_sem] at hc)))
 refine DW.loop (ι := { s : Int × Int // 0 ≤ s.1 ∧ s.1 ≤ r ∧ r ≤ s.2 ∧ s.2 ≤ n }) (fun s => ⟨26, [(6, dI s.1.2), (5, dI s.1.1), (1, .c (.fn (.func g) [] caps))], []⟩) (fun s => (s.1.2 - s.1.1).toNat) ⟨(0, n), Int.le_refl _, h.1, h.2.1, Int.le_refl _⟩ ?_ ?_
 ·refine Ent.to ?_ ?_ <;> simp (disch:=omega) only [qR,qS,qTw,qU,get,Nat.reduceEqDiff,↓reduceIte,qV,qW,qX,qY,qZ,and_self,dI,i64_in,and_true,true_and,rA,rB,rC,rD]
 rintro ⟨⟨i, j⟩, i1, i2, i3, i4⟩
 dsimp only at i1 i2 i3 i4 ⊢
 rcases Int.lt_or_le i j with hij | hij
 ·have hd : decide (i < j) = true := decide_eq_true hij
  have hcall := hp ((i + j) / 2) (by omega) (by omega)
  have hw1 : IntKind.u64.wrap (i + j) = i + j := IntWalk.u64_in _ (by omega)
  have hsh : shrI IntKind.u64 (i + j) 1 = (i + j) / 2 := by
   have : shrI IntKind.u64 (i + j) 1 = (i + j).fdiv 2 := rfl
   rw [this, Int.fdiv_eq_ediv_of_nonneg _ (by decide)]
  repeat' (first|(with_reducible first|apply qA|apply qB|apply qC|apply qD|apply qE|apply qF)|(simp (disch:=omega) only [go_sem, simprocAttr, Blk.men, Blk.keysIn, hd, closeDs_mapc', ud3, ud226, hw1, hsh])|exact qM rfl rfl rfl|(refine qG rfl ?_)|(refine qH rfl ?_)|(refine qI rfl ?_ ?_<;>intro hc<;>(try simp only [go_sem] at hc))|(refine qJ ?_ ?_<;>intro hc<;>(try simp only [hc])<;>(try simp only [go_sem] at hc)))
  refine call_c hcall (by decide) ?_
  cases hr : decide (r ≤ (i + j) / 2) with
  | true =>
   have hr' : r ≤ (i + j) / 2 := of_decide_eq_true hr
   simp (disch:=omega) only [go_sem,simprocAttr,Blk.men,Blk.keysIn]
   repeat' (first|(with_reducible first|apply qA|apply qB|apply qC|apply qD|apply qE|apply qF)|(simp (disch:=omega) only [go_sem, simprocAttr, Blk.men, Blk.keysIn])|exact qM rfl rfl rfl|(refine qG rfl ?_)|(refine qH rfl ?_)|(refine qI rfl ?_ ?_<;>intro hc<;>(try simp only [go_sem] at hc))|(refine qJ ?_ ?_<;>intro hc<;>(try simp only [hc])<;>(try simp only [go_sem] at hc)))
   refine ⟨⟨(i, (i + j) / 2), i1, i2, hr', by dsimp only; omega⟩, ?_, Ent.to ?_ ?_⟩ <;> first | (show _ < _; (try simp only); omega) | (simp (disch:=omega) only [qR,qS,qTw,qU,get,Nat.reduceEqDiff,↓reduceIte,qV,qW,qX,qY,qZ,and_self,dI,i64_in,and_true,true_and,rA,rB,rC,rD])
  | false =>
   have hr' : ¬ r ≤ (i + j) / 2 := of_decide_eq_false hr
   simp (disch:=omega) only [go_sem,simprocAttr,Blk.men,Blk.keysIn]
   repeat' (first|(with_reducible first|apply qA|apply qB|apply qC|apply qD|apply qE|apply qF)|(simp (disch:=omega) only [go_sem, simprocAttr, Blk.men, Blk.keysIn])|exact qM rfl rfl rfl|(refine qG rfl ?_)|(refine qH rfl ?_)|(refine qI rfl ?_ ?_<;>intro hc<;>(try simp only [go_sem] at hc))|(refine qJ ?_ ?_<;>intro hc<;>(try simp only [hc])<;>(try simp only [go_sem] at hc)))
   refine ⟨⟨((i + j) / 2 + 1, j), by dsimp only; omega, by dsimp only; omega, i3, i4⟩, ?_, Ent.to ?_ ?_⟩ <;> first | (show _ < _; (try simp only); omega) | (simp (disch:=omega) only [qR,qS,qTw,qU,get,Nat.reduceEqDiff,↓reduceIte,qV,qW,qX,qY,qZ,and_self,dI,i64_in,and_true,true_and,rA,rB,rC,rD])
 ·obtain rfl : i = r := by omega
  have hd : decide (i < j) = false := by rw [decide_eq_false_iff_not]; omega
  repeat' (first|(with_reducible first|apply qA|apply qB|apply qC|apply qD|apply qE|apply qF)|(simp (disch:=omega) only [go_sem, simprocAttr, Blk.men, Blk.keysIn, hd])|exact qM rfl rfl rfl|(refine qG rfl ?_)|(refine qH rfl ?_)|(refine qI rfl ?_ ?_<;>intro hc<;>(try simp only [go_sem] at hc))|(refine qJ ?_ ?_<;>intro hc<;>(try simp only [hc])<;>(try simp only [go_sem] at hc)))
structure IsRoot (n r : Int) : Prop where
 pos : 0 ≤ r
 low : r * r ≤ n
 high : n < (r + 1) * (r + 1)
theorem sq_mono {a b : Int} (ha : 0 ≤ a) (h : a ≤ b) : a * a ≤ b * b := Int.mul_le_mul h h ha (by omega)
theorem IsRoot.le {n r k : Int} (h : IsRoot n r) (hk : 0 ≤ k) : (n < (k + 1) * (k + 1)) ↔ r ≤ k := by
 constructor
 ·intro h1
  rcases Int.lt_or_le k r with h2 | h2
  ·have := sq_mono (a := k + 1) (b := r) (by omega) (by omega)
   have := h.low
   omega
  ·exact h2
 ·intro h1
  have := sq_mono (a := r + 1) (b := k + 1) (by have := h.pos; omega) (by omega)
  have := h.high
  omega
theorem IsRoot.self {n r : Int} (h : IsRoot n r) : r ≤ n := by
 have h1 := h.low
 have h2 := h.pos
 rcases Int.lt_or_le r 1 with h3 | h3
 ·have : r = 0 := by omega
  subst this; omega
 ·have := Int.mul_le_mul_of_nonneg_left h3 h2
  omega
theorem IsRoot.mono {n n' r r' : Int} (h : IsRoot n r) (h' : IsRoot n' r') (hn : n ≤ n') : r ≤ r' :=
 (h.le h'.pos).1 (by have := h'.high; omega)
theorem IsRoot.lt {n r : Int} (h : IsRoot n r) (hn : n ≤ 200000000) : r ≤ 14142 := by
 rcases Int.lt_or_le 14142 r with h1 | h1
 ·have := sq_mono (a := 14143) (b := r) (by decide) (by omega)
  have := h.low
  omega
 ·exact h1
theorem crRoot1 (b : Bool) (n k : Int) (hk : 0 ≤ k ∧ k ≤ 1000000000) : DCall Tryd.prog 126 [dI k, .c (.ro b [.v (.int .i64 n)] 0)] [] (bD (decide (n < (k + 1) * (k + 1)))) [] := by
 have hm := mulB0 (a := k + 1) (b := k + 1) (A := 1000000001) (B := 1000000001) (by omega) (by omega)
 refine DCall.of Tryd.func126 sf126 hb126 (Nat.le_of_ble_eq_true rfl) (okRes_nil fun _ => rfl) ?_; simp only [s126, idxs, Nat.reduceAdd]
 repeat' (first|(with_reducible first|apply qA|apply qB|apply qC|apply qD|apply qE|apply qF)|(simp (disch:=omega) only [go_sem, simprocAttr, Blk.men, Blk.keysIn])|exact qM rfl rfl rfl|(refine qG rfl ?_)|(refine qH rfl ?_)|(refine qI rfl ?_ ?_<;>intro hc<;>(try simp only [go_sem] at hc))|(refine qJ ?_ ?_<;>intro hc<;>(try simp only [hc])<;>(try simp only [go_sem] at hc)))
theorem crRoot (n r : Int) (h : IsRoot n r) (hn : n ≤ 200000000) : DCall Tryd.prog 100 [dI n] [] (dI r) [] := by
 have hs := h.self
 have hp := h.pos
 have h1 := srSearch (n + 1) r ⟨h.pos, by omega, by omega⟩ 126 [.ro true [.v (.int .i64 n)] 0] (fun k hk hkn => by
  have := crRoot1 true n k ⟨hk, by omega⟩
  rwa [decide_eq_decide.2 (h.le hk)] at this)
 refine DCall.of Tryd.func100 sf100 hb100 (Nat.le_of_ble_eq_true rfl) (okRes_nil fun _ => rfl) ?_; simp only [s100, idxs, Nat.reduceAdd]
 repeat' (first|(with_reducible first|apply qA|apply qB|apply qC|apply qD|apply qE|apply qF)|(simp (disch:=omega) only [go_sem, simprocAttr, Blk.men, Blk.keysIn])|exact qM rfl rfl rfl|(refine qG rfl ?_)|(refine qK (h1) (by decide) ?_)|(refine qH rfl ?_)|(refine qI rfl ?_ ?_<;>intro hc<;>(try simp only [go_sem] at hc))|(refine qJ ?_ ?_<;>intro hc<;>(try simp only [hc])<;>(try simp only [go_sem] at hc)))
theorem crStrong1 (b : Bool) (x0 x1 x2 x3 around rule e c r : Int) (he : 0 ≤ e ∧ e ≤ 100000) (hc : 1 ≤ c ∧ c ≤ 10000) (ha : 1 ≤ around ∧ around ≤ 20000) (hu : 1 ≤ rule ∧ rule ≤ 1000) (hr : IsRoot (c * around) r) :
  DCall Tryd.prog 99 [dI e, dI c, .c (.ro b [.v (.int .i64 x0), .v (.int .i64 x1), .v (.int .i64 x2), .v (.int .i64 x3), .v (.int .i64 around), .v (.int .i64 rule)] 0)] [] (dI ((e * r * rule).tdiv 100000)) [] := by
 have m1 := mulB0 (a := c) (b := around) (A := 10000) (B := 20000) (by omega) (by omega)
 have hr1 := hr.lt (by omega)
 have m2 := mulB0 (a := e) (b := r) (A := 100000) (B := 14142) he ⟨hr.pos, hr1⟩
 have m3 := mulB0 (a := e * r) (b := rule) (A := 1414200000) (B := 1000) (by omega) (by omega)
 have hroot := crRoot (c * around) r hr (by omega)
 have hq : 0 ≤ (e * r * rule).tdiv 100000 ∧ (e * r * rule).tdiv 100000 ≤ 1414200000000 := by
  rw [Int.tdiv_eq_ediv_of_nonneg (by omega)]; omega
 refine DCall.of Tryd.func99 sf99 hb99 (Nat.le_of_ble_eq_true rfl) (okRes_nil fun _ => rfl) ?_; simp only [s99, idxs, Nat.reduceAdd]
 repeat' (first|(with_reducible first|apply qA|apply qB|apply qC|apply qD|apply qE|apply qF)|(refine qL rfl (WF.of ?_) ?_; first|rfl|skip)|(simp (disch:=omega) only [go_sem, simprocAttr, Blk.men, Blk.keysIn])|exact qM rfl rfl rfl|(refine qG rfl ?_)|(refine qK (hroot) (by decide) ?_)|(refine qH rfl ?_)|(refine qI rfl ?_ ?_<;>intro hc<;>(try simp only [go_sem] at hc))|(refine qJ ?_ ?_<;>intro hc<;>(try simp only [hc])<;>(try simp only [go_sem] at hc)))
structure CBox where
 el : Int
 eh : Int
 cl : Int
 ch : Int
 around : Int
 rule : Int
structure CBox.ok (b : CBox) : Prop where
 edge : 0 ≤ b.el ∧ b.el ≤ b.eh ∧ b.eh ≤ 100000
 cal : 1 ≤ b.cl ∧ b.cl ≤ b.ch ∧ b.ch ≤ 10000
 around : 1 ≤ b.around ∧ b.around ≤ 20000
 rule : 1 ≤ b.rule ∧ b.rule ≤ 1000
abbrev dCBox (b : CBox) : D := .agg [dI b.el, dI b.eh, dI b.cl, dI b.ch, dI b.around, dI b.rule]
attribute [go_sem] dCBox
theorem crStrength (b : CBox) (h : b.ok) (rl rh : Int) (hl : IsRoot (b.cl * b.around) rl) (hh : IsRoot (b.ch * b.around) rh) :
  DCall Tryd.prog 55 [dCBox b] [] (.tup [.agg [dI ((b.el * rl * b.rule).tdiv 100000), dI ((b.eh * rh * b.rule).tdiv 100000)], dI 0]) [] := by
 have h1 := crSpan b.el b.eh 0 100000 h.edge
 have h2 := crSpan b.cl b.ch 1 10000 h.cal
 have h3 := crIn true 1 20000 [b.around] (by simp) (by simpa using h.around)
 have h4 := crIn true 1 1000 [b.rule] (by simp) (by simpa using h.rule)
 have e := h.edge
 have c := h.cal
 have h5 := crStrong1 true b.el b.eh b.cl b.ch b.around b.rule b.el b.cl rl (by omega) (by omega) h.around h.rule hl
 have h6 := crStrong1 true b.el b.eh b.cl b.ch b.around b.rule b.eh b.ch rh (by omega) (by omega) h.around h.rule hh
 refine DCall.of Tryd.func55 sf55 hb55 (Nat.le_of_ble_eq_true rfl) (okRes_nil fun _ => rfl) ?_; simp only [s55, idxs, Nat.reduceAdd]
 repeat' (first|(with_reducible first|apply qA|apply qB|apply qC|apply qD|apply qE|apply qF)|(refine qL rfl (WF.of ?_) ?_; first|rfl|skip)|(simp (disch:=omega) only [go_sem, simprocAttr, Blk.men, Blk.keysIn])|exact qM rfl rfl rfl|(refine qG rfl ?_)|(refine qK (h1) (by decide) ?_)|(refine qK (h2) (by decide) ?_)|(refine qK (h3) (by decide) ?_)|(refine qK (h4) (by decide) ?_)|(refine qK (h5) (by decide) ?_)|(refine qK (h6) (by decide) ?_)|(refine qH rfl ?_)|(refine qI rfl ?_ ?_<;>intro hc<;>(try simp only [go_sem] at hc))|(refine qJ ?_ ?_<;>intro hc<;>(try simp only [hc])<;>(try simp only [go_sem] at hc)))
end Go.Dw.Seat
end
section
set_option linter.unusedSimpArgs false
set_option maxRecDepth 100000
namespace Go.Dw.Seat
open Go Go.Dw Go.Proofs Go.IntWalk
theorem bdW1 (n lo hi : Int) (p q : Bool) : DCall Tryd.prog 139 [dI n, .c (.ro p [.v (.int .i64 lo)] 0), .c (.ro q [.v (.int .i64 hi)] 0)] [] (bD (decide (n < lo) || decide (hi < n))) [] := by
 refine DCall.of Tryd.func139 sf139 hb139 (Nat.le_of_ble_eq_true rfl) (okRes_nil fun _ => rfl) ?_; simp only [s139, idxs, Nat.reduceAdd]
 repeat' (first|(with_reducible first|apply qA|apply qB|apply qC|apply qD|apply qE|apply qF)|(simp (disch:=omega) only [go_sem, simprocAttr, Blk.men, Blk.keysIn])|exact qM rfl rfl rfl|(refine qG rfl ?_)|(refine qH rfl ?_)|(refine qI rfl ?_ ?_<;>intro hc<;>(try simp only [go_sem] at hc))|(refine qJ ?_ ?_<;>intro hc<;>(try simp only [hc])<;>(try simp only [go_sem] at hc)))
theorem bdWithin (b : Bool) (lo hi : Int) (l : List Int) (hl : l.length ≤ 2 ^ 36) : DCall Tryd.prog 120 [dI lo, dI hi, dIs b l] [] (bD (wthn lo hi l)) [] := by
 refine DCall.of Tryd.func120 sf120 hb120 (Nat.le_of_ble_eq_true rfl) (okRes_nil fun _ => rfl) ?_; simp only [s120, idxs, Nat.reduceAdd]
 repeat' (first|(with_reducible first|apply qA|apply qB|apply qC|apply qD|apply qE|apply qF)|(simp (disch:=omega) only [go_sem, simprocAttr, Blk.men, Blk.keysIn])|exact qM rfl rfl rfl|(refine qG rfl ?_)|(refine qH rfl ?_)|(refine qI rfl ?_ ?_<;>intro hc<;>(try simp only [go_sem] at hc))|(refine qJ ?_ ?_<;>intro hc<;>(try simp only [hc])<;>(try simp only [go_sem] at hc)))
 (refine call_c (c110 b l hl 139 [] [.ro true [.v (.int .i64 lo)] 0, .ro true [.v (.int .i64 hi)] 0] (fun n => decide (n < lo) || decide (hi < n)) (fun x _ => bdW1 x lo hi true true)) (by decide) ?_; simp (disch:=omega) only [go_sem,simprocAttr,Blk.men,Blk.keysIn])
 repeat' (first|(with_reducible first|apply qA|apply qB|apply qC|apply qD|apply qE|apply qF)|(simp (disch:=omega) only [go_sem, simprocAttr, Blk.men, Blk.keysIn])|exact qM rfl rfl rfl|(refine qG rfl ?_)|(refine qH rfl ?_)|(refine qI rfl ?_ ?_<;>intro hc<;>(try simp only [go_sem] at hc))|(refine qJ ?_ ?_<;>intro hc<;>(try simp only [hc])<;>(try simp only [go_sem] at hc)))
theorem bdIn (b : Bool) (lo hi : Int) (l : List Int) (hl : l.length ≤ 2 ^ 36) (h : ∀ v ∈ l, lo ≤ v ∧ v ≤ hi) : DCall Tryd.prog 120 [dI lo, dI hi, dIs b l] [] (bD true) [] := by
 have := bdWithin b lo hi l hl
 rwa [wthn_yes h] at this
structure Pap where
 kind : Int
 weight : Int
 tl : Int
 th : Int
 ml : Int
 mh : Int
 price : Int
 strong : Int
structure Flu where
 pitch : Int
 draw : Int
 hl : Int
 hh : Int
def eP (p : Pap) : List C := [.v (.int .i64 p.kind), .v (.int .i64 p.weight), .v (.int .i64 p.tl), .v (.int .i64 p.th), .v (.int .i64 p.ml), .v (.int .i64 p.mh), .v (.int .i64 p.price), .v (.int .i64 p.strong)]
def eF (f : Flu) : List C := [.v (.int .i64 f.pitch), .v (.int .i64 f.draw), .v (.int .i64 f.hl), .v (.int .i64 f.hh)]
theorem eP_nb (v : Pap) : C.nbs (eP v) = true := rfl
theorem eF_nb (v : Flu) : C.nbs (eF v) = true := rfl
structure Pap.ok (p : Pap) : Prop where
 kind : p.kind = 1 ∨ p.kind = 2
 weight : 1 ≤ p.weight ∧ p.weight ≤ 1000
 thick : 1 ≤ p.tl ∧ p.tl ≤ p.th ∧ p.th ≤ 1000
 moist : 0 ≤ p.ml ∧ p.ml ≤ p.mh ∧ p.mh ≤ 200
 price : 0 ≤ p.price ∧ p.price ≤ 1000000
 strong : 0 ≤ p.strong ∧ p.strong ≤ 10000
structure Flu.ok (f : Flu) : Prop where
 pitch : 1000 ≤ f.pitch ∧ f.pitch ≤ 10000
 draw : f.pitch ≤ f.draw ∧ f.draw ≤ 2 * f.pitch
 high : 1 ≤ f.hl ∧ f.hl ≤ f.hh ∧ f.hh ≤ 10000
structure Sto where
 papers : List Pap
 flutes : List Flu
structure Sto.ok (s : Sto) : Prop where
 np : 1 ≤ s.papers.length ∧ s.papers.length ≤ 8
 nf : 1 ≤ s.flutes.length ∧ s.flutes.length ≤ 4
 papers : ∀ p ∈ s.papers, p.ok
 flutes : ∀ f ∈ s.flutes, f.ok
abbrev dSto (s : Sto) : D := .agg [.c (.sl false 8 (rows eP s.papers)), .c (.sl false 4 (rows eF s.flutes))]
attribute [go_sem] eP eF dSto
theorem bdSpan (lo hi least most : Int) (h : least ≤ lo ∧ lo ≤ hi ∧ hi ≤ most) : DCall Tryd.prog 143 [.agg [dI lo, dI hi], dI least, dI most] [] (bD true) [] := by
 have h1 := bdIn true least most [lo, hi] (by simp) (by simp; omega)
 have hd : decide (lo ≤ hi) = true := decide_eq_true h.2.1
 refine DCall.of Tryd.func143 sf143 hb143 (Nat.le_of_ble_eq_true rfl) (okRes_nil fun _ => rfl) ?_; simp only [s143, idxs, Nat.reduceAdd]
 repeat' (first|(with_reducible first|apply qA|apply qB|apply qC|apply qD|apply qE|apply qF)|(simp (disch:=omega) only [go_sem, simprocAttr, Blk.men, Blk.keysIn, hd])|exact qM rfl rfl rfl|(refine qG rfl ?_)|(refine qK (h1) (by decide) ?_)|(refine qH rfl ?_)|(refine qI rfl ?_ ?_<;>intro hc<;>(try simp only [go_sem] at hc))|(refine qJ ?_ ?_<;>intro hc<;>(try simp only [hc])<;>(try simp only [go_sem] at hc)))
theorem bdPaper (p : Pap) (h : p.ok) : DCall Tryd.prog 135 [.agg ((eP p).map D.c)] [] (bD true) [] := by
 have h1 := bdIn true 1 1000 [p.weight] (by simp) (by simpa using h.weight)
 have h2 := bdSpan p.tl p.th 1 1000 h.thick
 have h3 := bdSpan p.ml p.mh 0 200 h.moist
 have h4 := bdIn true 0 1000000 [p.price] (by simp) (by simpa using h.price)
 have h5 := bdIn true 0 10000 [p.strong] (by simp) (by simpa using h.strong)
 rcases h.kind with hk | hk
 ·refine DCall.of Tryd.func135 sf135 hb135 (Nat.le_of_ble_eq_true rfl) (okRes_nil fun _ => rfl) ?_; simp only [s135, idxs, Nat.reduceAdd]
  repeat' (first|(with_reducible first|apply qA|apply qB|apply qC|apply qD|apply qE|apply qF)|(simp (disch:=omega) only [go_sem, simprocAttr, Blk.men, Blk.keysIn, rF, rG, hk])|exact qM rfl rfl rfl|(refine qG rfl ?_)|(refine qK (h1) (by decide) ?_)|(refine qK (h2) (by decide) ?_)|(refine qK (h3) (by decide) ?_)|(refine qK (h4) (by decide) ?_)|(refine qK (h5) (by decide) ?_)|(refine qH rfl ?_)|(refine qI rfl ?_ ?_<;>intro hc<;>(try simp only [go_sem] at hc))|(refine qJ ?_ ?_<;>intro hc<;>(try simp only [hc])<;>(try simp only [go_sem] at hc)))
 ·refine DCall.of Tryd.func135 sf135 hb135 (Nat.le_of_ble_eq_true rfl) (okRes_nil fun _ => rfl) ?_; simp only [s135, idxs, Nat.reduceAdd]
  repeat' (first|(with_reducible first|apply qA|apply qB|apply qC|apply qD|apply qE|apply qF)|(simp (disch:=omega) only [go_sem, simprocAttr, Blk.men, Blk.keysIn, rF, rG, hk])|exact qM rfl rfl rfl|(refine qG rfl ?_)|(refine qK (h1) (by decide) ?_)|(refine qK (h2) (by decide) ?_)|(refine qK (h3) (by decide) ?_)|(refine qK (h4) (by decide) ?_)|(refine qK (h5) (by decide) ?_)|(refine qH rfl ?_)|(refine qI rfl ?_ ?_<;>intro hc<;>(try simp only [go_sem] at hc))|(refine qJ ?_ ?_<;>intro hc<;>(try simp only [hc])<;>(try simp only [go_sem] at hc)))
theorem bdFlute (f : Flu) (h : f.ok) : DCall Tryd.prog 138 [.agg ((eF f).map D.c)] [] (bD true) [] := by
 have hp := h.pitch
 have h1 := bdIn true 1000 10000 [f.pitch] (by simp) (by simpa using h.pitch)
 have h2 := bdIn true f.pitch (2 * f.pitch) [f.draw] (by simp) (by simpa using h.draw)
 have h3 := bdSpan f.hl f.hh 1 10000 h.high
 refine DCall.of Tryd.func138 sf138 hb138 (Nat.le_of_ble_eq_true rfl) (okRes_nil fun _ => rfl) ?_; simp only [s138, idxs, Nat.reduceAdd]
 repeat' (first|(with_reducible first|apply qA|apply qB|apply qC|apply qD|apply qE|apply qF)|(simp (disch:=omega) only [go_sem, simprocAttr, Blk.men, Blk.keysIn, rF, rG])|exact qM rfl rfl rfl|(refine qG rfl ?_)|(refine qK (h1) (by decide) ?_)|(refine qK (h2) (by decide) ?_)|(refine qK (h3) (by decide) ?_)|(refine qH rfl ?_)|(refine qI rfl ?_ ?_<;>intro hc<;>(try simp only [go_sem] at hc))|(refine qJ ?_ ?_<;>intro hc<;>(try simp only [hc])<;>(try simp only [go_sem] at hc)))
theorem bdP1 (p : Pap) (h : p.ok) : DCall Tryd.prog 134 [.agg ((eP p).map D.c)] [] (bD false) [] := by
 have h1 := bdPaper p h
 refine DCall.of Tryd.func134 sf134 hb134 (Nat.le_of_ble_eq_true rfl) (okRes_nil fun _ => rfl) ?_; simp only [s134, idxs, Nat.reduceAdd]
 repeat' (first|(with_reducible first|apply qA|apply qB|apply qC|apply qD|apply qE|apply qF)|(simp (disch:=omega) only [go_sem, simprocAttr, Blk.men, Blk.keysIn, rF, rG])|exact qM rfl rfl rfl|(refine qG rfl ?_)|(refine qK (h1) (by decide) ?_)|(refine qH rfl ?_)|(refine qI rfl ?_ ?_<;>intro hc<;>(try simp only [go_sem] at hc))|(refine qJ ?_ ?_<;>intro hc<;>(try simp only [hc])<;>(try simp only [go_sem] at hc)))
theorem bdF1 (f : Flu) (h : f.ok) : DCall Tryd.prog 137 [.agg ((eF f).map D.c)] [] (bD false) [] := by
 have h1 := bdFlute f h
 refine DCall.of Tryd.func137 sf137 hb137 (Nat.le_of_ble_eq_true rfl) (okRes_nil fun _ => rfl) ?_; simp only [s137, idxs, Nat.reduceAdd]
 repeat' (first|(with_reducible first|apply qA|apply qB|apply qC|apply qD|apply qE|apply qF)|(simp (disch:=omega) only [go_sem, simprocAttr, Blk.men, Blk.keysIn, rF, rG])|exact qM rfl rfl rfl|(refine qG rfl ?_)|(refine qK (h1) (by decide) ?_)|(refine qH rfl ?_)|(refine qI rfl ?_ ?_<;>intro hc<;>(try simp only [go_sem] at hc))|(refine qJ ?_ ?_<;>intro hc<;>(try simp only [hc])<;>(try simp only [go_sem] at hc)))
theorem bdPIdx (b : Bool) (l : List Pap) (hl : l.length ≤ 2 ^ 36) (g : FuncId) (hp : ∀ x ∈ l, DCall Tryd.prog g [.agg ((eP x).map D.c)] [] (bD false) []) : DCall Tryd.prog 142 [.c (.sl b 8 (rows eP l)), .c (.fn (.func g) [] [])] [] (dI (-1)) [] := by
 refine DCall.of Tryd.func142 sf142 hb142 (Nat.le_of_ble_eq_true rfl) (okRes_nil fun _ => rfl) ?_; simp only [s142, idxs, Nat.reduceAdd]
 repeat' (first|(with_reducible first|apply qA|apply qB|apply qC|apply qD|apply qE|apply qF)|(simp (disch:=omega) only [go_sem, simprocAttr, Blk.men, Blk.keysIn])|exact qM rfl rfl rfl|(refine qG rfl ?_)|(refine qH rfl ?_)|(refine qI rfl ?_ ?_<;>intro hc<;>(try simp only [go_sem] at hc))|(refine qJ ?_ ?_<;>intro hc<;>(try simp only [hc])<;>(try simp only [go_sem] at hc)))
 refine DW.loop (ι := { i : Nat // i ≤ l.length }) (fun i => ⟨19, [(8, dI i.1), (7, dI l.length), (1, .c (.fn (.func g) [] [])), (0, .c (.sl b 8 (rows eP l)))], []⟩) (fun i => l.length - i.1) ⟨0, Nat.zero_le _⟩ ?_ ?_
 ·refine Ent.to ?_ ?_ <;> simp (disch:=omega) only [qR,qS,qTw,qU,get,Nat.reduceEqDiff,↓reduceIte,qV,qW,qX,qY,qZ,and_self,dI,i64_in,and_true,true_and,rA,rB,rC,rD]
 rintro ⟨i, hi⟩
 rcases at_or l i hi with ⟨v, hv, hlt, hd⟩ | ⟨he, hd⟩
 ·have hcall := hp v (List.mem_of_getElem? hv)
  repeat' (first|(with_reducible first|apply qA|apply qB|apply qC|apply qD|apply qE|apply qF)|(simp (disch:=omega) only [go_sem, simprocAttr, Blk.men, Blk.keysIn, hd, hv, closeDs_fn, rF, rG])|exact qM rfl rfl rfl|(refine qG rfl ?_)|(refine qH rfl ?_)|(refine qI rfl ?_ ?_<;>intro hc<;>(try simp only [go_sem] at hc))|(refine qJ ?_ ?_<;>intro hc<;>(try simp only [hc])<;>(try simp only [go_sem] at hc)))
  refine call_c hcall (by decide) ?_
  simp (disch:=omega) only [go_sem,simprocAttr,Blk.men,Blk.keysIn]
  repeat' (first|(with_reducible first|apply qA|apply qB|apply qC|apply qD|apply qE|apply qF)|(simp (disch:=omega) only [go_sem, simprocAttr, Blk.men, Blk.keysIn])|exact qM rfl rfl rfl|(refine qG rfl ?_)|(refine qH rfl ?_)|(refine qI rfl ?_ ?_<;>intro hc<;>(try simp only [go_sem] at hc))|(refine qJ ?_ ?_<;>intro hc<;>(try simp only [hc])<;>(try simp only [go_sem] at hc)))
  refine ⟨⟨i + 1, hlt⟩, ?_, Ent.to ?_ ?_⟩ <;> first | (show _ < _; (try simp only); omega) | (simp (disch:=omega) only [qR,qS,qTw,qU,get,Nat.reduceEqDiff,↓reduceIte,qV,qW,qX,qY,qZ,and_self,dI,i64_in,and_true,true_and,rA,rB,rC,rD])
 ·repeat' (first|(with_reducible first|apply qA|apply qB|apply qC|apply qD|apply qE|apply qF)|(simp (disch:=omega) only [go_sem, simprocAttr, Blk.men, Blk.keysIn, hd])|exact qM rfl rfl rfl|(refine qG rfl ?_)|(refine qH rfl ?_)|(refine qI rfl ?_ ?_<;>intro hc<;>(try simp only [go_sem] at hc))|(refine qJ ?_ ?_<;>intro hc<;>(try simp only [hc])<;>(try simp only [go_sem] at hc)))
theorem bdPCon (b : Bool) (l : List Pap) (hl : l.length ≤ 2 ^ 36) (g : FuncId) (hp : ∀ x ∈ l, DCall Tryd.prog g [.agg ((eP x).map D.c)] [] (bD false) []) : DCall Tryd.prog 133 [.c (.sl b 8 (rows eP l)), .c (.fn (.func g) [] [])] [] (bD false) [] := by
 refine DCall.of Tryd.func133 sf133 hb133 (Nat.le_of_ble_eq_true rfl) (okRes_nil fun _ => rfl) ?_; simp only [s133, idxs, Nat.reduceAdd]
 repeat' (first|(with_reducible first|apply qA|apply qB|apply qC|apply qD|apply qE|apply qF)|(simp (disch:=omega) only [go_sem, simprocAttr, Blk.men, Blk.keysIn])|exact qM rfl rfl rfl|(refine qG rfl ?_)|(refine qH rfl ?_)|(refine qI rfl ?_ ?_<;>intro hc<;>(try simp only [go_sem] at hc))|(refine qJ ?_ ?_<;>intro hc<;>(try simp only [hc])<;>(try simp only [go_sem] at hc)))
 (refine call_c (bdPIdx b l hl g hp) (by decide) ?_; simp (disch:=omega) only [go_sem,simprocAttr,Blk.men,Blk.keysIn])
 repeat' (first|(with_reducible first|apply qA|apply qB|apply qC|apply qD|apply qE|apply qF)|(simp (disch:=omega) only [go_sem, simprocAttr, Blk.men, Blk.keysIn])|exact qM rfl rfl rfl|(refine qG rfl ?_)|(refine qH rfl ?_)|(refine qI rfl ?_ ?_<;>intro hc<;>(try simp only [go_sem] at hc))|(refine qJ ?_ ?_<;>intro hc<;>(try simp only [hc])<;>(try simp only [go_sem] at hc)))
theorem bdFIdx (b : Bool) (l : List Flu) (hl : l.length ≤ 2 ^ 36) (g : FuncId) (hp : ∀ x ∈ l, DCall Tryd.prog g [.agg ((eF x).map D.c)] [] (bD false) []) : DCall Tryd.prog 144 [.c (.sl b 4 (rows eF l)), .c (.fn (.func g) [] [])] [] (dI (-1)) [] := by
 refine DCall.of Tryd.func144 sf144 hb144 (Nat.le_of_ble_eq_true rfl) (okRes_nil fun _ => rfl) ?_; simp only [s144, idxs, Nat.reduceAdd]
 repeat' (first|(with_reducible first|apply qA|apply qB|apply qC|apply qD|apply qE|apply qF)|(simp (disch:=omega) only [go_sem, simprocAttr, Blk.men, Blk.keysIn])|exact qM rfl rfl rfl|(refine qG rfl ?_)|(refine qH rfl ?_)|(refine qI rfl ?_ ?_<;>intro hc<;>(try simp only [go_sem] at hc))|(refine qJ ?_ ?_<;>intro hc<;>(try simp only [hc])<;>(try simp only [go_sem] at hc)))
 refine DW.loop (ι := { i : Nat // i ≤ l.length }) (fun i => ⟨19, [(8, dI i.1), (7, dI l.length), (1, .c (.fn (.func g) [] [])), (0, .c (.sl b 4 (rows eF l)))], []⟩) (fun i => l.length - i.1) ⟨0, Nat.zero_le _⟩ ?_ ?_
 ·refine Ent.to ?_ ?_ <;> simp (disch:=omega) only [qR,qS,qTw,qU,get,Nat.reduceEqDiff,↓reduceIte,qV,qW,qX,qY,qZ,and_self,dI,i64_in,and_true,true_and,rA,rB,rC,rD]
 rintro ⟨i, hi⟩
 rcases at_or l i hi with ⟨v, hv, hlt, hd⟩ | ⟨he, hd⟩
 ·have hcall := hp v (List.mem_of_getElem? hv)
  repeat' (first|(with_reducible first|apply qA|apply qB|apply qC|apply qD|apply qE|apply qF)|(simp (disch:=omega) only [go_sem, simprocAttr, Blk.men, Blk.keysIn, hd, hv, closeDs_fn, rF, rG])|exact qM rfl rfl rfl|(refine qG rfl ?_)|(refine qH rfl ?_)|(refine qI rfl ?_ ?_<;>intro hc<;>(try simp only [go_sem] at hc))|(refine qJ ?_ ?_<;>intro hc<;>(try simp only [hc])<;>(try simp only [go_sem] at hc)))
  refine call_c hcall (by decide) ?_
  simp (disch:=omega) only [go_sem,simprocAttr,Blk.men,Blk.keysIn]
  repeat' (first|(with_reducible first|apply qA|apply qB|apply qC|apply qD|apply qE|apply qF)|(simp (disch:=omega) only [go_sem, simprocAttr, Blk.men, Blk.keysIn])|exact qM rfl rfl rfl|(refine qG rfl ?_)|(refine qH rfl ?_)|(refine qI rfl ?_ ?_<;>intro hc<;>(try simp only [go_sem] at hc))|(refine qJ ?_ ?_<;>intro hc<;>(try simp only [hc])<;>(try simp only [go_sem] at hc)))
  refine ⟨⟨i + 1, hlt⟩, ?_, Ent.to ?_ ?_⟩ <;> first | (show _ < _; (try simp only); omega) | (simp (disch:=omega) only [qR,qS,qTw,qU,get,Nat.reduceEqDiff,↓reduceIte,qV,qW,qX,qY,qZ,and_self,dI,i64_in,and_true,true_and,rA,rB,rC,rD])
 ·repeat' (first|(with_reducible first|apply qA|apply qB|apply qC|apply qD|apply qE|apply qF)|(simp (disch:=omega) only [go_sem, simprocAttr, Blk.men, Blk.keysIn, hd])|exact qM rfl rfl rfl|(refine qG rfl ?_)|(refine qH rfl ?_)|(refine qI rfl ?_ ?_<;>intro hc<;>(try simp only [go_sem] at hc))|(refine qJ ?_ ?_<;>intro hc<;>(try simp only [hc])<;>(try simp only [go_sem] at hc)))
theorem bdFCon (b : Bool) (l : List Flu) (hl : l.length ≤ 2 ^ 36) (g : FuncId) (hp : ∀ x ∈ l, DCall Tryd.prog g [.agg ((eF x).map D.c)] [] (bD false) []) : DCall Tryd.prog 136 [.c (.sl b 4 (rows eF l)), .c (.fn (.func g) [] [])] [] (bD false) [] := by
 refine DCall.of Tryd.func136 sf136 hb136 (Nat.le_of_ble_eq_true rfl) (okRes_nil fun _ => rfl) ?_; simp only [s136, idxs, Nat.reduceAdd]
 repeat' (first|(with_reducible first|apply qA|apply qB|apply qC|apply qD|apply qE|apply qF)|(simp (disch:=omega) only [go_sem, simprocAttr, Blk.men, Blk.keysIn])|exact qM rfl rfl rfl|(refine qG rfl ?_)|(refine qH rfl ?_)|(refine qI rfl ?_ ?_<;>intro hc<;>(try simp only [go_sem] at hc))|(refine qJ ?_ ?_<;>intro hc<;>(try simp only [hc])<;>(try simp only [go_sem] at hc)))
 (refine call_c (bdFIdx b l hl g hp) (by decide) ?_; simp (disch:=omega) only [go_sem,simprocAttr,Blk.men,Blk.keysIn])
 repeat' (first|(with_reducible first|apply qA|apply qB|apply qC|apply qD|apply qE|apply qF)|(simp (disch:=omega) only [go_sem, simprocAttr, Blk.men, Blk.keysIn])|exact qM rfl rfl rfl|(refine qG rfl ?_)|(refine qH rfl ?_)|(refine qI rfl ?_ ?_<;>intro hc<;>(try simp only [go_sem] at hc))|(refine qJ ?_ ?_<;>intro hc<;>(try simp only [hc])<;>(try simp only [go_sem] at hc)))
theorem bdCheck (s : Sto) (h : s.ok) : DCall Tryd.prog 118 [dSto s] [] (dI 0) [] := by
 have hp := h.np
 have hf := h.nf
 have h1 := bdPCon false s.papers (by omega) 134 (fun p hp => bdP1 p (h.papers p hp))
 have h2 := bdFCon false s.flutes (by omega) 137 (fun f hf => bdF1 f (h.flutes f hf))
 have d1 : decide ((8 : Int) < (s.papers.length : Int)) = false := by rw [decide_eq_false_iff_not]; omega
 have d2 : decide ((4 : Int) < (s.flutes.length : Int)) = false := by rw [decide_eq_false_iff_not]; omega
 have d3 : ((s.papers.length : Int) == 0) = false := by rw [beq_eq_false_iff_ne]; omega
 have d4 : ((s.flutes.length : Int) == 0) = false := by rw [beq_eq_false_iff_ne]; omega
 refine DCall.of Tryd.func118 sf118 hb118 (Nat.le_of_ble_eq_true rfl) (okRes_nil fun _ => rfl) ?_; simp only [s118, idxs, Nat.reduceAdd]
 repeat' (first|(with_reducible first|apply qA|apply qB|apply qC|apply qD|apply qE|apply qF)|(simp (disch:=omega) only [go_sem, simprocAttr, Blk.men, Blk.keysIn, d1, d2, d3, d4])|exact qM rfl rfl rfl|(refine qG rfl ?_)|(refine qK (h1) (by decide) ?_)|(refine qK (h2) (by decide) ?_)|(refine qH rfl ?_)|(refine qI rfl ?_ ?_<;>intro hc<;>(try simp only [go_sem] at hc))|(refine qJ ?_ ?_<;>intro hc<;>(try simp only [hc])<;>(try simp only [go_sem] at hc)))
structure Mak where
 papers : List Nat
 flutes : List Nat
abbrev dMak (m : Mak) : D := .agg [.c (.sl false 1 (rows eI (nL m.papers))), .c (.sl false 1 (rows eI (nL m.flutes)))]
attribute [go_sem] dMak
structure Mak.ok (m : Mak) (s : Sto) : Prop where
 nf : 1 ≤ m.flutes.length ∧ m.flutes.length ≤ 2
 np : m.papers.length = 2 * m.flutes.length + 1
 papers : ∀ n ∈ m.papers, n < s.papers.length
 flutes : ∀ n ∈ m.flutes, n < s.flutes.length
 kind : ∀ (i n : Nat) (p : Pap), m.papers[i]? = some n → s.papers[n]? = some p → p.kind = if i % 2 = 0 then 1 else 2
def kindsL : Nat → List Int
 | 0 => [1]
 | n + 1 => kindsL n ++ [2, 1]
theorem kindsL_len : ∀ n, (kindsL n).length = 2 * n + 1
 | 0 => rfl
 | n + 1 => by rw [kindsL, List.length_append, kindsL_len n]; simp; omega
theorem kindsL_get : ∀ n i, i < 2 * n + 1 → (kindsL n)[i]? = some (if i % 2 = 0 then 1 else 2)
 | 0, i, h => by
  obtain rfl : i = 0 := by omega
  rfl
 | n + 1, i, h => by
  rw [kindsL]
  rcases Nat.lt_or_ge i (2 * n + 1) with h1 | h1
  ·rw [List.getElem?_append_left (by rw [kindsL_len]; omega)]
   exact kindsL_get n i h1
  ·rw [List.getElem?_append_right (by rw [kindsL_len]; omega), kindsL_len]
   rcases (by omega : i = 2 * n + 1 ∨ i = 2 * n + 2) with rfl | rfl
   ·rw [if_neg (by omega)]; simp
   ·rw [if_pos (by omega)]; simp
theorem snoc2 (l : List Int) (a b : Int) : rowC (rows eI l) ++ [[D.c (.v (.int .i64 a))], [D.c (.v (.int .i64 b))]] = rowC (rows eI (l ++ [a, b])) := by simp [rowC, rows, eI]
theorem bdKinds (n : Nat) (hn : n ≤ 1000) : DCall Tryd.prog 121 [dI n] [] (dIs false (kindsL n)) [] := by
 refine DCall.of Tryd.func121 sf121 hb121 (Nat.le_of_ble_eq_true rfl) (okRes_nil fun _ => rfl) ?_; simp only [s121, idxs, Nat.reduceAdd]
 repeat' (first|(with_reducible first|apply qA|apply qB|apply qC|apply qD|apply qE|apply qF)|(simp (disch:=omega) only [go_sem, simprocAttr, Blk.men, Blk.keysIn])|exact qM rfl rfl rfl|(refine qG rfl ?_)|(refine qH rfl ?_)|(refine qI rfl ?_ ?_<;>intro hc<;>(try simp only [go_sem] at hc))|(refine qJ ?_ ?_<;>intro hc<;>(try simp only [hc])<;>(try simp only [go_sem] at hc)))
 refine DW.loop (ι := { i : Nat // i ≤ n }) (fun i => ⟨13, [(6, dI i.1), (5, dI n), (3, .own 4)], [(4, .row 1 (rowC (rows eI (kindsL i.1))))]⟩) (fun i => n - i.1) ⟨0, Nat.zero_le _⟩ ?_ ?_
 ·refine Ent.to ?_ ?_ <;> simp (disch:=omega) only [qR,qS,qTw,qU,get,Nat.reduceEqDiff,↓reduceIte,qV,qW,qX,qY,qZ,and_self,dI,i64_in,and_true,true_and,rA,rB,rC,rD]
  exact .refl _
 rintro ⟨i, hi⟩
 rcases Nat.lt_or_ge i n with hlt | hge
 ·have hd : decide ((i : Int) < (n : Int)) = true := by rw [decide_eq_true_eq]; omega
  have hl := kindsL_len i
  have hs : kindsL (i + 1) = kindsL i ++ [2, 1] := rfl
  generalize kindsL i = k at *
  repeat' (first|(with_reducible first|apply qA|apply qB|apply qC|apply qD|apply qE|apply qF)|(simp (disch:=omega) only [go_sem, simprocAttr, Blk.men, Blk.keysIn, hd, snoc2])|exact qM rfl rfl rfl|(refine qG rfl ?_)|(refine qH rfl ?_)|(refine qI rfl ?_ ?_<;>intro hc<;>(try simp only [go_sem] at hc))|(refine qJ ?_ ?_<;>intro hc<;>(try simp only [hc])<;>(try simp only [go_sem] at hc)))
  refine ⟨⟨i + 1, hlt⟩, ?_, Ent.to ?_ ?_⟩ <;> first | (show _ < _; (try simp only); omega) | (simp (disch:=omega) only [qR,qS,qTw,qU,get,Nat.reduceEqDiff,↓reduceIte,qV,qW,qX,qY,qZ,and_self,dI,i64_in,and_true,true_and,rA,rB,rC,rD, hs])
  all_goals exact .refl _
 ·obtain rfl : i = n := by omega
  have hd : decide ((i : Int) < (i : Int)) = false := by rw [decide_eq_false_iff_not]; omega
  repeat' (first|(with_reducible first|apply qA|apply qB|apply qC|apply qD|apply qE|apply qF)|(simp (disch:=omega) only [go_sem, simprocAttr, Blk.men, Blk.keysIn, hd])|exact qM rfl rfl rfl|(refine qG rfl ?_)|(refine qH rfl ?_)|(refine qI rfl ?_ ?_<;>intro hc<;>(try simp only [go_sem] at hc))|(refine qJ ?_ ?_<;>intro hc<;>(try simp only [hc])<;>(try simp only [go_sem] at hc)))
  (refine retS_ent (Ent.rel 4 rfl) ?_; simp (disch:=omega) only [go_sem,simprocAttr,Blk.men,Blk.keysIn])
  refine retS_wk rfl ?_ (by simp only [Blk.nb, rowC_nb, D.nb, D.nbs, C.nb, C.nbs, C.nbss, rows_nb eI_nb, Bool.and_true, Bool.not_false, Bool.and_self, bD, dI, iD, rows_nb eP_nb, rows_nb eF_nb]); exact .refl _
end Go.Dw.Seat
end
section
set_option linter.unusedSimpArgs false
set_option maxRecDepth 100000
namespace Go.Dw.Seat
open Go Go.Dw Go.Proofs Go.IntWalk
theorem bdForm (m : Mak) (s : Sto) (h : m.ok s) : DCall Tryd.prog 119 [dMak m] [] (bD true) [] := by
 have hf := h.nf
 have hn := h.np
 have h1 := bdIn true 1 2 [(m.flutes.length : Int)] (by simp) (by simp; omega)
 have h2 := bdKinds m.flutes.length (by omega)
 have hl := kindsL_len m.flutes.length
 have hd : ((m.papers.length : Int) == ((kindsL m.flutes.length).length : Int)) = true := by rw [hl, hn]; simp
 refine DCall.of Tryd.func119 sf119 hb119 (Nat.le_of_ble_eq_true rfl) (okRes_nil fun _ => rfl) ?_; simp only [s119, idxs, Nat.reduceAdd]
 repeat' (first|(with_reducible first|apply qA|apply qB|apply qC|apply qD|apply qE|apply qF)|(refine qL rfl (WF.of ?_) ?_; first|rfl|skip)|(simp (disch:=omega) only [go_sem, simprocAttr, qN, qO, qP, qQ, hd, nL_length])|exact qM rfl rfl rfl|(refine qG rfl ?_)|(refine qK (h1) (by decide) ?_)|(refine qK (h2) (by decide) ?_)|(refine qH rfl ?_)|(refine qI rfl ?_ ?_<;>intro hc<;>(try simp only [go_sem] at hc))|(refine qJ ?_ ?_<;>intro hc<;>(try simp only [hc])<;>(try simp only [go_sem] at hc)))
theorem nL_at {l : List Nat} {i v : Nat} (h : l[i]? = some v) : (nL l)[i]? = some (v : Int) := by rw [nL_get, h]; rfl
theorem bdMade (s : Sto) (m : Mak) (hs : s.ok) (h : m.ok s) : DCall Tryd.prog 86 [dSto s, dMak m] [] (dI 0) [] := by
 have hf := h.nf
 have hn := h.np
 have hsp := hs.np
 have hsf := hs.nf
 have h1 := bdCheck s hs
 have h2 := bdForm m s h
 have h3 := bdIn false 0 ((s.papers.length : Int) - 1) (nL m.papers) (by rw [nL_length]; omega) (fun v hv => by
  obtain ⟨n, hn, rfl⟩ := List.mem_map.1 hv
  have := h.papers n hn
  omega)
 have h4 := bdIn false 0 ((s.flutes.length : Int) - 1) (nL m.flutes) (by rw [nL_length]; omega) (fun v hv => by
  obtain ⟨n, hn, rfl⟩ := List.mem_map.1 hv
  have := h.flutes n hn
  omega)
 have h5 := bdKinds m.flutes.length (by omega)
 have hl := kindsL_len m.flutes.length
 have hk := kindsL_get m.flutes.length
 have hkl : (kindsL m.flutes.length).length ≤ 5 := by omega
 refine DCall.of Tryd.func86 sf86 hb86 (Nat.le_of_ble_eq_true rfl) (okRes_nil fun _ => rfl) ?_; simp only [s86, idxs, Nat.reduceAdd]
 repeat' (first|(with_reducible first|apply qA|apply qB|apply qC|apply qD|apply qE|apply qF)|(refine qL rfl (WF.of ?_) ?_; first|rfl|skip)|(simp (disch:=omega) only [go_sem, simprocAttr, qN, qO, qP, qQ, nL_length])|exact qM rfl rfl rfl|(refine qG rfl ?_)|(refine qK (h1) (by decide) ?_)|(refine qK (h2) (by decide) ?_)|(refine qK (h3) (by decide) ?_)|(refine qK (h4) (by decide) ?_)|(refine qK (h5) (by decide) ?_)|(refine qH rfl ?_)|(refine qI rfl ?_ ?_<;>intro hc<;>(try simp only [go_sem] at hc))|(refine qJ ?_ ?_<;>intro hc<;>(try simp only [hc])<;>(try simp only [go_sem] at hc)))
 refine DW.loop (ι := { i : Nat // i ≤ m.papers.length }) (fun i => ⟨57, [(39, dI i.1), (38, dI (kindsL m.flutes.length).length), (37, .c (.sl false 1 (rows eI (kindsL m.flutes.length)))), (3, .box 3 0), (2, .box 2 0)], [(3, .box [.c (.sl false 1 (rows eI (nL m.papers))), .c (.sl false 1 (rows eI (nL m.flutes)))]), (2, .box [.c (.sl false 8 (rows eP s.papers)), .c (.sl false 4 (rows eF s.flutes))])]⟩) (fun i => m.papers.length - i.1) ⟨0, Nat.zero_le _⟩ ?_ ?_
 ·refine Ent.to ?_ ?_ <;> simp (disch:=omega) only [qR,qS,qTw,qU,get,Nat.reduceEqDiff,↓reduceIte,qV,qW,qX,qY,qZ,and_self,dI,i64_in,and_true,true_and,rA,rB,rC,rD]
 rintro ⟨i, hi⟩
 rcases Nat.lt_or_ge i m.papers.length with hlt | hge
 ·have hd : decide ((i : Int) < ((kindsL m.flutes.length).length : Int)) = true := by rw [decide_eq_true_eq]; omega
  have hki := hk i (by omega)
  obtain ⟨v, hv⟩ := getE (l := m.papers) (i := i) hlt
  have hv' := nL_at hv
  have hvs := h.papers v (List.mem_of_getElem? hv)
  obtain ⟨p, hp⟩ := getE (l := s.papers) (i := v) hvs
  have hpk := h.kind i v p hv hp
  have hl1 : (nL m.papers).length = m.papers.length := nL_length _
  rw [← hpk] at hki
  have hne : (p.kind != p.kind) = false := by simp
  generalize kindsL m.flutes.length = k at *
  repeat' (first|(with_reducible first|apply qA|apply qB|apply qC|apply qD|apply qE|apply qF)|(refine qL rfl (WF.of ?_) ?_; first|rfl|skip)|(simp (disch:=omega) only [go_sem, simprocAttr, qN, qO, qP, qQ, hd, hki, hv', hp, hl1, hne, rF, rG])|exact qM rfl rfl rfl|(refine qG rfl ?_)|(refine qH rfl ?_)|(refine qI rfl ?_ ?_<;>intro hc<;>(try simp only [go_sem] at hc))|(refine qJ ?_ ?_<;>intro hc<;>(try simp only [hc])<;>(try simp only [go_sem] at hc)))
  refine ⟨⟨i + 1, hlt⟩, ?_, Ent.to ?_ ?_⟩ <;> first | (show _ < _; (try simp only); omega) | (simp (disch:=omega) only [qR,qS,qTw,qU,get,Nat.reduceEqDiff,↓reduceIte,qV,qW,qX,qY,qZ,and_self,dI,i64_in,and_true,true_and,rA,rB,rC,rD])
 ·have hd : decide ((i : Int) < ((kindsL m.flutes.length).length : Int)) = false := by rw [decide_eq_false_iff_not]; omega
  repeat' (first|(with_reducible first|apply qA|apply qB|apply qC|apply qD|apply qE|apply qF)|(refine qL rfl (WF.of ?_) ?_; first|rfl|skip)|(simp (disch:=omega) only [go_sem, simprocAttr, qN, qO, qP, qQ, hd])|exact qM rfl rfl rfl|(refine qG rfl ?_)|(refine qH rfl ?_)|(refine qI rfl ?_ ?_<;>intro hc<;>(try simp only [go_sem] at hc))|(refine qJ ?_ ?_<;>intro hc<;>(try simp only [hc])<;>(try simp only [go_sem] at hc)))
def papAt (s : Sto) (n : Nat) : Pap := s.papers[n]?.getD ⟨0, 0, 0, 0, 0, 0, 0, 0⟩
def fluAt (s : Sto) (n : Nat) : Flu := s.flutes[n]?.getD ⟨0, 0, 0, 0⟩
theorem papAt_get {s : Sto} {n : Nat} (h : n < s.papers.length) : s.papers[n]? = some (papAt s n) := by
 rw [papAt, List.getElem?_eq_getElem h]; rfl
theorem fluAt_get {s : Sto} {n : Nat} (h : n < s.flutes.length) : s.flutes[n]? = some (fluAt s n) := by
 rw [fluAt, List.getElem?_eq_getElem h]; rfl
theorem papAt_ok {s : Sto} {n : Nat} (hs : s.ok) (h : n < s.papers.length) : (papAt s n).ok := hs.papers _ (List.mem_of_getElem? (papAt_get h))
theorem fluAt_ok {s : Sto} {n : Nat} (hs : s.ok) (h : n < s.flutes.length) : (fluAt s n).ok := hs.flutes _ (List.mem_of_getElem? (fluAt_get h))
def wholeF (s : Sto) (w : Int) (l : List Nat) : Int := l.foldl (fun w n => w * (fluAt s n).pitch) w
theorem wholeF_take (s : Sto) (w : Int) {l : List Nat} {i v : Nat} (h : l[i]? = some v) : wholeF s w (l.take (i + 1)) = wholeF s w (l.take i) * (fluAt s v).pitch := by
 rw [List.take_add_one, h]
 simp only [wholeF, Option.toList_some, List.foldl_append, List.foldl_cons, List.foldl_nil]
theorem wholeF_b (s : Sto) (hs : s.ok) : ∀ (l : List Nat), (∀ n ∈ l, n < s.flutes.length) → l.length ≤ 2 → 1 ≤ wholeF s 1 l ∧ wholeF s 1 l ≤ 100000000
 | [], _, _ => by simp [wholeF]
 | [a], h, _ => by
  have := (fluAt_ok hs (h a (by simp))).pitch
  simp only [wholeF, List.foldl_cons, List.foldl_nil]
  omega
 | [a, b], h, _ => by
  have h1 := (fluAt_ok hs (h a (by simp))).pitch
  have h2 := (fluAt_ok hs (h b (by simp))).pitch
  simp only [wholeF, List.foldl_cons, List.foldl_nil, Int.one_mul]
  have h3 := mulB0 (a := (fluAt s a).pitch) (b := (fluAt s b).pitch) (A := 10000) (B := 10000) (by omega) (by omega)
  have h4 : 1 * 1 ≤ (fluAt s a).pitch * (fluAt s b).pitch := Int.mul_le_mul (by omega) (by omega) (by decide) (by omega)
  omega
 | a :: b :: c :: l, _, h => by simp at h
abbrev dShe (s : Sto) (m : Mak) (w : Int) : D := .agg [.c (.sl false 1 (rows eI (nL m.papers))), .c (.sl false 1 (rows eI (nL m.flutes))), .c (.sl false 8 (rows eP s.papers)), .c (.sl false 4 (rows eF s.flutes)), dI w]
attribute [go_sem] dShe
def wholeI (s : Sto) (m : Mak) : Int := wholeF s 1 m.flutes
theorem bdSheetOf (s : Sto) (m : Mak) (hs : s.ok) (h : m.ok s) : DCall Tryd.prog 87 [dSto s, dMak m] [] (dShe s m (wholeI s m)) [] := by
 have hf := h.nf
 have hl1 : (nL m.flutes).length = m.flutes.length := nL_length _
 refine DCall.of Tryd.func87 sf87 hb87 (Nat.le_of_ble_eq_true rfl) (okRes_nil fun _ => rfl) ?_; simp only [s87, idxs, Nat.reduceAdd]
 repeat' (first|(with_reducible first|apply qA|apply qB|apply qC|apply qD|apply qE|apply qF)|(refine qL rfl (WF.of ?_) ?_; first|rfl|skip)|(simp (disch:=omega) only [go_sem, simprocAttr, qN, qO, qP, qQ, hl1])|exact qM rfl rfl rfl|(refine qG rfl ?_)|(refine qH rfl ?_)|(refine qI rfl ?_ ?_<;>intro hc<;>(try simp only [go_sem] at hc))|(refine qJ ?_ ?_<;>intro hc<;>(try simp only [hc])<;>(try simp only [go_sem] at hc)))
 refine DW.loop (ι := { i : Nat // i ≤ m.flutes.length }) (fun i => ⟨30, [(14, dI i.1), (13, dI m.flutes.length), (12, .c (.sl false 1 (rows eI (nL m.flutes)))), (5, .box 5 0), (4, .box 4 0), (2, .box 2 0)], [(5, .box [.c (.sl false 1 (rows eI (nL m.papers))), .c (.sl false 1 (rows eI (nL m.flutes))), .c (.sl false 8 (rows eP s.papers)), .c (.sl false 4 (rows eF s.flutes)), dI (wholeF s 1 (m.flutes.take i.1))]), (4, .box [.c (.v (.slice none 0 0)), .c (.v (.slice none 0 0)), .c (.v (.slice none 0 0)), .c (.v (.slice none 0 0)), dI 0]), (2, .box [.c (.sl false 8 (rows eP s.papers)), .c (.sl false 4 (rows eF s.flutes))])]⟩) (fun i => m.flutes.length - i.1) ⟨0, Nat.zero_le _⟩ ?_ ?_
 ·refine Ent.to ?_ ?_ <;> simp (disch:=omega) only [qR,qS,qTw,qU,get,Nat.reduceEqDiff,↓reduceIte,qV,qW,qX,qY,qZ,and_self,dI,i64_in,and_true,true_and,rA,rB,rC,rD,List.take_zero,wholeF,List.foldl_nil]
 rintro ⟨i, hi⟩
 rcases Nat.lt_or_ge i m.flutes.length with hlt | hge
 ·have hd : decide ((i : Int) < (m.flutes.length : Int)) = true := by rw [decide_eq_true_eq]; omega
  obtain ⟨v, hv⟩ := getE (l := m.flutes) (i := i) hlt
  have hv' := nL_at hv
  have hvs := h.flutes v (List.mem_of_getElem? hv)
  have hp := fluAt_get hvs
  have hnx := wholeF_take s 1 hv
  have hb := wholeF_b s hs (m.flutes.take (i + 1)) (fun n hn => h.flutes n (List.mem_of_mem_take hn)) (by rw [List.length_take]; omega)
  rw [hnx] at hb
  repeat' (first|(with_reducible first|apply qA|apply qB|apply qC|apply qD|apply qE|apply qF)|(refine qL rfl (WF.of ?_) ?_; first|rfl|skip)|(simp (disch:=omega) only [go_sem, simprocAttr, qN, qO, qP, qQ, hd, hv', hp, rF, rG])|exact qM rfl rfl rfl|(refine qG rfl ?_)|(refine qH rfl ?_)|(refine qI rfl ?_ ?_<;>intro hc<;>(try simp only [go_sem] at hc))|(refine qJ ?_ ?_<;>intro hc<;>(try simp only [hc])<;>(try simp only [go_sem] at hc)))
  refine ⟨⟨i + 1, hlt⟩, ?_, Ent.to ?_ ?_⟩ <;> first | (show _ < _; (try simp only); omega) | (simp (disch:=omega) only [qR,qS,qTw,qU,get,Nat.reduceEqDiff,↓reduceIte,qV,qW,qX,qY,qZ,and_self,dI,i64_in,and_true,true_and,rA,rB,rC,rD, hnx])
  all_goals exact .refl _
 ·obtain rfl : i = m.flutes.length := by omega
  have hd : decide ((m.flutes.length : Int) < (m.flutes.length : Int)) = false := by rw [decide_eq_false_iff_not]; omega
  have hw : wholeI s m = wholeF s 1 (m.flutes.take m.flutes.length) := by rw [List.take_length]; rfl
  rw [hw]
  repeat' (first|(with_reducible first|apply qA|apply qB|apply qC|apply qD|apply qE|apply qF)|(refine qL rfl (WF.of ?_) ?_; first|rfl|skip)|(simp (disch:=omega) only [go_sem, simprocAttr, qN, qO, qP, qQ, hd])|exact qM rfl rfl rfl|(refine qG rfl ?_)|(refine qH rfl ?_)|(refine qI rfl ?_ ?_<;>intro hc<;>(try simp only [go_sem] at hc))|(refine qJ ?_ ?_<;>intro hc<;>(try simp only [hc])<;>(try simp only [go_sem] at hc)))
  refine retS_wk rfl ?_ (by simp only [Blk.nb, rowC_nb, D.nb, D.nbs, C.nb, C.nbs, C.nbss, rows_nb eI_nb, Bool.and_true, Bool.not_false, Bool.and_self, bD, dI, iD, rows_nb eP_nb, rows_nb eF_nb]); exact .refl _
theorem bdNew (s : Sto) (m : Mak) (hs : s.ok) (h : m.ok s) : DCall Tryd.prog 47 [dSto s, dMak m] [] (.tup [dShe s m (wholeI s m), dI 0]) [] := by
 have h1 := bdMade s m hs h
 have h2 := bdSheetOf s m hs h
 refine DCall.of Tryd.func47 sf47 hb47 (Nat.le_of_ble_eq_true rfl) (okRes_nil fun _ => rfl) ?_; simp only [s47, idxs, Nat.reduceAdd]
 repeat' (first|(with_reducible first|apply qA|apply qB|apply qC|apply qD|apply qE|apply qF)|(simp (disch:=omega) only [go_sem, simprocAttr, qN, qO, qP, qQ])|exact qM rfl rfl rfl|(refine qG rfl ?_)|(refine qK (h1) (by decide) ?_)|(refine qK (h2) (by decide) ?_)|(refine qH rfl ?_)|(refine qI rfl ?_ ?_<;>intro hc<;>(try simp only [go_sem] at hc))|(refine qJ ?_ ?_<;>intro hc<;>(try simp only [hc])<;>(try simp only [go_sem] at hc)))
 refine retS_wk rfl ?_ (by simp only [Blk.nb, rowC_nb, D.nb, D.nbs, C.nb, C.nbs, C.nbss, rows_nb eI_nb, Bool.and_true, Bool.not_false, Bool.and_self, bD, dI, iD, rows_nb eP_nb, rows_nb eF_nb]); exact .tup (.cons (.refl _) (.cons (.refl _) .nil))
theorem drop_at {α : Type} {l : List α} {i : Nat} {v : α} (h : l[i]? = some v) : l.drop i = v :: l.drop (i + 1) := by
 obtain ⟨hi, rfl⟩ := List.getElem?_eq_some_iff.1 h
 exact List.drop_eq_getElem_cons hi
def partsAt (s : Sto) (m : Mak) (i : Nat) : Int := if i % 2 = 1 then (wholeI s m).tdiv (fluAt s (m.flutes[i / 2]?.getD 0)).pitch * (fluAt s (m.flutes[i / 2]?.getD 0)).draw else wholeI s m
def layersL (s : Sto) (m : Mak) : List (Nat × Int) := m.papers.zipIdx.map fun e => (e.1, partsAt s m e.2)
theorem layersL_get {s : Sto} {m : Mak} {i v : Nat} (h : m.papers[i]? = some v) : (layersL s m)[i]? = some (v, partsAt s m i) := by
 simp [layersL, h]
theorem layersL_len (s : Sto) (m : Mak) : (layersL s m).length = m.papers.length := by simp [layersL]
def enLay (e : Nat × Int) : List D := [dI e.1, dI e.2]
def okLay (s : Sto) (e : Nat × Int) : Prop := e.1 < s.papers.length ∧ 0 ≤ e.2 ∧ e.2 ≤ 200000000
theorem flute_at {s : Sto} {m : Mak} (h : m.ok s) {i : Nat} (hi : i < m.papers.length) (ho : i % 2 = 1) : m.flutes[i / 2]? = some (m.flutes[i / 2]?.getD 0) ∧ (m.flutes[i / 2]?.getD 0) < s.flutes.length := by
 have h1 := h.np
 obtain ⟨v, hv⟩ := getE (l := m.flutes) (i := i / 2) (by omega)
 rw [hv]
 exact ⟨rfl, h.flutes v (List.mem_of_getElem? hv)⟩
theorem wholeI_b {s : Sto} {m : Mak} (hs : s.ok) (h : m.ok s) : 1 ≤ wholeI s m ∧ wholeI s m ≤ 100000000 := wholeF_b s hs m.flutes h.flutes h.nf.2
theorem partsAt_b {s : Sto} {m : Mak} (hs : s.ok) (h : m.ok s) {i : Nat} (hi : i < m.papers.length) : 0 ≤ partsAt s m i ∧ partsAt s m i ≤ 200000000 := by
 have hw := wholeI_b hs h
 unfold partsAt
 split
 ·rename_i ho
  have hf := fluAt_ok hs (flute_at h hi ho).2
  have h1 := hf.pitch
  have h2 := hf.draw
  generalize fluAt s (m.flutes[i / 2]?.getD 0) = f at *
  generalize wholeI s m = w at *
  rw [Int.tdiv_eq_ediv_of_nonneg (by omega)]
  have q0 : 0 ≤ w / f.pitch := Int.ediv_nonneg (by omega) (by omega)
  have q1 : w / f.pitch * f.pitch ≤ w := Int.ediv_mul_le w (by omega)
  have q2 : w / f.pitch * f.draw ≤ w / f.pitch * (2 * f.pitch) := Int.mul_le_mul_of_nonneg_left h2.2 q0
  have q3 : 0 ≤ w / f.pitch * f.draw := Int.mul_nonneg q0 (by omega)
  have q4 : w / f.pitch * (2 * f.pitch) = 2 * (w / f.pitch * f.pitch) := by rw [Int.mul_left_comm]
  omega
 ·omega
attribute [go_sem] enLay
theorem bdLayers (s : Sto) (m : Mak) (hs : s.ok) (h : m.ok s) : ItD Tryd.prog 123 [dShe s m (wholeI s m)] [] enLay (okLay s) (layersL s m) := by
 intro ly β H stp live hW hY b0 hl0
 have hH : ∀ b, HidOk (H b) := fun b => (hW b).toHidOk
 have hw := wholeI_b hs h
 refine DCall.of Tryd.func123 sf123 hb123 (Nat.le_of_ble_eq_true rfl) (hH _).res ?_
 simp only [s123, idxs, Nat.reduceAdd, List.map_nil, List.map_cons, List.nil_append, List.cons_append]
 have f1 := hid_get (hH b0)
 have f2 := hid_ins (hH b0)
 have f3 := (hH b0).men
 have f4 := (hH b0).lo
 have f5 : ∀ k x, k < 1000 → ins k x (H b0) = H b0 ++ [(k, x)] := fun k x hk => by have := f2 k hk x []; rwa [List.append_nil] at this
 have hl1 : (nL m.papers).length = m.papers.length := nL_length _
 have hn5 : m.papers.length ≤ 5 := by have := h.np; have := h.nf; omega
 repeat' (first|(with_reducible first|apply qA|apply qB|apply qC|apply qD|apply qE|apply qF)|(refine qL rfl (WF.of ?_) ?_; first|rfl|skip)|(simp (disch:=omega) only [go_sem, simprocAttr, qN, qO, qP, qQ, f1, f2, f3, f4, f5, ins, hl1])|exact qM rfl rfl rfl|(refine qG rfl ?_)|(refine qH rfl ?_)|(refine qI rfl ?_ ?_<;>intro hc<;>(try simp only [go_sem] at hc))|(refine qJ ?_ ?_<;>intro hc<;>(try simp only [hc])<;>(try simp only [go_sem] at hc)))
 refine DW.ent (Ent.comm (hH b0) rfl).1 ?_
 refine DW.loop (ι := { y : Nat × β // y.1 ≤ m.papers.length ∧ live y.2 ∧ runB stp b0 (layersL s m) = runB stp y.2 ((layersL s m).drop y.1) })
  (fun y => ⟨47, [(12, dI y.1.1), (11, dI m.papers.length), (10, .c (.sl false 1 (rows eI (nL m.papers)))), (2, .box 2 0), (1, .c (.fn (.yield ly) [] []))], [(2, .box [.c (.sl false 1 (rows eI (nL m.papers))), .c (.sl false 1 (rows eI (nL m.flutes))), .c (.sl false 8 (rows eP s.papers)), .c (.sl false 4 (rows eF s.flutes)), dI (wholeI s m)])] ++ H y.1.2⟩) (fun y => m.papers.length - y.1.1) ⟨(0, b0), Nat.zero_le _, hl0, rfl⟩ ?_ ?_
 ·refine Ent.toH (o := [_]) (o' := [_]) (hH _) ?_ ?_ ?_
  ·rfl
  ·simp (disch:=omega) only [qR,qS,qTw,qU,get,Nat.reduceEqDiff,↓reduceIte,qV,qW,qX,qY,qZ,and_self,dI,i64_in,and_true,true_and,rA,rB,rC,rD]
  ·simp (disch:=omega) only [qR,qS,qTw,qU,get,Nat.reduceEqDiff,↓reduceIte,qV,qW,qX,qY,qZ,and_self,dI,i64_in,and_true,true_and,rA,rB,rC,rD]
 clear f1 f2 f3 f4 f5
 rintro ⟨⟨i, b⟩, hi, hlv, hrun⟩
 dsimp only at hi hlv hrun ⊢
 have g3 := (hH b).men
 have g4 := (hH b).lo
 have g5 := (hW b).app1
 have g6 := (hW b).app2
 rcases Nat.lt_or_ge i m.papers.length with hlt | hge
 ·have hd : decide ((i : Int) < (m.papers.length : Int)) = true := by rw [decide_eq_true_eq]; omega
  obtain ⟨v, hv⟩ := getE (l := m.papers) (i := i) hlt
  have hv' := nL_at hv
  have hvs := h.papers v (List.mem_of_getElem? hv)
  have hpb := partsAt_b hs h hlt
  rw [drop_at (layersL_get hv)] at hrun
  obtain ⟨hyc, hlv4⟩ := hY b (v, partsAt s m i) hlv ⟨hvs, hpb⟩
  simp only [runB] at hrun
  have hrem : (i : Int).tmod 2 = ((i % 2 : Nat) : Int) := by rw [Int.tmod_eq_emod_of_nonneg (by omega)]; omega
  have hquo : (i : Int).tdiv 2 = ((i / 2 : Nat) : Int) := by rw [Int.tdiv_eq_ediv_of_nonneg (by omega)]; omega
  rcases (by omega : i % 2 = 0 ∨ i % 2 = 1) with ho | ho
  ·have hpe : partsAt s m i = wholeI s m := by rw [partsAt, if_neg (by omega)]
   rw [hpe] at hyc hrun hlv4
   rw [ho] at hrem
   repeat' (first|(with_reducible first|apply qA|apply qB|apply qC|apply qD|apply qE|apply qF)|(refine qL rfl (WF.of ?_) ?_; first|rfl|skip)|(simp (disch:=omega) only [go_sem, simprocAttr, qN, qO, qP, qQ, hd, hv', hrem, g3, g4])|exact qM rfl rfl rfl|(refine qG rfl ?_)|(refine qH rfl ?_)|(refine qI rfl ?_ ?_<;>intro hc<;>(try simp only [go_sem] at hc))|(refine qJ ?_ ?_<;>intro hc<;>(try simp only [hc])<;>(try simp only [go_sem] at hc)))
   refine call_y (own := [_]) hyc rfl rfl rfl (hH _) (hH _) (by decide) ?_
   cases hs : (stp b (v, wholeI s m)).1 with
   | true =>
    rw [hs] at hrun hlv4
    simp (disch:=omega) only [go_sem,simprocAttr,qN,qO,qP,qQ]
    repeat' (first|(with_reducible first|apply qA|apply qB|apply qC|apply qD|apply qE|apply qF)|(refine qL rfl (WF.of ?_) ?_; first|rfl|skip)|(simp (disch:=omega) only [go_sem, simprocAttr, qN, qO, qP, qQ])|exact qM rfl rfl rfl|(refine qG rfl ?_)|(refine qH rfl ?_)|(refine qI rfl ?_ ?_<;>intro hc<;>(try simp only [go_sem] at hc))|(refine qJ ?_ ?_<;>intro hc<;>(try simp only [hc])<;>(try simp only [go_sem] at hc)))
    refine ⟨⟨(i + 1, (stp b (v, wholeI s m)).2), hlt, hlv4 rfl, hrun⟩, by (show _ < _; (try simp only); omega), Ent.toH (o := [_]) (o' := [_]) (hH _) ?_ ?_ ?_⟩
    ·rfl
    ·simp (disch:=omega) only [qR,qS,qTw,qU,get,Nat.reduceEqDiff,↓reduceIte,qV,qW,qX,qY,qZ,and_self,dI,i64_in,and_true,true_and,rA,rB,rC,rD]
    ·simp (disch:=omega) only [qR,qS,qTw,qU,get,Nat.reduceEqDiff,↓reduceIte,qV,qW,qX,qY,qZ,and_self,dI,i64_in,and_true,true_and,rA,rB,rC,rD]
   | false =>
    rw [hs] at hrun
    simp (disch:=omega) only [go_sem,simprocAttr,qN,qO,qP,qQ]
    repeat' (first|(with_reducible first|apply qA|apply qB|apply qC|apply qD|apply qE|apply qF)|(refine qL rfl (WF.of ?_) ?_; first|rfl|skip)|(simp (disch:=omega) only [go_sem, simprocAttr, qN, qO, qP, qQ])|exact qM rfl rfl rfl|(refine qG rfl ?_)|(refine qH rfl ?_)|(refine qI rfl ?_ ?_<;>intro hc<;>(try simp only [go_sem] at hc))|(refine qJ ?_ ?_<;>intro hc<;>(try simp only [hc])<;>(try simp only [go_sem] at hc)))
    rw [hrun]
    exact retS_hid (own := [_]) (.inl rfl) (hH _) rfl
  ·obtain ⟨hfv, hfs⟩ := flute_at h hlt ho
   have hpe : partsAt s m i = (wholeI s m).tdiv (fluAt s (m.flutes[i / 2]?.getD 0)).pitch * (fluAt s (m.flutes[i / 2]?.getD 0)).draw := by rw [partsAt, if_pos ho]
   rw [hpe] at hyc hrun hlv4 hpb
   rw [ho] at hrem
   generalize m.flutes[i / 2]?.getD 0 = z at *
   have hzv := nL_at hfv
   have hzf := fluAt_get hfs
   have hfo := fluAt_ok hs hfs
   have h1 := hfo.pitch
   have h2 := hfo.draw
   generalize fluAt s z = f at *
   have h0 : (f.pitch = 0) = False := eq_false (by omega)
   have hq : 0 ≤ (wholeI s m).tdiv f.pitch ∧ (wholeI s m).tdiv f.pitch ≤ 100000000 := by
    rw [Int.tdiv_eq_ediv_of_nonneg (by omega)]
    exact ⟨Int.ediv_nonneg (by omega) (by omega), Int.le_trans (Int.ediv_le_self _ (by omega)) hw.2⟩
   have hl2 : (nL m.flutes).length = m.flutes.length := nL_length _
   repeat' (first|(with_reducible first|apply qA|apply qB|apply qC|apply qD|apply qE|apply qF)|(refine qL rfl (WF.of ?_) ?_; first|rfl|skip)|(simp (disch:=omega) only [go_sem, simprocAttr, qN, qO, qP, qQ, hd, hv', hrem, hquo, hzv, hzf, h0, g3, g4, g5, g6, hl2, rF, rG])|exact qM rfl rfl rfl|(refine qG rfl ?_)|(refine qH rfl ?_)|(refine qI rfl ?_ ?_<;>intro hc<;>(try simp only [go_sem] at hc))|(refine qJ ?_ ?_<;>intro hc<;>(try simp only [hc])<;>(try simp only [go_sem] at hc)))
   refine call_y (own := [_, _]) hyc rfl rfl rfl (hH _) (hH _) (by decide) ?_
   cases hs : (stp b (v, (wholeI s m).tdiv f.pitch * f.draw)).1 with
   | true =>
    rw [hs] at hrun hlv4
    simp (disch:=omega) only [go_sem,simprocAttr,qN,qO,qP,qQ]
    repeat' (first|(with_reducible first|apply qA|apply qB|apply qC|apply qD|apply qE|apply qF)|(refine qL rfl (WF.of ?_) ?_; first|rfl|skip)|(simp (disch:=omega) only [go_sem, simprocAttr, qN, qO, qP, qQ])|exact qM rfl rfl rfl|(refine qG rfl ?_)|(refine qH rfl ?_)|(refine qI rfl ?_ ?_<;>intro hc<;>(try simp only [go_sem] at hc))|(refine qJ ?_ ?_<;>intro hc<;>(try simp only [hc])<;>(try simp only [go_sem] at hc)))
    refine ⟨⟨(i + 1, (stp b (v, (wholeI s m).tdiv f.pitch * f.draw)).2), hlt, hlv4 rfl, hrun⟩, by (show _ < _; (try simp only); omega), Ent.toH (o := [_, _]) (o' := [_]) (hH _) ?_ ?_ ?_⟩
    ·rfl
    ·simp (disch:=omega) only [qR,qS,qTw,qU,get,Nat.reduceEqDiff,↓reduceIte,qV,qW,qX,qY,qZ,and_self,dI,i64_in,and_true,true_and,rA,rB,rC,rD]
    ·simp (disch:=omega) only [qR,qS,qTw,qU,get,Nat.reduceEqDiff,↓reduceIte,qV,qW,qX,qY,qZ,and_self,dI,i64_in,and_true,true_and,rA,rB,rC,rD]
   | false =>
    rw [hs] at hrun
    simp (disch:=omega) only [go_sem,simprocAttr,qN,qO,qP,qQ]
    repeat' (first|(with_reducible first|apply qA|apply qB|apply qC|apply qD|apply qE|apply qF)|(refine qL rfl (WF.of ?_) ?_; first|rfl|skip)|(simp (disch:=omega) only [go_sem, simprocAttr, qN, qO, qP, qQ])|exact qM rfl rfl rfl|(refine qG rfl ?_)|(refine qH rfl ?_)|(refine qI rfl ?_ ?_<;>intro hc<;>(try simp only [go_sem] at hc))|(refine qJ ?_ ?_<;>intro hc<;>(try simp only [hc])<;>(try simp only [go_sem] at hc)))
    rw [hrun]
    exact retS_hid (own := [_, _]) (.inl rfl) (hH _) rfl
 ·obtain rfl : i = m.papers.length := by omega
  have hd : decide ((m.papers.length : Int) < (m.papers.length : Int)) = false := by rw [decide_eq_false_iff_not]; omega
  rw [List.drop_of_length_le (by rw [layersL_len]; omega)] at hrun
  simp only [runB] at hrun
  repeat' (first|(with_reducible first|apply qA|apply qB|apply qC|apply qD|apply qE|apply qF)|(refine qL rfl (WF.of ?_) ?_; first|rfl|skip)|(simp (disch:=omega) only [go_sem, simprocAttr, qN, qO, qP, qQ, hd])|exact qM rfl rfl rfl|(refine qG rfl ?_)|(refine qH rfl ?_)|(refine qI rfl ?_ ?_<;>intro hc<;>(try simp only [go_sem] at hc))|(refine qJ ?_ ?_<;>intro hc<;>(try simp only [hc])<;>(try simp only [go_sem] at hc)))
  rw [hrun]
  exact retS_hid (own := [_]) (.inr rfl) (hH _) rfl
end Go.Dw.Seat
end
section
set_option linter.unusedSimpArgs false
set_option maxRecDepth 100000
namespace Go.Dw.Seat
open Go Go.Dw Go.Proofs Go.IntWalk
def sumS (f : Pap → Int) (s : Sto) (n : Int) (e : Nat × Int) : Option Exit × Int := (none, IntKind.i64.wrap (n + f (papAt s e.1) * e.2))
def sumF (f : Pap → Int) (s : Sto) (n : Int) (l : List (Nat × Int)) : Int := l.foldl (fun n e => n + f (papAt s e.1) * e.2) n
def sumI (f : Pap → Int) (s : Sto) (m : Mak) : Int := sumF f s 0 (layersL s m)
theorem sumS_run (f : Pap → Int) (s : Sto) (hf : ∀ p ∈ s.papers, 0 ≤ f p ∧ f p ≤ 1000000000) : ∀ (l : List (Nat × Int)) (n : Int), (∀ e ∈ l, okLay s e) → 0 ≤ n → n + 200000000000000000 * (l.length : Int) ≤ 9000000000000000000 →
  runIt (sumS f s) n l = (none, sumF f s n l) ∧ n ≤ sumF f s n l ∧ sumF f s n l ≤ n + 200000000000000000 * (l.length : Int)
 | [], n, _, _, _ => ⟨rfl, Int.le_refl _, by simp [sumF]⟩
 | e :: l, n, ho, h0, hn => by
  have he := ho e (by simp)
  have hfe := hf _ (List.mem_of_getElem? (papAt_get he.1))
  have hm := mulB0 (a := f (papAt s e.1)) (b := e.2) (A := 1000000000) (B := 200000000) hfe he.2
  rw [List.length_cons, Int.natCast_add, Int.natCast_one, Int.mul_add] at hn
  have hw : IntKind.i64.wrap (n + f (papAt s e.1) * e.2) = n + f (papAt s e.1) * e.2 := i64_in _ (by omega)
  have ih := sumS_run f s hf l (n + f (papAt s e.1) * e.2) (fun x hx => ho x (by simp [hx])) (by omega) (by omega)
  have hs : sumF f s n (e :: l) = sumF f s (n + f (papAt s e.1) * e.2) l := rfl
  rw [hs]
  simp only [runIt, sumS, hw]
  refine ⟨ih.1, by omega, ?_⟩
  rw [List.length_cons, Int.natCast_add, Int.natCast_one, Int.mul_add]
  omega
theorem layers_ok {s : Sto} {m : Mak} (hs : s.ok) (h : m.ok s) : ∀ e ∈ layersL s m, okLay s e := by
 intro e he
 obtain ⟨i, hi⟩ := List.getElem?_of_mem he
 have hlt : i < m.papers.length := by
  rcases Nat.lt_or_ge i m.papers.length with h | h
  ·exact h
  ·rw [List.getElem?_eq_none (by rw [layersL_len]; exact h)] at hi; cases hi
 obtain ⟨v, hv⟩ := getE (l := m.papers) (i := i) hlt
 rw [layersL_get hv] at hi
 cases hi
 exact ⟨h.papers v (List.mem_of_getElem? hv), partsAt_b hs h hlt⟩
theorem sumI_b {s : Sto} {m : Mak} (hs : s.ok) (h : m.ok s) (f : Pap → Int) (hf : ∀ p ∈ s.papers, 0 ≤ f p ∧ f p ≤ 1000000000) : runIt (sumS f s) 0 (layersL s m) = (none, sumI f s m) ∧ 0 ≤ sumI f s m ∧ sumI f s m ≤ 1000000000000000000 := by
 have hn : (layersL s m).length ≤ 5 := by rw [layersL_len]; have := h.np; have := h.nf; omega
 have := sumS_run f s hf (layersL s m) 0 (layers_ok hs h) (Int.le_refl _) (by omega)
 exact ⟨this.1, this.2.1, by have := this.2.2; unfold sumI; omega⟩
theorem closeDs_mapc {σ : St} {mv : Option Nat} {caps : List C} : closeDs σ mv (caps.map D.c) = some (caps.map D.c) := by
 have := @closeDs_fn _ σ mv [] caps []
 simpa [closeDs] using this
theorem bdSum (s : Sto) (m : Mak) (hs : s.ok) (h : m.ok s) (g : FuncId) (caps : List C) (hcn : C.nbs caps = true) (f : Pap → Int) (hf : ∀ p ∈ s.papers, 0 ≤ f p ∧ f p ≤ 1000000000)
  (hp : ∀ p ∈ s.papers, DCall Tryd.prog g (.agg ((eP p).map D.c) :: caps.map D.c) [] (dI (f p)) []) : DCall Tryd.prog 92 [dShe s m (wholeI s m), .c (.fn (.func g) [] caps)] [] (dI (sumI f s m)) [] := by
 have hit := bdLayers s m hs h
 have hsum := sumI_b hs h f hf
 have hnp := hs.np
 refine DCall.of Tryd.func92 sf92 hb92 (Nat.le_of_ble_eq_true rfl) (okRes_nil fun _ => rfl) ?_; simp only [s92, idxs, Nat.reduceAdd]
 repeat' (first|(with_reducible first|apply qA|apply qB|apply qC|apply qD|apply qE|apply qF)|(refine qL rfl (WF.of ?_) ?_; first|rfl|skip)|(simp (disch:=omega) only [go_sem, simprocAttr, Blk.men, Blk.keysIn])|exact qM rfl rfl rfl|(refine qG rfl ?_)|(refine qH rfl ?_)|(refine qI rfl ?_ ?_<;>intro hc<;>(try simp only [go_sem] at hc))|(refine qJ ?_ ?_<;>intro hc<;>(try simp only [hc])<;>(try simp only [go_sem] at hc)))
 refine DW.ent (σ' := ⟨24, [(8, .fn (.func 123) [dShe s m (wholeI s m)] []), (4, .box 4 0), (3, .box 3 0), (2, .box 2 0)], [(4, .box [dI 0]), (3, .box [.c (.fn (.func g) [] caps)]), (2, .box [.c (.sl false 1 (rows eI (nL m.papers))), .c (.sl false 1 (rows eI (nL m.flutes))), .c (.sl false 8 (rows eP s.papers)), .c (.sl false 4 (rows eF s.flutes)), dI (wholeI s m)])]⟩) (Ent.to ?_ ?_) ?_
 ·simp (disch:=omega) only [qR,qS,qTw,qU,get,Nat.reduceEqDiff,↓reduceIte,qV,qW,qX,qY,qZ,and_self,dI,i64_in,and_true,true_and,rA,rB,rC,rD]
 ·simp (disch:=omega) only [qR,qS,qTw,qU,get,Nat.reduceEqDiff,↓reduceIte,qV,qW,qX,qY,qZ,and_self,dI,i64_in,and_true,true_and,rA,rB,rC,rD]
 refine DW.rngBD (fun n : Int => [(4, .box [dI n]), (3, .box [.c (.fn (.func g) [] caps)]), (2, .box [.c (.sl false 1 (rows eI (nL m.papers))), .c (.sl false 1 (rows eI (nL m.flutes))), .c (.sl false 8 (rows eP s.papers)), .c (.sl false 4 (rows eF s.flutes)), dI (wholeI s m)])]) 0 (sumS f s) enLay (okLay s) (layersL s m) hit (fun _ => True) trivial (fun _ _ _ _ _ => trivial) rfl (fun _ => ⟨rfl, rfl⟩) rfl (by decide) (fun _ _ => rfl) (fun _ _ _ => rfl) (by simp only [List.map_cons, List.map_nil]; decide) (fun _ => rfl) (fun _ => rfl) (fun _ => (by simp only [List.all_cons, List.all_nil, Blk.nb, rowC_nb, D.nb, D.nbs, C.nb, C.nbs, C.nbss, rows_nb eI_nb, Bool.and_true, Bool.not_false, Bool.and_self, bD, dI, iD, rows_nb eP_nb, rows_nb eF_nb, hcn])) (by simp only [List.all_cons, List.all_nil, Blk.nb, rowC_nb, D.nb, D.nbs, C.nb, C.nbs, C.nbss, rows_nb eI_nb, Bool.and_true, Bool.not_false, Bool.and_self, bD, dI, iD, rows_nb eP_nb, rows_nb eF_nb]) (fun _ _ => rfl) ?_ ?_
 ·rintro n - ⟨k, parts⟩ he v
  have hk : k < s.papers.length := he.1
  have hpb : 0 ≤ parts ∧ parts ≤ 200000000 := he.2
  have hpk := papAt_get hk
  have hcall := hp _ (List.mem_of_getElem? hpk)
  have hfe := hf _ (List.mem_of_getElem? hpk)
  have hm := mulB0 (a := f (papAt s k)) (b := parts) (A := 1000000000) (B := 200000000) hfe hpb
  have hS : sumS f s n (k, parts) = (none, IntKind.i64.wrap (n + f (papAt s k) * parts)) := rfl
  rw [hS]
  generalize papAt s k = p at *
  simp (disch:=omega) only [go_sem,simprocAttr,Blk.men,Blk.keysIn]
  repeat' (first|(with_reducible first|apply qA|apply qB|apply qC|apply qD|apply qE|apply qF)|(refine qL rfl (WF.of ?_) ?_; first|rfl|skip)|(simp (disch:=omega) only [go_sem, simprocAttr, Blk.men, Blk.keysIn, hpk, closeDs_mapc, rF, rG])|exact qM rfl rfl rfl|(refine qG rfl ?_)|(refine qH rfl ?_)|(refine qI rfl ?_ ?_<;>intro hc<;>(try simp only [go_sem] at hc))|(refine qJ ?_ ?_<;>intro hc<;>(try simp only [hc])<;>(try simp only [go_sem] at hc)))
  refine call_c hcall (by decide) ?_
  simp (disch:=omega) only [go_sem,simprocAttr,Blk.men,Blk.keysIn]
  repeat' (first|(with_reducible first|apply qA|apply qB|apply qC|apply qD|apply qE|apply qF)|(refine qL rfl (WF.of ?_) ?_; first|rfl|skip)|(simp (disch:=omega) only [go_sem, simprocAttr, Blk.men, Blk.keysIn])|exact qM rfl rfl rfl|(refine qG rfl ?_)|(refine qH rfl ?_)|(refine qI rfl ?_ ?_<;>intro hc<;>(try simp only [go_sem] at hc))|(refine qJ ?_ ?_<;>intro hc<;>(try simp only [hc])<;>(try simp only [go_sem] at hc)))
  refine round_end rfl rfl (Ent.to ?_ ?_) <;> simp (disch:=omega) only [qR,qS,qTw,qU,get,Nat.reduceEqDiff,↓reduceIte,qV,qW,qX,qY,qZ,and_self,dI,i64_in,and_true,true_and,rA,rB,rC,rD,capB,List.cons_append,List.nil_append]
 ·rw [hsum.1]
  simp (disch:=omega) only [go_sem,simprocAttr,Blk.men,Blk.keysIn,Option.getD_none]
  repeat' (first|(with_reducible first|apply qA|apply qB|apply qC|apply qD|apply qE|apply qF)|(refine qL rfl (WF.of ?_) ?_; first|rfl|skip)|(simp (disch:=omega) only [go_sem, simprocAttr, Blk.men, Blk.keysIn])|exact qM rfl rfl rfl|(refine qG rfl ?_)|(refine qH rfl ?_)|(refine qI rfl ?_ ?_<;>intro hc<;>(try simp only [go_sem] at hc))|(refine qJ ?_ ?_<;>intro hc<;>(try simp only [hc])<;>(try simp only [go_sem] at hc)))
theorem bdStrong (p : Pap) : DCall Tryd.prog 93 [.agg ((eP p).map D.c)] [] (dI p.strong) [] := by
 refine DCall.of Tryd.func93 sf93 hb93 (Nat.le_of_ble_eq_true rfl) (okRes_nil fun _ => rfl) ?_; simp only [s93, idxs, Nat.reduceAdd]
 repeat' (first|(with_reducible first|apply qA|apply qB|apply qC|apply qD|apply qE|apply qF)|(simp (disch:=omega) only [go_sem, simprocAttr, Blk.men, Blk.keysIn, rF, rG])|exact qM rfl rfl rfl|(refine qG rfl ?_)|(refine qH rfl ?_)|(refine qI rfl ?_ ?_<;>intro hc<;>(try simp only [go_sem] at hc))|(refine qJ ?_ ?_<;>intro hc<;>(try simp only [hc])<;>(try simp only [go_sem] at hc)))
theorem bdLow (lo hi : Int) : DCall Tryd.prog 88 [.agg [dI lo, dI hi]] [] (dI lo) [] := by
 refine DCall.of Tryd.func88 sf88 hb88 (Nat.le_of_ble_eq_true rfl) (okRes_nil fun _ => rfl) ?_; simp only [s88, idxs, Nat.reduceAdd]
 repeat' (first|(with_reducible first|apply qA|apply qB|apply qC|apply qD|apply qE|apply qF)|(simp (disch:=omega) only [go_sem, simprocAttr, Blk.men, Blk.keysIn])|exact qM rfl rfl rfl|(refine qG rfl ?_)|(refine qH rfl ?_)|(refine qI rfl ?_ ?_<;>intro hc<;>(try simp only [go_sem] at hc))|(refine qJ ?_ ?_<;>intro hc<;>(try simp only [hc])<;>(try simp only [go_sem] at hc)))
theorem bdHigh (lo hi : Int) : DCall Tryd.prog 89 [.agg [dI lo, dI hi]] [] (dI hi) [] := by
 refine DCall.of Tryd.func89 sf89 hb89 (Nat.le_of_ble_eq_true rfl) (okRes_nil fun _ => rfl) ?_; simp only [s89, idxs, Nat.reduceAdd]
 repeat' (first|(with_reducible first|apply qA|apply qB|apply qC|apply qD|apply qE|apply qF)|(simp (disch:=omega) only [go_sem, simprocAttr, Blk.men, Blk.keysIn])|exact qM rfl rfl rfl|(refine qG rfl ?_)|(refine qH rfl ?_)|(refine qI rfl ?_ ?_<;>intro hc<;>(try simp only [go_sem] at hc))|(refine qJ ?_ ?_<;>intro hc<;>(try simp only [hc])<;>(try simp only [go_sem] at hc)))
structure EndOk (g : FuncId) (ef : Int → Int → Int) : Prop where
 call : ∀ lo hi, DCall Tryd.prog g [.agg [dI lo, dI hi]] [] (dI (ef lo hi)) []
 mem : ∀ lo hi, lo ≤ hi → lo ≤ ef lo hi ∧ ef lo hi ≤ hi
def moistF (ef : Int → Int → Int) (p : Pap) : Int := p.weight * (1000 + ef p.ml p.mh)
theorem moistF_b {g : FuncId} {ef : Int → Int → Int} (he : EndOk g ef) {p : Pap} (hp : p.ok) : 0 ≤ moistF ef p ∧ moistF ef p ≤ 1000000000 := by
 have h1 := hp.weight
 have h2 := hp.moist
 have h3 := he.mem p.ml p.mh h2.2.1
 have := mulB0 (a := p.weight) (b := 1000 + ef p.ml p.mh) (A := 1000) (B := 1200) (by omega) (by omega)
 unfold moistF
 omega
theorem bdMoist1 (b : Bool) {g : FuncId} {ef : Int → Int → Int} (he : EndOk g ef) (p : Pap) (hp : p.ok) : DCall Tryd.prog 122 [.agg ((eP p).map D.c), .c (.ro b [.fn (.func g) [] []] 0)] [] (dI (moistF ef p)) [] := by
 have h1 := hp.weight
 have h2 := hp.moist
 have h3 := he.mem p.ml p.mh h2.2.1
 have hm := mulB0 (a := p.weight) (b := 1000 + ef p.ml p.mh) (A := 1000) (B := 1200) (by omega) (by omega)
 have hc := he.call p.ml p.mh
 unfold moistF
 refine DCall.of Tryd.func122 sf122 hb122 (Nat.le_of_ble_eq_true rfl) (okRes_nil fun _ => rfl) ?_; simp only [s122, idxs, Nat.reduceAdd]
 repeat' (first|(with_reducible first|apply qA|apply qB|apply qC|apply qD|apply qE|apply qF)|(refine qL rfl (WF.of ?_) ?_; first|rfl|skip)|(simp (disch:=omega) only [go_sem, simprocAttr, Blk.men, Blk.keysIn, rF, rG])|exact qM rfl rfl rfl|(refine qG rfl ?_)|(refine qH rfl ?_)|(refine qI rfl ?_ ?_<;>intro hc<;>(try simp only [go_sem] at hc))|(refine qJ ?_ ?_<;>intro hc<;>(try simp only [hc])<;>(try simp only [go_sem] at hc)))
 refine call_c hc (by decide) ?_
 simp (disch:=omega) only [go_sem,simprocAttr,Blk.men,Blk.keysIn]
 repeat' (first|(with_reducible first|apply qA|apply qB|apply qC|apply qD|apply qE|apply qF)|(refine qL rfl (WF.of ?_) ?_; first|rfl|skip)|(simp (disch:=omega) only [go_sem, simprocAttr, Blk.men, Blk.keysIn])|exact qM rfl rfl rfl|(refine qG rfl ?_)|(refine qH rfl ?_)|(refine qI rfl ?_ ?_<;>intro hc<;>(try simp only [go_sem] at hc))|(refine qJ ?_ ?_<;>intro hc<;>(try simp only [hc])<;>(try simp only [go_sem] at hc)))
def moistI (ef : Int → Int → Int) (s : Sto) (m : Mak) : Int := (sumI (moistF ef) s m).tdiv (1000 * wholeI s m)
theorem tdiv_b {a b : Int} {A : Int} (ha : 0 ≤ a ∧ a ≤ A) (hb : 0 ≤ b) : 0 ≤ a.tdiv b ∧ a.tdiv b ≤ A := by
 rw [Int.tdiv_eq_ediv_of_nonneg ha.1]
 exact ⟨Int.ediv_nonneg ha.1 hb, Int.le_trans (Int.ediv_le_self _ ha.1) ha.2⟩
theorem bdMoist (s : Sto) (m : Mak) (hs : s.ok) (h : m.ok s) {g : FuncId} {ef : Int → Int → Int} (he : EndOk g ef) : DCall Tryd.prog 90 [dShe s m (wholeI s m), .c (.fn (.func g) [] [])] [] (dI (moistI ef s m)) [] := by
 have hf : ∀ p ∈ s.papers, 0 ≤ moistF ef p ∧ moistF ef p ≤ 1000000000 := fun p hp => moistF_b he (hs.papers p hp)
 have hsum := bdSum s m hs h 122 [.ro false [.fn (.func g) [] []] 0] rfl (moistF ef) hf (fun p hp => bdMoist1 false he p (hs.papers p hp))
 have hb := (sumI_b hs h (moistF ef) hf).2
 have hw := wholeI_b hs h
 have h0 : (1000 * wholeI s m = 0) = False := eq_false (by omega)
 have hq := tdiv_b (b := 1000 * wholeI s m) hb (by omega)
 unfold moistI
 refine DCall.of Tryd.func90 sf90 hb90 (Nat.le_of_ble_eq_true rfl) (okRes_nil fun _ => rfl) ?_; simp only [s90, idxs, Nat.reduceAdd]
 refine DW.seq (DW.reg ?_)
 simp (disch:=omega) only [go_sem,simprocAttr,Blk.men,Blk.keysIn]
 (refine DW.ent (Ent.rel 3 rfl) ?_; simp (disch:=omega) only [go_sem,simprocAttr,Blk.men,Blk.keysIn])
 repeat' (first|(with_reducible first|apply qA|apply qB|apply qC|apply qD|apply qE|apply qF)|(refine qL rfl (WF.of ?_) ?_; first|rfl|skip)|(simp (disch:=omega) only [go_sem, simprocAttr, Blk.men, Blk.keysIn, h0])|exact qM rfl rfl rfl|(refine qG rfl ?_)|(refine qK (hsum) (by decide) ?_)|(refine qH rfl ?_)|(refine qI rfl ?_ ?_<;>intro hc<;>(try simp only [go_sem] at hc))|(refine qJ ?_ ?_<;>intro hc<;>(try simp only [hc])<;>(try simp only [go_sem] at hc)))
def calP (ef : Int → Int → Int) (s : Sto) (m : Mak) : Nat → Int
 | 0 => 0
 | i + 1 => calP ef s m i + (if i % 2 = 0 then ef (papAt s (m.papers[i]?.getD 0)).tl (papAt s (m.papers[i]?.getD 0)).th else 0)
def calH (ef : Int → Int → Int) (s : Sto) (m : Mak) : Nat → Int
 | 0 => 0
 | i + 1 => calH ef s m i + ef (fluAt s (m.flutes[i]?.getD 0)).hl (fluAt s (m.flutes[i]?.getD 0)).hh
def calI (ef : Int → Int → Int) (s : Sto) (m : Mak) : Int := calP ef s m m.papers.length + calH ef s m m.flutes.length
theorem calP_b {g : FuncId} {ef : Int → Int → Int} (he : EndOk g ef) {s : Sto} {m : Mak} (hs : s.ok) (h : m.ok s) : ∀ i, i ≤ m.papers.length → 0 ≤ calP ef s m i ∧ calP ef s m i ≤ 1000 * (i : Int)
 | 0, _ => by simp [calP]
 | i + 1, hi => by
  have ih := calP_b he hs h i (by omega)
  obtain ⟨v, hv⟩ := getE (l := m.papers) (i := i) (by omega)
  have ho := (papAt_ok hs (h.papers v (List.mem_of_getElem? hv))).thick
  have hm := he.mem _ _ ho.2.1
  rw [calP, hv, Option.getD_some]
  split <;> omega
theorem calH_b {g : FuncId} {ef : Int → Int → Int} (he : EndOk g ef) {s : Sto} {m : Mak} (hs : s.ok) (h : m.ok s) : ∀ i, i ≤ m.flutes.length → 0 ≤ calH ef s m i ∧ calH ef s m i ≤ 10000 * (i : Int)
 | 0, _ => by simp [calH]
 | i + 1, hi => by
  have ih := calH_b he hs h i (by omega)
  obtain ⟨v, hv⟩ := getE (l := m.flutes) (i := i) (by omega)
  have ho := (fluAt_ok hs (h.flutes v (List.mem_of_getElem? hv))).high
  have hm := he.mem _ _ ho.2.1
  rw [calH, hv, Option.getD_some]
  omega
end Go.Dw.Seat
end
section
set_option linter.unusedSimpArgs false
set_option maxRecDepth 100000
namespace Go.Dw.Seat
open Go Go.Dw Go.Proofs Go.IntWalk
theorem bdCaliper (s : Sto) (m : Mak) (hs : s.ok) (h : m.ok s) {g : FuncId} {ef : Int → Int → Int} (he : EndOk g ef) : DCall Tryd.prog 91 [dShe s m (wholeI s m), .c (.fn (.func g) [] [])] [] (dI (calI ef s m)) [] := by
 have hf := h.nf
 have hn := h.np
 have hl1 : (nL m.papers).length = m.papers.length := nL_length _
 have hl2 : (nL m.flutes).length = m.flutes.length := nL_length _
 refine DCall.of Tryd.func91 sf91 hb91 (Nat.le_of_ble_eq_true rfl) (okRes_nil fun _ => rfl) ?_; simp only [s91, idxs, Nat.reduceAdd]
 repeat' (first|(with_reducible first|apply qA|apply qB|apply qC|apply qD|apply qE|apply qF)|(simp (disch:=omega) only [go_sem, simprocAttr, Blk.men, Blk.keysIn, hl1])|exact qM rfl rfl rfl|(refine qG rfl ?_)|(refine qH rfl ?_)|(refine qI rfl ?_ ?_<;>intro hc<;>(try simp only [go_sem] at hc))|(refine qJ ?_ ?_<;>intro hc<;>(try simp only [hc])<;>(try simp only [go_sem] at hc)))
 refine DW.loop (ι := { i : Nat // i ≤ m.papers.length }) (fun i => ⟨54, [(13, dI i.1), (12, dI m.papers.length), (11, .c (.sl false 1 (rows eI (nL m.papers)))), (4, dI (calP ef s m i.1)), (2, .box 2 0), (1, .c (.fn (.func g) [] []))], [(2, .box [.c (.sl false 1 (rows eI (nL m.papers))), .c (.sl false 1 (rows eI (nL m.flutes))), .c (.sl false 8 (rows eP s.papers)), .c (.sl false 4 (rows eF s.flutes)), dI (wholeI s m)])]⟩) (fun i => m.papers.length - i.1) ⟨0, Nat.zero_le _⟩ ?_ ?_
 ·refine Ent.to ?_ ?_ <;> simp (disch:=omega) only [qR,qS,qTw,qU,get,Nat.reduceEqDiff,↓reduceIte,qV,qW,qX,qY,qZ,and_self,dI,i64_in,and_true,true_and,rA,rB,rC,rD,calP]
 rintro ⟨i, hi⟩
 rcases Nat.lt_or_ge i m.papers.length with hlt | hge
 ·have hd : decide ((i : Int) < (m.papers.length : Int)) = true := by rw [decide_eq_true_eq]; omega
  obtain ⟨v, hv⟩ := getE (l := m.papers) (i := i) hlt
  have hv' := nL_at hv
  have hvs := h.papers v (List.mem_of_getElem? hv)
  have hp := papAt_get hvs
  have ho := (papAt_ok hs hvs).thick
  have hcb := calP_b he hs h i hi
  have hnx : calP ef s m (i + 1) = calP ef s m i + (if i % 2 = 0 then ef (papAt s v).tl (papAt s v).th else 0) := by rw [calP, hv, Option.getD_some]
  have hm := he.mem _ _ ho.2.1
  have hcall := he.call (papAt s v).tl (papAt s v).th
  generalize papAt s v = p at *
  have hrem : (i : Int).tmod 2 = ((i % 2 : Nat) : Int) := by rw [Int.tmod_eq_emod_of_nonneg (by omega)]; omega
  rcases (by omega : i % 2 = 0 ∨ i % 2 = 1) with hod | hod
  ·rw [hod] at hrem
   rw [if_pos hod] at hnx
   repeat' (first|(with_reducible first|apply qA|apply qB|apply qC|apply qD|apply qE|apply qF)|(simp (disch:=omega) only [go_sem, simprocAttr, Blk.men, Blk.keysIn, hd, hv', hp, hrem, rF, rG])|exact qM rfl rfl rfl|(refine qG rfl ?_)|(refine qH rfl ?_)|(refine qI rfl ?_ ?_<;>intro hc<;>(try simp only [go_sem] at hc))|(refine qJ ?_ ?_<;>intro hc<;>(try simp only [hc])<;>(try simp only [go_sem] at hc)))
   refine call_c hcall (by decide) ?_
   simp (disch:=omega) only [go_sem,simprocAttr,Blk.men,Blk.keysIn]
   repeat' (first|(with_reducible first|apply qA|apply qB|apply qC|apply qD|apply qE|apply qF)|(simp (disch:=omega) only [go_sem, simprocAttr, Blk.men, Blk.keysIn])|exact qM rfl rfl rfl|(refine qG rfl ?_)|(refine qH rfl ?_)|(refine qI rfl ?_ ?_<;>intro hc<;>(try simp only [go_sem] at hc))|(refine qJ ?_ ?_<;>intro hc<;>(try simp only [hc])<;>(try simp only [go_sem] at hc)))
   refine ⟨⟨i + 1, hlt⟩, ?_, Ent.to ?_ ?_⟩ <;> first | (show _ < _; (try simp only); omega) | (simp (disch:=omega) only [qR,qS,qTw,qU,get,Nat.reduceEqDiff,↓reduceIte,qV,qW,qX,qY,qZ,and_self,dI,i64_in,and_true,true_and,rA,rB,rC,rD, hnx])
  ·rw [hod] at hrem
   rw [if_neg (by omega), Int.add_zero] at hnx
   repeat' (first|(with_reducible first|apply qA|apply qB|apply qC|apply qD|apply qE|apply qF)|(simp (disch:=omega) only [go_sem, simprocAttr, Blk.men, Blk.keysIn, hd, hv', hp, hrem, rF, rG])|exact qM rfl rfl rfl|(refine qG rfl ?_)|(refine qH rfl ?_)|(refine qI rfl ?_ ?_<;>intro hc<;>(try simp only [go_sem] at hc))|(refine qJ ?_ ?_<;>intro hc<;>(try simp only [hc])<;>(try simp only [go_sem] at hc)))
   refine ⟨⟨i + 1, hlt⟩, ?_, Ent.to ?_ ?_⟩ <;> first | (show _ < _; (try simp only); omega) | (simp (disch:=omega) only [qR,qS,qTw,qU,get,Nat.reduceEqDiff,↓reduceIte,qV,qW,qX,qY,qZ,and_self,dI,i64_in,and_true,true_and,rA,rB,rC,rD, hnx])
 ·obtain rfl : i = m.papers.length := by omega
  have hd : decide ((m.papers.length : Int) < (m.papers.length : Int)) = false := by rw [decide_eq_false_iff_not]; omega
  have hcb := calP_b he hs h m.papers.length (Nat.le_refl _)
  unfold calI
  generalize calP ef s m m.papers.length = cp at *
  repeat' (first|(with_reducible first|apply qA|apply qB|apply qC|apply qD|apply qE|apply qF)|(simp (disch:=omega) only [go_sem, simprocAttr, Blk.men, Blk.keysIn, hd, hl2])|exact qM rfl rfl rfl|(refine qG rfl ?_)|(refine qH rfl ?_)|(refine qI rfl ?_ ?_<;>intro hc<;>(try simp only [go_sem] at hc))|(refine qJ ?_ ?_<;>intro hc<;>(try simp only [hc])<;>(try simp only [go_sem] at hc)))
  refine DW.loop (ι := { i : Nat // i ≤ m.flutes.length }) (fun i => ⟨54, [(37, dI i.1), (36, dI m.flutes.length), (35, .c (.sl false 1 (rows eI (nL m.flutes)))), (4, dI (cp + calH ef s m i.1)), (2, .box 2 0), (1, .c (.fn (.func g) [] []))], [(2, .box [.c (.sl false 1 (rows eI (nL m.papers))), .c (.sl false 1 (rows eI (nL m.flutes))), .c (.sl false 8 (rows eP s.papers)), .c (.sl false 4 (rows eF s.flutes)), dI (wholeI s m)])]⟩) (fun i => m.flutes.length - i.1) ⟨0, Nat.zero_le _⟩ ?_ ?_
  ·refine Ent.to ?_ ?_ <;> simp (disch:=omega) only [qR,qS,qTw,qU,get,Nat.reduceEqDiff,↓reduceIte,qV,qW,qX,qY,qZ,and_self,dI,i64_in,and_true,true_and,rA,rB,rC,rD,calH,Int.add_zero]
  rintro ⟨i, hi⟩
  rcases Nat.lt_or_ge i m.flutes.length with hlt | hge
  ·have hd : decide ((i : Int) < (m.flutes.length : Int)) = true := by rw [decide_eq_true_eq]; omega
   obtain ⟨v, hv⟩ := getE (l := m.flutes) (i := i) hlt
   have hv' := nL_at hv
   have hvs := h.flutes v (List.mem_of_getElem? hv)
   have hp := fluAt_get hvs
   have ho := (fluAt_ok hs hvs).high
   have hhb := calH_b he hs h i hi
   have hnx : cp + calH ef s m (i + 1) = cp + calH ef s m i + ef (fluAt s v).hl (fluAt s v).hh := by rw [calH, hv, Option.getD_some]; omega
   have hm := he.mem _ _ ho.2.1
   have hcall := he.call (fluAt s v).hl (fluAt s v).hh
   generalize fluAt s v = p at *
   repeat' (first|(with_reducible first|apply qA|apply qB|apply qC|apply qD|apply qE|apply qF)|(simp (disch:=omega) only [go_sem, simprocAttr, Blk.men, Blk.keysIn, hd, hv', hp, rF, rG])|exact qM rfl rfl rfl|(refine qG rfl ?_)|(refine qH rfl ?_)|(refine qI rfl ?_ ?_<;>intro hc<;>(try simp only [go_sem] at hc))|(refine qJ ?_ ?_<;>intro hc<;>(try simp only [hc])<;>(try simp only [go_sem] at hc)))
   refine call_c hcall (by decide) ?_
   simp (disch:=omega) only [go_sem,simprocAttr,Blk.men,Blk.keysIn]
   repeat' (first|(with_reducible first|apply qA|apply qB|apply qC|apply qD|apply qE|apply qF)|(simp (disch:=omega) only [go_sem, simprocAttr, Blk.men, Blk.keysIn])|exact qM rfl rfl rfl|(refine qG rfl ?_)|(refine qH rfl ?_)|(refine qI rfl ?_ ?_<;>intro hc<;>(try simp only [go_sem] at hc))|(refine qJ ?_ ?_<;>intro hc<;>(try simp only [hc])<;>(try simp only [go_sem] at hc)))
   refine ⟨⟨i + 1, hlt⟩, ?_, Ent.to ?_ ?_⟩ <;> first | (show _ < _; (try simp only); omega) | (simp (disch:=omega) only [qR,qS,qTw,qU,get,Nat.reduceEqDiff,↓reduceIte,qV,qW,qX,qY,qZ,and_self,dI,i64_in,and_true,true_and,rA,rB,rC,rD, hnx])
  ·obtain rfl : i = m.flutes.length := by omega
   have hd : decide ((m.flutes.length : Int) < (m.flutes.length : Int)) = false := by rw [decide_eq_false_iff_not]; omega
   repeat' (first|(with_reducible first|apply qA|apply qB|apply qC|apply qD|apply qE|apply qF)|(simp (disch:=omega) only [go_sem, simprocAttr, Blk.men, Blk.keysIn, hd])|exact qM rfl rfl rfl|(refine qG rfl ?_)|(refine qH rfl ?_)|(refine qI rfl ?_ ?_<;>intro hc<;>(try simp only [go_sem] at hc))|(refine qJ ?_ ?_<;>intro hc<;>(try simp only [hc])<;>(try simp only [go_sem] at hc)))
def loE (lo _ : Int) : Int := lo
def hiE (_ hi : Int) : Int := hi
theorem loE_ok : EndOk 88 loE := ⟨bdLow, fun _ _ h => ⟨Int.le_refl _, h⟩⟩
theorem hiE_ok : EndOk 89 hiE := ⟨bdHigh, fun _ _ h => ⟨h, Int.le_refl _⟩⟩
theorem bdMeas (s : Sto) (m : Mak) (hs : s.ok) (h : m.ok s) : DCall Tryd.prog 48 [dShe s m (wholeI s m)] [] (.tup [.agg [dI (moistI loE s m), dI (moistI hiE s m)], .agg [dI (calI loE s m), dI (calI hiE s m)]]) [] := by
 have h1 := bdMoist s m hs h loE_ok
 have h2 := bdMoist s m hs h hiE_ok
 have h3 := bdCaliper s m hs h loE_ok
 have h4 := bdCaliper s m hs h hiE_ok
 refine DCall.of Tryd.func48 sf48 hb48 (Nat.le_of_ble_eq_true rfl) (okRes_nil fun _ => rfl) ?_; simp only [s48, o48_0, o48_1, o48_2, o48_3, o48_4, o48_5, o48_6, o48_7, o48_8, o48_9, o48_10, o48_11, o48_12, o48_13, o48_14, o48_15, idxs, Nat.reduceAdd]
 repeat' (first|(with_reducible first|apply qA|apply qB|apply qC|apply qD|apply qE|apply qF)|(refine DW.ord rfl (WF.of (by first|rfl|simp (disch:=omega) only [go_sem, simprocAttr, Blk.men, Blk.keysIn])) ?_ ?_ ?_; rotate_left)|rfl|(with_reducible refine And.intro ?_ ?_)|(simp (disch:=omega) only [go_sem, simprocAttr, Blk.men, Blk.keysIn])|exact qM rfl rfl rfl|(refine qG rfl ?_)|(refine qK (h1) (by decide) ?_)|(refine qK (h2) (by decide) ?_)|(refine qK (h3) (by decide) ?_)|(refine qK (h4) (by decide) ?_)|(refine qH rfl ?_)|(refine qI rfl ?_ ?_<;>intro hc<;>(try simp only [go_sem] at hc))|(refine qJ ?_ ?_<;>intro hc<;>(try simp only [hc])<;>(try simp only [go_sem] at hc)))
theorem bdMeasure (s : Sto) (m : Mak) (hs : s.ok) (h : m.ok s) : DCall Tryd.prog 16 [dSto s, dMak m] [] (.tup [.agg [dI (moistI loE s m), dI (moistI hiE s m)], .agg [dI (calI loE s m), dI (calI hiE s m)], dI 0]) [] := by
 have h1 := bdNew s m hs h
 have h2 := bdMeas s m hs h
 refine DCall.of Tryd.func16 sf16 hb16 (Nat.le_of_ble_eq_true rfl) (okRes_nil fun _ => rfl) ?_; simp only [s16, o16_0, o16_1, o16_2, o16_3, o16_4, o16_5, o16_6, o16_7, o16_8, o16_9, o16_10, idxs, Nat.reduceAdd]
 repeat' (first|(with_reducible first|apply qA|apply qB|apply qC|apply qD|apply qE|apply qF)|(refine DW.ord rfl (WF.of (by first|rfl|simp (disch:=omega) only [go_sem, simprocAttr, Blk.men, Blk.keysIn])) ?_ ?_ ?_; rotate_left)|rfl|(with_reducible refine And.intro ?_ ?_)|(simp (disch:=omega) only [go_sem, simprocAttr, Blk.men, Blk.keysIn])|exact qM rfl rfl rfl|(refine qG rfl ?_)|(refine qK (h1) (by decide) ?_)|(refine qK (h2) (by decide) ?_)|(refine qH rfl ?_)|(refine qI rfl ?_ ?_<;>intro hc<;>(try simp only [go_sem] at hc))|(refine qJ ?_ ?_<;>intro hc<;>(try simp only [hc])<;>(try simp only [go_sem] at hc)))
def strongI (s : Sto) (m : Mak) : Int := (sumI Pap.strong s m).tdiv (wholeI s m)
theorem strong_b {s : Sto} (hs : s.ok) : ∀ p ∈ s.papers, 0 ≤ p.strong ∧ p.strong ≤ 1000000000 := fun p hp => by have := (hs.papers p hp).strong; omega
theorem bdStren (s : Sto) (m : Mak) (hs : s.ok) (h : m.ok s) : DCall Tryd.prog 50 [dShe s m (wholeI s m)] [] (dI (strongI s m)) [] := by
 have hsum := bdSum s m hs h 93 [] rfl Pap.strong (strong_b hs) (fun p _ => bdStrong p)
 have hb := (sumI_b hs h Pap.strong (strong_b hs)).2
 have hw := wholeI_b hs h
 have h0 : (wholeI s m = 0) = False := eq_false (by omega)
 have hq := tdiv_b (b := wholeI s m) hb (by omega)
 unfold strongI
 refine DCall.of Tryd.func50 sf50 hb50 (Nat.le_of_ble_eq_true rfl) (okRes_nil fun _ => rfl) ?_; simp only [s50, idxs, Nat.reduceAdd]
 repeat' (first|(with_reducible first|apply qA|apply qB|apply qC|apply qD|apply qE|apply qF)|(refine qL rfl (WF.of ?_) ?_; first|rfl|skip)|(simp (disch:=omega) only [go_sem, simprocAttr, Blk.men, Blk.keysIn, h0])|exact qM rfl rfl rfl|(refine qG rfl ?_)|(refine qK (hsum) (by decide) ?_)|(refine qH rfl ?_)|(refine qI rfl ?_ ?_<;>intro hc<;>(try simp only [go_sem] at hc))|(refine qJ ?_ ?_<;>intro hc<;>(try simp only [hc])<;>(try simp only [go_sem] at hc)))
theorem bdStrength (s : Sto) (m : Mak) (hs : s.ok) (h : m.ok s) : DCall Tryd.prog 19 [dSto s, dMak m] [] (.tup [dI (strongI s m), dI 0]) [] := by
 have h1 := bdNew s m hs h
 have h2 := bdStren s m hs h
 refine DCall.of Tryd.func19 sf19 hb19 (Nat.le_of_ble_eq_true rfl) (okRes_nil fun _ => rfl) ?_; simp only [s19, idxs, Nat.reduceAdd]
 repeat' (first|(with_reducible first|apply qA|apply qB|apply qC|apply qD|apply qE|apply qF)|(simp (disch:=omega) only [go_sem, simprocAttr, Blk.men, Blk.keysIn])|exact qM rfl rfl rfl|(refine qG rfl ?_)|(refine qK (h1) (by decide) ?_)|(refine qK (h2) (by decide) ?_)|(refine qH rfl ?_)|(refine qI rfl ?_ ?_<;>intro hc<;>(try simp only [go_sem] at hc))|(refine qJ ?_ ?_<;>intro hc<;>(try simp only [hc])<;>(try simp only [go_sem] at hc)))
end Go.Dw.Seat
end
section
set_option linter.unusedSimpArgs false
set_option maxRecDepth 100000
namespace Go.Dw.Seat
open Go Go.Dw Go.Proofs Go.IntWalk
structure Lod where
 sl : Int
 sh : Int
 wl : Int
 wh : Int
def eLd (b : Lod) : List C := [.v (.int .i64 b.sl), .v (.int .i64 b.sh), .v (.int .i64 b.wl), .v (.int .i64 b.wh)]
theorem eLd_nb (v : Lod) : C.nbs (eLd v) = true := rfl
def eK (t : Int × Int) : List C := [.v (.int .i64 t.1), .v (.int .i64 t.2)]
theorem eK_nb (v : Int × Int) : C.nbs (eK v) = true := rfl
attribute [go_sem] eLd eK
structure Lod.ok (b : Lod) : Prop where
 strong : 0 ≤ b.sl ∧ b.sl ≤ b.sh ∧ b.sh ≤ 20000000
 weight : 0 ≤ b.wl ∧ b.wl ≤ b.wh ∧ b.wh ≤ 100000
theorem crBox1 (b : Lod) (h : b.ok) : DCall Tryd.prog 101 [.agg ((eLd b).map D.c)] [] (bD false) [] := by
 have h1 := crSpan b.sl b.sh 0 20000000 h.strong
 have h2 := crSpan b.wl b.wh 0 100000 h.weight
 refine DCall.of Tryd.func101 sf101 hb101 (Nat.le_of_ble_eq_true rfl) (okRes_nil fun _ => rfl) ?_; simp only [s101, idxs, Nat.reduceAdd]
 repeat' (first|(with_reducible first|apply qA|apply qB|apply qC|apply qD|apply qE|apply qF)|(simp (disch:=omega) only [go_sem, simprocAttr, Blk.men, Blk.keysIn, rF, rG])|exact qM rfl rfl rfl|(refine qG rfl ?_)|(refine qK (h1) (by decide) ?_)|(refine qK (h2) (by decide) ?_)|(refine qH rfl ?_)|(refine qI rfl ?_ ?_<;>intro hc<;>(try simp only [go_sem] at hc))|(refine qJ ?_ ?_<;>intro hc<;>(try simp only [hc])<;>(try simp only [go_sem] at hc)))
theorem crLIdx (b : Bool) (l : List Lod) (hl : l.length ≤ 2 ^ 36) (g : FuncId) (hp : ∀ x ∈ l, DCall Tryd.prog g [.agg ((eLd x).map D.c)] [] (bD false) []) : DCall Tryd.prog 127 [.c (.sl b 4 (rows eLd l)), .c (.fn (.func g) [] [])] [] (dI (-1)) [] := by
 refine DCall.of Tryd.func127 sf127 hb127 (Nat.le_of_ble_eq_true rfl) (okRes_nil fun _ => rfl) ?_; simp only [s127, idxs, Nat.reduceAdd]
 repeat' (first|(with_reducible first|apply qA|apply qB|apply qC|apply qD|apply qE|apply qF)|(simp (disch:=omega) only [go_sem, simprocAttr, Blk.men, Blk.keysIn])|exact qM rfl rfl rfl|(refine qG rfl ?_)|(refine qH rfl ?_)|(refine qI rfl ?_ ?_<;>intro hc<;>(try simp only [go_sem] at hc))|(refine qJ ?_ ?_<;>intro hc<;>(try simp only [hc])<;>(try simp only [go_sem] at hc)))
 refine DW.loop (ι := { i : Nat // i ≤ l.length }) (fun i => ⟨19, [(8, dI i.1), (7, dI l.length), (1, .c (.fn (.func g) [] [])), (0, .c (.sl b 4 (rows eLd l)))], []⟩) (fun i => l.length - i.1) ⟨0, Nat.zero_le _⟩ ?_ ?_
 ·refine Ent.to ?_ ?_ <;> simp (disch:=omega) only [qR,qS,qTw,qU,get,Nat.reduceEqDiff,↓reduceIte,qV,qW,qX,qY,qZ,and_self,dI,i64_in,and_true,true_and,rA,rB,rC,rD]
 rintro ⟨i, hi⟩
 rcases at_or l i hi with ⟨v, hv, hlt, hd⟩ | ⟨he, hd⟩
 ·have hcall := hp v (List.mem_of_getElem? hv)
  repeat' (first|(with_reducible first|apply qA|apply qB|apply qC|apply qD|apply qE|apply qF)|(simp (disch:=omega) only [go_sem, simprocAttr, Blk.men, Blk.keysIn, hd, hv, closeDs_fn, rF, rG])|exact qM rfl rfl rfl|(refine qG rfl ?_)|(refine qH rfl ?_)|(refine qI rfl ?_ ?_<;>intro hc<;>(try simp only [go_sem] at hc))|(refine qJ ?_ ?_<;>intro hc<;>(try simp only [hc])<;>(try simp only [go_sem] at hc)))
  refine call_c hcall (by decide) ?_
  simp (disch:=omega) only [go_sem,simprocAttr,Blk.men,Blk.keysIn]
  repeat' (first|(with_reducible first|apply qA|apply qB|apply qC|apply qD|apply qE|apply qF)|(simp (disch:=omega) only [go_sem, simprocAttr, Blk.men, Blk.keysIn])|exact qM rfl rfl rfl|(refine qG rfl ?_)|(refine qH rfl ?_)|(refine qI rfl ?_ ?_<;>intro hc<;>(try simp only [go_sem] at hc))|(refine qJ ?_ ?_<;>intro hc<;>(try simp only [hc])<;>(try simp only [go_sem] at hc)))
  refine ⟨⟨i + 1, hlt⟩, ?_, Ent.to ?_ ?_⟩ <;> first | (show _ < _; (try simp only); omega) | (simp (disch:=omega) only [qR,qS,qTw,qU,get,Nat.reduceEqDiff,↓reduceIte,qV,qW,qX,qY,qZ,and_self,dI,i64_in,and_true,true_and,rA,rB,rC,rD])
 ·repeat' (first|(with_reducible first|apply qA|apply qB|apply qC|apply qD|apply qE|apply qF)|(simp (disch:=omega) only [go_sem, simprocAttr, Blk.men, Blk.keysIn, hd])|exact qM rfl rfl rfl|(refine qG rfl ?_)|(refine qH rfl ?_)|(refine qI rfl ?_ ?_<;>intro hc<;>(try simp only [go_sem] at hc))|(refine qJ ?_ ?_<;>intro hc<;>(try simp only [hc])<;>(try simp only [go_sem] at hc)))
theorem crLCon (b : Bool) (l : List Lod) (hl : l.length ≤ 2 ^ 36) (g : FuncId) (hp : ∀ x ∈ l, DCall Tryd.prog g [.agg ((eLd x).map D.c)] [] (bD false) []) : DCall Tryd.prog 102 [.c (.sl b 4 (rows eLd l)), .c (.fn (.func g) [] [])] [] (bD false) [] := by
 refine DCall.of Tryd.func102 sf102 hb102 (Nat.le_of_ble_eq_true rfl) (okRes_nil fun _ => rfl) ?_; simp only [s102, idxs, Nat.reduceAdd]
 repeat' (first|(with_reducible first|apply qA|apply qB|apply qC|apply qD|apply qE|apply qF)|(simp (disch:=omega) only [go_sem, simprocAttr, Blk.men, Blk.keysIn])|exact qM rfl rfl rfl|(refine qG rfl ?_)|(refine qH rfl ?_)|(refine qI rfl ?_ ?_<;>intro hc<;>(try simp only [go_sem] at hc))|(refine qJ ?_ ?_<;>intro hc<;>(try simp only [hc])<;>(try simp only [go_sem] at hc)))
 (refine call_c (crLIdx b l hl g hp) (by decide) ?_; simp (disch:=omega) only [go_sem,simprocAttr,Blk.men,Blk.keysIn])
 repeat' (first|(with_reducible first|apply qA|apply qB|apply qC|apply qD|apply qE|apply qF)|(simp (disch:=omega) only [go_sem, simprocAttr, Blk.men, Blk.keysIn])|exact qM rfl rfl rfl|(refine qG rfl ?_)|(refine qH rfl ?_)|(refine qI rfl ?_ ?_<;>intro hc<;>(try simp only [go_sem] at hc))|(refine qJ ?_ ?_<;>intro hc<;>(try simp only [hc])<;>(try simp only [go_sem] at hc)))
theorem crBoxes (b : Bool) (l : List Lod) (most : Int) (hl : l.length ≤ 1000) (hm : (l.length : Int) ≤ most) (h : ∀ x ∈ l, x.ok) : DCall Tryd.prog 57 [.c (.sl b 4 (rows eLd l)), dI most] [] (dI 0) [] := by
 have h1 := crLCon b l (by omega) 101 (fun x hx => crBox1 x (h x hx))
 have hd : decide (most < (l.length : Int)) = false := by rw [decide_eq_false_iff_not]; omega
 refine DCall.of Tryd.func57 sf57 hb57 (Nat.le_of_ble_eq_true rfl) (okRes_nil fun _ => rfl) ?_; simp only [s57, idxs, Nat.reduceAdd]
 repeat' (first|(with_reducible first|apply qA|apply qB|apply qC|apply qD|apply qE|apply qF)|(simp (disch:=omega) only [go_sem, simprocAttr, Blk.men, Blk.keysIn, hd])|exact qM rfl rfl rfl|(refine qG rfl ?_)|(refine qK (h1) (by decide) ?_)|(refine qH rfl ?_)|(refine qI rfl ?_ ?_<;>intro hc<;>(try simp only [go_sem] at hc))|(refine qJ ?_ ?_<;>intro hc<;>(try simp only [hc])<;>(try simp only [go_sem] at hc)))
structure TabOk (l : List (Int × Int)) (days : Int) : Prop where
 len : 1 ≤ l.length ∧ l.length ≤ 10
 first : ∀ u, l[0]? = some u → u.1 = 0
 mem : ∀ s ∈ l, (0 ≤ s.1 ∧ s.1 ≤ 10000) ∧ (0 ≤ s.2 ∧ s.2 ≤ 1000)
 step : ∀ (i : Nat) (u v : Int × Int), l[i]? = some u → l[i + 1]? = some v → u.1 < v.1 ∧ v.2 ≤ u.2
 days : 0 ≤ days ∧ days ≤ 10000
theorem crTable (l : List (Int × Int)) (days : Int) (h : TabOk l days) : DCall Tryd.prog 59 [.c (.sl false 2 (rows eK l)), dI days] [] (.tup [.agg [.c (.sl false 2 (rows eK l)), dI days], dI 0]) [] := by
 have hlen := h.len
 have h1 := crIn true 1 10 [(l.length : Int)] (by simp) (by simp; omega)
 have h2 := crIn true 0 10000 [days] (by simp) (by simpa using h.days)
 obtain ⟨f, hf⟩ := getE (l := l) (i := 0) (by omega)
 have hf0 := h.first f hf
 have hfe : (f.1 != 0) = false := by rw [hf0]; rfl
 refine DCall.of Tryd.func59 sf59 hb59 (Nat.le_of_ble_eq_true rfl) (okRes_nil fun _ => rfl) ?_; simp only [s59, idxs, Nat.reduceAdd]
 repeat' (first|(with_reducible first|apply qA|apply qB|apply qC|apply qD|apply qE|apply qF)|(refine qL rfl (WF.of ?_) ?_; first|rfl|skip)|(simp (disch:=omega) only [go_sem, simprocAttr, Blk.men, Blk.keysIn, hf, hfe, rF, rG])|exact qM rfl rfl rfl|(refine qG rfl ?_)|(refine qK (h1) (by decide) ?_)|(refine qH rfl ?_)|(refine qI rfl ?_ ?_<;>intro hc<;>(try simp only [go_sem] at hc))|(refine qJ ?_ ?_<;>intro hc<;>(try simp only [hc])<;>(try simp only [go_sem] at hc)))
 refine DW.loop (ι := { i : Nat // i ≤ l.length }) (fun i => ⟨76, [(23, dI i.1), (22, dI l.length), (21, .c (.sl false 2 (rows eK l))), (4, .box 4 0), (0, .c (.sl false 2 (rows eK l))), (1, dI days)], [(4, .box [.c (.v (.slice none 0 0)), dI 0])]⟩) (fun i => l.length - i.1) ⟨0, Nat.zero_le _⟩ ?_ ?_
 ·refine Ent.to ?_ ?_ <;> simp (disch:=omega) only [qR,qS,qTw,qU,get,Nat.reduceEqDiff,↓reduceIte,qV,qW,qX,qY,qZ,and_self,dI,i64_in,and_true,true_and,rA,rB,rC,rD]
 rintro ⟨i, hi⟩
 rcases at_or l i hi with ⟨v, hv, hlt, hd⟩ | ⟨he, hd⟩
 ·have hm := h.mem v (List.mem_of_getElem? hv)
  have h3 := crIn true 0 10000 [v.1] (by simp) (by simpa using hm.1)
  have h4 := crIn true 0 1000 [v.2] (by simp) (by simpa using hm.2)
  rcases i with _ | i
  ·have hd0 : decide ((0 : Int) < ((0 : Nat) : Int)) = false := by decide
   have hd' : decide ((0 : Int) < (l.length : Int)) = true := hd
   repeat' (first|(with_reducible first|apply qA|apply qB|apply qC|apply qD|apply qE|apply qF)|(refine qL rfl (WF.of ?_) ?_; first|rfl|skip)|(simp (disch:=omega) only [go_sem, simprocAttr, Blk.men, Blk.keysIn, hd', hv, hd0, rF, rG])|exact qM rfl rfl rfl|(refine qG rfl ?_)|(refine qK (h3) (by decide) ?_)|(refine qK (h4) (by decide) ?_)|(refine qH rfl ?_)|(refine qI rfl ?_ ?_<;>intro hc<;>(try simp only [go_sem] at hc))|(refine qJ ?_ ?_<;>intro hc<;>(try simp only [hc])<;>(try simp only [go_sem] at hc)))
   refine ⟨⟨1, hlt⟩, ?_, Ent.to ?_ ?_⟩ <;> first | (show _ < _; (try simp only); omega) | (simp (disch:=omega) only [qR,qS,qTw,qU,get,Nat.reduceEqDiff,↓reduceIte,qV,qW,qX,qY,qZ,and_self,dI,i64_in,and_true,true_and,rA,rB,rC,rD])
  ·have hd0 : decide ((0 : Int) < ((i + 1 : Nat) : Int)) = true := by rw [decide_eq_true_eq]; omega
   obtain ⟨u, hu⟩ := getE (l := l) (i := i) (by omega)
   have hs := h.step i u v hu hv
   have e1 : ((i + 1 : Nat) : Int) - 1 = (i : Int) := by omega
   have d1 : decide (v.1 ≤ u.1) = false := by rw [decide_eq_false_iff_not]; omega
   have d2 : decide (u.2 < v.2) = false := by rw [decide_eq_false_iff_not]; omega
   repeat' (first|(with_reducible first|apply qA|apply qB|apply qC|apply qD|apply qE|apply qF)|(refine qL rfl (WF.of ?_) ?_; first|rfl|skip)|(simp (disch:=omega) only [go_sem, simprocAttr, Blk.men, Blk.keysIn, hd, hv, hd0, hu, e1, d1, d2, rF, rG])|exact qM rfl rfl rfl|(refine qG rfl ?_)|(refine qK (h3) (by decide) ?_)|(refine qK (h4) (by decide) ?_)|(refine qH rfl ?_)|(refine qI rfl ?_ ?_<;>intro hc<;>(try simp only [go_sem] at hc))|(refine qJ ?_ ?_<;>intro hc<;>(try simp only [hc])<;>(try simp only [go_sem] at hc)))
   refine ⟨⟨i + 1 + 1, hlt⟩, ?_, Ent.to ?_ ?_⟩ <;> first | (show _ < _; (try simp only); omega) | (simp (disch:=omega) only [qR,qS,qTw,qU,get,Nat.reduceEqDiff,↓reduceIte,qV,qW,qX,qY,qZ,and_self,dI,i64_in,and_true,true_and,rA,rB,rC,rD])
 ·repeat' (first|(with_reducible first|apply qA|apply qB|apply qC|apply qD|apply qE|apply qF)|(refine qL rfl (WF.of ?_) ?_; first|rfl|skip)|(simp (disch:=omega) only [go_sem, simprocAttr, Blk.men, Blk.keysIn, hd])|exact qM rfl rfl rfl|(refine qG rfl ?_)|(refine qK (h2) (by decide) ?_)|(refine qH rfl ?_)|(refine qI rfl ?_ ?_<;>intro hc<;>(try simp only [go_sem] at hc))|(refine qJ ?_ ?_<;>intro hc<;>(try simp only [hc])<;>(try simp only [go_sem] at hc)))
  refine retS_wk rfl ?_ (by simp only [Blk.nb, rowC_nb, D.nb, D.nbs, C.nb, C.nbs, C.nbss, rows_nb eI_nb, Bool.and_true, Bool.not_false, Bool.and_self, bD, dI, iD, rows_nb eP_nb, rows_nb eF_nb, rows_nb eK_nb, rows_nb eLd_nb]); exact .tup (.cons (.refl _) (.cons (.refl _) .nil))
def lastI (days : Int) (l : List (Int × Int)) (k : Int) : Int := l.foldl (fun k s => if s.1 ≤ days then s.2 else k) k
theorem lastI_b (days : Int) : ∀ (l : List (Int × Int)) (k : Int), (∀ s ∈ l, 0 ≤ s.2 ∧ s.2 ≤ 1000) → (0 ≤ k ∧ k ≤ 1000) → 0 ≤ lastI days l k ∧ lastI days l k ≤ 1000
 | [], _, _, hk => hk
 | s :: t, k, h, hk => by
  refine lastI_b days t _ (fun x hx => h x (by simp [hx])) ?_
  have := h s (by simp)
  show 0 ≤ (if s.1 ≤ days then s.2 else k) ∧ (if s.1 ≤ days then s.2 else k) ≤ 1000
  split <;> omega
theorem lastI_take (days : Int) {l : List (Int × Int)} {i : Nat} {v : Int × Int} (hv : l[i]? = some v) : lastI days (l.take (i + 1)) 0 = if v.1 ≤ days then v.2 else lastI days (l.take i) 0 := by
 rw [List.take_add_one, hv]
 simp only [lastI, Option.toList_some, List.foldl_append, List.foldl_cons, List.foldl_nil]
theorem crLast (l : List (Int × Int)) (days : Int) (hl : l.length ≤ 1000) : DCall Tryd.prog 94 [.agg [.c (.sl false 2 (rows eK l)), dI days]] [] (dI (lastI days l 0)) [] := by
 refine DCall.of Tryd.func94 sf94 hb94 (Nat.le_of_ble_eq_true rfl) (okRes_nil fun _ => rfl) ?_; simp only [s94, idxs, Nat.reduceAdd]
 repeat' (first|(with_reducible first|apply qA|apply qB|apply qC|apply qD|apply qE|apply qF)|(simp (disch:=omega) only [go_sem, simprocAttr, Blk.men, Blk.keysIn])|exact qM rfl rfl rfl|(refine qG rfl ?_)|(refine qH rfl ?_)|(refine qI rfl ?_ ?_<;>intro hc<;>(try simp only [go_sem] at hc))|(refine qJ ?_ ?_<;>intro hc<;>(try simp only [hc])<;>(try simp only [go_sem] at hc)))
 refine DW.loop (ι := { i : Nat // i ≤ l.length }) (fun i => ⟨21, [(8, dI i.1), (7, dI l.length), (6, .c (.sl false 2 (rows eK l))), (2, dI (lastI days (l.take i.1) 0)), (1, .box 1 0)], [(1, .box [.c (.sl false 2 (rows eK l)), dI days])]⟩) (fun i => l.length - i.1) ⟨0, Nat.zero_le _⟩ ?_ ?_
 ·refine Ent.to ?_ ?_ <;> simp (disch:=omega) only [qR,qS,qTw,qU,get,Nat.reduceEqDiff,↓reduceIte,qV,qW,qX,qY,qZ,and_self,dI,i64_in,and_true,true_and,rA,rB,rC,rD,lastI,List.take_zero,List.foldl_nil]
 rintro ⟨i, hi⟩
 rcases at_or l i hi with ⟨v, hv, hlt, hd⟩ | ⟨he, hd⟩
 ·have hnx := lastI_take days hv
  cases hc : decide (v.1 ≤ days) with
  | true =>
   rw [if_pos (of_decide_eq_true hc)] at hnx
   repeat' (first|(with_reducible first|apply qA|apply qB|apply qC|apply qD|apply qE|apply qF)|(simp (disch:=omega) only [go_sem, simprocAttr, Blk.men, Blk.keysIn, hd, hv, hc, rF, rG])|exact qM rfl rfl rfl|(refine qG rfl ?_)|(refine qH rfl ?_)|(refine qI rfl ?_ ?_<;>intro hc<;>(try simp only [go_sem] at hc))|(refine qJ ?_ ?_<;>intro hc<;>(try simp only [hc])<;>(try simp only [go_sem] at hc)))
   refine ⟨⟨i + 1, hlt⟩, ?_, Ent.to ?_ ?_⟩ <;> first | (show _ < _; (try simp only); omega) | (simp (disch:=omega) only [qR,qS,qTw,qU,get,Nat.reduceEqDiff,↓reduceIte,qV,qW,qX,qY,qZ,and_self,dI,i64_in,and_true,true_and,rA,rB,rC,rD, hnx])
  | false =>
   rw [if_neg (of_decide_eq_false hc)] at hnx
   repeat' (first|(with_reducible first|apply qA|apply qB|apply qC|apply qD|apply qE|apply qF)|(simp (disch:=omega) only [go_sem, simprocAttr, Blk.men, Blk.keysIn, hd, hv, hc, rF, rG])|exact qM rfl rfl rfl|(refine qG rfl ?_)|(refine qH rfl ?_)|(refine qI rfl ?_ ?_<;>intro hc<;>(try simp only [go_sem] at hc))|(refine qJ ?_ ?_<;>intro hc<;>(try simp only [hc])<;>(try simp only [go_sem] at hc)))
   refine ⟨⟨i + 1, hlt⟩, ?_, Ent.to ?_ ?_⟩ <;> first | (show _ < _; (try simp only); omega) | (simp (disch:=omega) only [qR,qS,qTw,qU,get,Nat.reduceEqDiff,↓reduceIte,qV,qW,qX,qY,qZ,and_self,dI,i64_in,and_true,true_and,rA,rB,rC,rD, hnx])
 ·repeat' (first|(with_reducible first|apply qA|apply qB|apply qC|apply qD|apply qE|apply qF)|(simp (disch:=omega) only [go_sem, simprocAttr, Blk.men, Blk.keysIn, hd])|exact qM rfl rfl rfl|(refine qG rfl ?_)|(refine qH rfl ?_)|(refine qI rfl ?_ ?_<;>intro hc<;>(try simp only [go_sem] at hc))|(refine qJ ?_ ?_<;>intro hc<;>(try simp only [hc])<;>(try simp only [go_sem] at hc)))
  refine retS_of rfl ?_ rfl; simp only [oneD, St.op, get, Nat.reduceEqDiff, ↓reduceIte, Option.getD_some, bD, dI]
  rw [he, List.take_length]
def bearsI (b : Lod) (k : Int) : Int := (b.sl * k).tdiv 1000
theorem crBears (b : Lod) (h : b.ok) (k : Int) (hk : 0 ≤ k ∧ k ≤ 1000) : DCall Tryd.prog 95 [.agg ((eLd b).map D.c), dI k] [] (dI (bearsI b k)) [] := by
 have hs := h.strong
 have hm := mulB0 (a := b.sl) (b := k) (A := 20000000) (B := 1000) (by omega) hk
 have hq := tdiv_b (b := 1000) (A := 20000000000) (a := b.sl * k) (by omega) (by decide)
 unfold bearsI
 refine DCall.of Tryd.func95 sf95 hb95 (Nat.le_of_ble_eq_true rfl) (okRes_nil fun _ => rfl) ?_; simp only [s95, idxs, Nat.reduceAdd]
 repeat' (first|(with_reducible first|apply qA|apply qB|apply qC|apply qD|apply qE|apply qF)|(simp (disch:=omega) only [go_sem, simprocAttr, Blk.men, Blk.keysIn, rF, rG])|exact qM rfl rfl rfl|(refine qG rfl ?_)|(refine qH rfl ?_)|(refine qI rfl ?_ ?_<;>intro hc<;>(try simp only [go_sem] at hc))|(refine qJ ?_ ?_<;>intro hc<;>(try simp only [hc])<;>(try simp only [go_sem] at hc)))
def highI (b : Lod) (l : List (Int × Int)) (days : Int) : Int := if b.wh = 0 then 50 else if 1 + (bearsI b (lastI days l 0)).tdiv b.wh < 50 then 1 + (bearsI b (lastI days l 0)).tdiv b.wh else 50
theorem crHigh (b : Lod) (h : b.ok) (l : List (Int × Int)) (days : Int) (ht : TabOk l days) : DCall Tryd.prog 56 [.agg ((eLd b).map D.c), .c (.sl false 2 (rows eK l)), dI days] [] (.tup [dI (highI b l days), dI 0]) [] := by
 have h1 := crBoxes true [b] 1 (by simp) (by simp) (by simpa using h)
 have h2 := crTable l days ht
 have h3 := crLast l days (by have := ht.len; omega)
 have hk := lastI_b days l 0 (fun s hs => (ht.mem s hs).2) (by decide)
 have h4 := crBears b h (lastI days l 0) hk
 have hs := h.strong
 have hw := h.weight
 unfold highI
 have hbb : 0 ≤ bearsI b (lastI days l 0) ∧ bearsI b (lastI days l 0) ≤ 20000000000 := by
  have hm := mulB0 (a := b.sl) (b := lastI days l 0) (A := 20000000) (B := 1000) (by omega) hk
  exact tdiv_b (by omega) (by decide)
 generalize lastI days l 0 = k at *
 generalize bearsI b k = be at *
 by_cases h0 : b.wh = 0
 ·have he : (b.wh == 0) = true := by rw [h0]; rfl
  rw [if_pos h0]
  refine DCall.of Tryd.func56 sf56 hb56 (Nat.le_of_ble_eq_true rfl) (okRes_nil fun _ => rfl) ?_; simp only [s56, idxs, Nat.reduceAdd]
  repeat' (first|(with_reducible first|apply qA|apply qB|apply qC|apply qD|apply qE|apply qF)|(refine qL rfl (WF.of ?_) ?_; first|rfl|skip)|(simp (disch:=omega) only [go_sem, simprocAttr, Blk.men, Blk.keysIn, rF, rG, he])|exact qM rfl rfl rfl|(refine qG rfl ?_)|(refine qK (h1) (by decide) ?_)|(refine qK (h2) (by decide) ?_)|(refine qH rfl ?_)|(refine qI rfl ?_ ?_<;>intro hc<;>(try simp only [go_sem] at hc))|(refine qJ ?_ ?_<;>intro hc<;>(try simp only [hc])<;>(try simp only [go_sem] at hc)))
 ·have he : (b.wh == 0) = false := by rw [beq_eq_false_iff_ne]; exact h0
  have hz : (b.wh = 0) = False := eq_false h0
  have hq := tdiv_b (b := b.wh) hbb (by omega)
  rw [if_neg h0]
  refine DCall.of Tryd.func56 sf56 hb56 (Nat.le_of_ble_eq_true rfl) (okRes_nil fun _ => rfl) ?_; simp only [s56, idxs, Nat.reduceAdd]
  repeat' (first|(with_reducible first|apply qA|apply qB|apply qC|apply qD|apply qE|apply qF)|(refine qL rfl (WF.of ?_) ?_; first|rfl|skip)|(simp (disch:=omega) only [go_sem, simprocAttr, Blk.men, Blk.keysIn, rF, rG, he, hz])|exact qM rfl rfl rfl|(refine qG rfl ?_)|(refine qK (h1) (by decide) ?_)|(refine qK (h2) (by decide) ?_)|(refine qK (h3) (by decide) ?_)|(refine qK (h4) (by decide) ?_)|(refine qH rfl ?_)|(refine qI rfl ?_ ?_<;>intro hc<;>(try simp only [go_sem] at hc))|(refine qJ ?_ ?_<;>intro hc<;>(try simp only [hc])<;>(try simp only [go_sem] at hc)))
theorem arSpan (a b : Int) : DCall Tryd.prog 6 [dI a, dI b] [] (.agg [dI a, dI b]) [] := by
 refine DCall.of Tryd.func6 sf6 hb6 (Nat.le_of_ble_eq_true rfl) (okRes_nil fun _ => rfl) ?_; simp only [s6, idxs, Nat.reduceAdd]
 repeat' (first|(with_reducible first|apply qA|apply qB|apply qC|apply qD|apply qE|apply qF)|(simp (disch:=omega) only [go_sem, simprocAttr, Blk.men, Blk.keysIn])|exact qM rfl rfl rfl|(refine qG rfl ?_)|(refine qH rfl ?_)|(refine qI rfl ?_ ?_<;>intro hc<;>(try simp only [go_sem] at hc))|(refine qJ ?_ ?_<;>intro hc<;>(try simp only [hc])<;>(try simp only [go_sem] at hc)))
def exS : Sto := ⟨[⟨1, 200, 250, 270, 60, 80, 400000, 300⟩, ⟨2, 120, 180, 190, 70, 90, 300000, 200⟩], [⟨8000, 12000, 3600, 3700⟩]⟩
def exM : Mak := ⟨[0, 1, 0], [0]⟩
theorem exS_ok : exS.ok := by
 refine ⟨by decide, by decide, ?_, ?_⟩
 ·intro p hp
  simp only [exS, List.mem_cons, List.not_mem_nil, or_false] at hp
  rcases hp with rfl | rfl <;> exact ⟨by decide, by decide, by decide, by decide, by decide, by decide⟩
 ·intro p hp
  simp only [exS, List.mem_cons, List.not_mem_nil, or_false] at hp
  rcases hp with rfl
  exact ⟨by decide, by decide, by decide⟩
theorem exM_ok : exM.ok exS := by
 refine ⟨by decide, by decide, by decide, by decide, ?_⟩
 intro i n p h1 h2
 match i, h1 with
 | 0, h1 => cases h1; cases h2; rfl
 | 1, h1 => cases h1; cases h2; rfl
 | 2, h1 => cases h1; cases h2; rfl
 | i + 3, h1 => cases h1
theorem exB : moistI loE exS exM = 616 ∧ moistI hiE exS exM = 628 ∧ calI loE exS exM = 4100 ∧ calI hiE exS exM = 4240 ∧ strongI exS exM = 900 := ⟨by kernel_rfl, by kernel_rfl, by kernel_rfl, by kernel_rfl, by kernel_rfl⟩
theorem arBoard : DCall Tryd.prog 23 [] [] (bD true) [] := by
 have h1 := bdMeasure exS exM exS_ok exM_ok
 have h2 := bdStrength exS exM exS_ok exM_ok
 obtain ⟨e1, e2, e3, e4, e5⟩ := exB
 rw [e1, e2, e3, e4] at h1
 rw [e5] at h2
 have n1 : nL exM.papers = [0, 1, 0] := rfl
 have n2 : nL exM.flutes = [0] := rfl
 unfold dMak dSto at h1 h2
 rw [n1, n2] at h1 h2
 unfold exS at h1 h2
 have s1 := arSpan 250 270
 have s2 := arSpan 60 80
 have s3 := arSpan 180 190
 have s4 := arSpan 70 90
 have s5 := arSpan 3600 3700
 have s6 := arSpan 616 628
 have s7 := arSpan 4100 4240
 refine DCall.of Tryd.func23 sf23 hb23 (Nat.le_of_ble_eq_true rfl) (okRes_nil fun _ => rfl) ?_; simp only [s23, idxs, Nat.reduceAdd]
 refine DW.seq (DW.reg ?_)
 simp (disch:=omega) only [go_sem,simprocAttr,Blk.men,Blk.keysIn]
 refine DW.seq (DW.reg ?_)
 simp (disch:=omega) only [go_sem,simprocAttr,Blk.men,Blk.keysIn]
 (refine call_c (s1) (by decide) ?_; simp (disch:=omega) only [go_sem,simprocAttr,Blk.men,Blk.keysIn])
 (refine call_c (s2) (by decide) ?_; simp (disch:=omega) only [go_sem,simprocAttr,Blk.men,Blk.keysIn])
 (refine call_c (s3) (by decide) ?_; simp (disch:=omega) only [go_sem,simprocAttr,Blk.men,Blk.keysIn])
 (refine call_c (s4) (by decide) ?_; simp (disch:=omega) only [go_sem,simprocAttr,Blk.men,Blk.keysIn])
 (refine call_c (s5) (by decide) ?_; simp (disch:=omega) only [go_sem,simprocAttr,Blk.men,Blk.keysIn])
 refine DW.seq (DW.reg ?_)
 simp (disch:=omega) only [go_sem,simprocAttr,Blk.men,Blk.keysIn]
 (refine DW.ent (Ent.rel 20 rfl) ?_; simp (disch:=omega) only [go_sem,simprocAttr,Blk.men,Blk.keysIn])
 (refine DW.ent (Ent.rel 19 rfl) ?_; simp (disch:=omega) only [go_sem,simprocAttr,Blk.men,Blk.keysIn])
 (refine DW.ent (Ent.rel 17 rfl) ?_; simp (disch:=omega) only [go_sem,simprocAttr,Blk.men,Blk.keysIn])
 (refine DW.ent (Ent.rel 14 rfl) ?_; simp (disch:=omega) only [go_sem,simprocAttr,Blk.men,Blk.keysIn])
 repeat' (first|(with_reducible first|apply qA|apply qB|apply qC|apply qD|apply qE|apply qF)|(refine qL rfl (WF.of ?_) ?_; first|rfl|skip)|(simp (disch:=omega) only [go_sem, simprocAttr, Blk.men, Blk.keysIn])|exact qM rfl rfl rfl|(refine qG rfl ?_)|(refine qK (h1) (by decide) ?_)|(refine qK (h2) (by decide) ?_)|(refine qK (s6) (by decide) ?_)|(refine qK (s7) (by decide) ?_)|(refine qH rfl ?_)|(refine qI rfl ?_ ?_<;>intro hc<;>(try simp only [go_sem] at hc))|(refine qJ ?_ ?_<;>intro hc<;>(try simp only [hc])<;>(try simp only [go_sem] at hc)))
theorem exK_ok : TabOk [(0, 1000), (10, 800), (30, 600)] 10 := by
 refine ⟨by decide, ?_, by decide, ?_, by decide⟩
 ·intro u h; cases h; rfl
 ·intro i u v h1 h2
  match i, h1, h2 with
  | 0, h1, h2 => cases h1; cases h2; decide
  | 1, h1, h2 => cases h1; cases h2; decide
  | 2, h1, h2 => cases h2
  | i + 3, h1, h2 => cases h1
theorem arCrush : DCall Tryd.prog 24 [] [] (bD true) [] := by
 have h1 := crStrength ⟨5000, 6000, 4000, 4200, 1600, 587⟩ ⟨by decide, by decide, by decide, by decide⟩ 2529 2592 ⟨by decide, by decide, by decide⟩ ⟨by decide, by decide, by decide⟩
 have h2 := crHigh ⟨300, 320, 100, 110⟩ ⟨by decide, by decide⟩ [(0, 1000), (10, 800), (30, 600)] 10 exK_ok
 have e1 : highI ⟨300, 320, 100, 110⟩ [(0, 1000), (10, 800), (30, 600)] 10 = 3 := by kernel_rfl
 rw [e1] at h2
 have q1 : ((5000 : Int) * 2529 * 587).tdiv 100000 = 74226 := by decide
 have q2 : ((6000 : Int) * 2592 * 587).tdiv 100000 = 91290 := by decide
 simp only [] at h1
 rw [q1, q2] at h1
 have s1 := arSpan 5000 6000
 have s2 := arSpan 4000 4200
 have s3 := arSpan 300 320
 have s4 := arSpan 100 110
 have s5 := arSpan 74226 91290
 refine DCall.of Tryd.func24 sf24 hb24 (Nat.le_of_ble_eq_true rfl) (okRes_nil fun _ => rfl) ?_; simp only [s24, idxs, Nat.reduceAdd]
 repeat' (first|(with_reducible first|apply qA|apply qB|apply qC|apply qD|apply qE|apply qF)|(refine qL rfl (WF.of ?_) ?_; first|rfl|skip)|(simp (disch:=omega) only [go_sem, simprocAttr, Blk.men, Blk.keysIn])|exact qM rfl rfl rfl|(refine qG rfl ?_)|(refine qK (s1) (by decide) ?_)|(refine qK (s2) (by decide) ?_)|(refine qK (s3) (by decide) ?_)|(refine qK (s4) (by decide) ?_)|(refine qK (h1) (by decide) ?_)|(refine qH rfl ?_)|(refine qI rfl ?_ ?_<;>intro hc<;>(try simp only [go_sem] at hc))|(refine qJ ?_ ?_<;>intro hc<;>(try simp only [hc])<;>(try simp only [go_sem] at hc)))
 refine call_e (Ent.rel 19 rfl) h2 rfl rfl (by decide) ?_
 simp (disch:=omega) only [go_sem,simprocAttr,Blk.men,Blk.keysIn]
 repeat' (first|(with_reducible first|apply qA|apply qB|apply qC|apply qD|apply qE|apply qF)|(refine qL rfl (WF.of ?_) ?_; first|rfl|skip)|(simp (disch:=omega) only [go_sem, simprocAttr, Blk.men, Blk.keysIn])|exact qM rfl rfl rfl|(refine qG rfl ?_)|(refine qK (s5) (by decide) ?_)|(refine qH rfl ?_)|(refine qI rfl ?_ ?_<;>intro hc<;>(try simp only [go_sem] at hc))|(refine qJ ?_ ?_<;>intro hc<;>(try simp only [hc])<;>(try simp only [go_sem] at hc)))
end Go.Dw.Seat
end
