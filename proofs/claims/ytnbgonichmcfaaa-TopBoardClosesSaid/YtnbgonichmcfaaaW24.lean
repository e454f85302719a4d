/- Helpers of a proof. -/
import Derived.Test.YtnbgonichmcfaaaW23
import Derived.IntWalk
set_option linter.unusedVariables false
set_option linter.unusedSimpArgs false
section
set_option linter.unusedSimpArgs false
namespace Go.Dw
open Go.IntWalk
abbrev dI (n : Int) : D := .c (.v (.int .i64 n))
def rows {α : Type} (e : α → List C) (l : List α) : List (List C) := l.map e
section
variable {α : Type} {e : α → List C}
theorem rows_length (l : List α) : (rows e l).length = l.length := by simp [rows]
theorem rows_get (l : List α) (i : Nat) : (rows e l)[i]? = (l[i]?).map e := by simp [rows]
theorem rows_append (a b : List α) : rows e a ++ rows e b = rows e (a ++ b) := by simp [rows]
theorem rows_nb (he : ∀ a, C.nbs (e a) = true) : ∀ l : List α, C.nbss (rows e l) = true
  | [] => rfl
  | a :: l => by
    have := rows_nb he l
    simp only [rows] at this
    simp [rows, C.nbss, he, this]
end
def eI (n : Int) : List C := [.v (.int .i64 n)]
theorem eI_nb (n : Int) : C.nbs (eI n) = true := rfl
abbrev dIs (b : Bool) (l : List Int) : D := .c (.sl b 1 (rows eI l))
theorem rowC_nb {n : Nat} {es : List (List C)} (h : C.nbss es = true) : Blk.nb (.row n (rowC es)) = true := by
  have key : ∀ e : List C, C.nbs e = true → D.nbs (e.map D.c) = true := by
    intro e
    induction e with
    | nil => intro _; rfl
    | cons c e ih =>
      intro h
      simp only [C.nbs, Bool.and_eq_true] at h
      simp only [List.map_cons, D.nbs, D.nb, h.1, ih h.2, Bool.and_self]
  simp only [Blk.nb]
  induction es with
  | nil => rfl
  | cons e es ih =>
    simp only [C.nbss, Bool.and_eq_true] at h
    simp only [rowC, List.map_cons, List.all_cons, key e h.1, Bool.true_and]
    exact ih h.2
theorem src_rowC (es : List (List C)) : es.map (fun x => x.map D.c) = rowC es := rfl
attribute [go_sem ↓] src_rowC
theorem rowC_any_mens [Lays] (k : Nat) (es : List (List C)) : (rowC es).any (D.mens k) = false := rowC_men k 0 es
theorem killB_rowC [Lays] (k n : Nat) (es : List (List C)) : killB k (.row n (rowC es)) = .row n (rowC es) := killB_row (rowC_men k n es)
theorem killB_box (k : Nat) (cs : List D) : killB k (.box cs) = .box (cs.map (killD k)) := rfl
theorem killB_nil (k n : Nat) : killB k (.row n []) = .row n [] := rfl
attribute [go_sem] rowC_any_mens killB_rowC killB_box killB_nil killD St.kill
attribute [go_sem] u64_in u32_in i32_in u16_in i8_in i16_in
attribute [go_sem] Int.cast_ofNat_Int Int.natCast_one
attribute [go_sem] relT relX relD relDs relB relDs_c rel_rowC ET.eq ETs.eq wkT_nil wkX_nil
theorem replI (n : Nat) : List.replicate n [C.v (.int .i64 0)] = rows eI (List.replicate n 0) := by simp [rows, eI]
attribute [go_sem] g_u s_make few_true replI
theorem rowC_all_keys [Lays] (bx : List (Nat × Blk)) (es : List (List C)) : (rowC es).all (D.keysIns bx) = true := rowC_keysIn bx 0 es
theorem rowC_set1 (es : List (List C)) (i : Nat) (x : C) : (rowC es).set i [D.c x] = rowC (es.set i [x]) := by simp [rowC, List.map_set]
theorem rows_setI (l : List Int) (i : Nat) (x : Int) : (rows eI l).set i [.v (.int .i64 x)] = rows eI (l.set i x) := by simp [rows, List.map_set, eI]
theorem rows_cons {α : Type} {e : α → List C} (a : α) (l : List α) : rows e (a :: l) = e a :: rows e l := rfl
def nL (l : List Nat) : List Int := l.map fun (n : Nat) => (n : Int)
theorem nL_length (l : List Nat) : (nL l).length = l.length := by simp [nL]
theorem nL_get (l : List Nat) (i : Nat) : (nL l)[i]? = (l[i]?).map fun (n : Nat) => (n : Int) := by simp [nL]
theorem rowC_snocI (l : List Int) (x : Int) : rowC (rows eI l) ++ [[D.c (.v (.int .i64 x))]] = rowC (rows eI (l ++ [x])) := by simp [rowC, rows, eI]
theorem nL_snoc (l : List Nat) (x : Nat) : nL l ++ [(x : Int)] = nL (l ++ [x]) := by simp [nL]
attribute [go_sem] rowC_snocI nL_snoc
attribute [go_sem] foldO max2D min2D gt_iff_lt
theorem map_take {α β : Type} {f : α → β} {l : List α} {i : Nat} {v : α} (h : l[i]? = some v) : (l.take (i + 1)).map f = (l.take i).map f ++ [f v] := by
  rw [List.take_add_one, h, List.map_append]; rfl
theorem nL_set (l : List Nat) (i x : Nat) : (nL l).set i (x : Int) = nL (l.set i x) := by simp [nL, List.map_set]
attribute [go_sem] rowC_all_keys rowC_set1 rows_setI small_true nL_length nL_get nL_set wfS wfB D.keysIn D.keysIns rowC_ok rowC_append rows_append false_or
theorem nn0 (n : Nat) : (0 ≤ (n : Int)) = True := eq_true (Int.natCast_nonneg n)
theorem nn1 (n : Nat) : (0 ≤ (n : Int) + 1) = True := eq_true (by omega)
theorem tn1 (n : Nat) : ((n : Int) + 1).toNat = n + 1 := by omega
theorem nlt0 (n : Nat) : ((n : Int) < 0) = False := eq_false (by omega)
def asc : List Int → Bool
  | a :: b :: l => decide (a < b) && asc (b :: l)
  | _ => true
theorem at_or {α : Type} (l : List α) (i : Nat) (hi : i ≤ l.length) : (∃ v, l[i]? = some v ∧ i < l.length ∧ decide ((i:Int) < (l.length:Int)) = true) ∨ (i = l.length ∧ decide ((i:Int) < (l.length:Int)) = false) := by
  rcases Nat.lt_or_ge i l.length with h | h
  · exact .inl ⟨l[i], by simp [h], h, by simp; omega⟩
  · exact .inr ⟨by omega, by simp; omega⟩
theorem getE {α : Type} {l : List α} {i : Nat} (h : i < l.length) : ∃ v, l[i]? = some v := ⟨l[i], by simp [h]⟩
def idxOf {α : Type} (p : α → Bool) : List α → Option Nat
  | [] => none
  | a :: l => if p a then some 0 else (idxOf p l).map (· + 1)
def idxI {α : Type} (p : α → Bool) (l : List α) : Int := match idxOf p l with
  | some i => i
  | none => -1
theorem idxOf_some {α : Type} {p : α → Bool} : ∀ {l : List α} {i : Nat} {v : α}, (∀ j u, j < i → l[j]? = some u → p u = false) → l[i]? = some v → p v = true → idxOf p l = some i
  | [], _, _, _, h, _ => by simp at h
  | a :: l, 0, v, _, h, hp => by
    simp at h; subst h
    simp [idxOf, hp]
  | a :: l, i + 1, v, h0, h, hp => by
    have h1 := h0 0 a (by omega) (by simp)
    have h2 := idxOf_some (l := l) (i := i) (v := v) (fun j u hj hu => h0 (j + 1) u (by omega) (by simpa using hu)) (by simpa using h) hp
    simp [idxOf, h1, h2]
theorem idxOf_none {α : Type} {p : α → Bool} : ∀ {l : List α}, (∀ j u, j < l.length → l[j]? = some u → p u = false) → idxOf p l = none
  | [], _ => rfl
  | a :: l, h0 => by
    have h1 := h0 0 a (by simp) (by simp)
    have h2 := idxOf_none (l := l) (fun j u hj hu => h0 (j + 1) u (by simp; omega) (by simpa using hu))
    simp [idxOf, h1, h2]
theorem idxOf_any {α : Type} (p : α → Bool) : ∀ l : List α, (idxOf p l).isSome = l.any p
  | [] => rfl
  | a :: l => by
    simp only [idxOf, List.any_cons, ← idxOf_any p l]
    cases h : p a <;> simp
theorem idxI_any [Lays] {α : Type} (p : α → Bool) (l : List α) : decide ((0 : Int) ≤ idxI p l) = l.any p := by
  rw [← idxOf_any]
  unfold idxI
  cases idxOf p l with
  | none => rfl
  | some i => simp
attribute [go_sem] s_move s_assign s_pick s_build s_load s_fieldAddr s_field s_indexAddr s_index s_unOp s_binOp s_convert s_makeFunc s_extract s_len s_max s_min s_alloc0 s_box s_buildSlice s_store s_append s_call s_guard o_nil v_some w_some e_some a_some g_tt g_ff g_tf g_ft q_some q_none quietS quietK evP evA evB evS appD argsD calleeD closeDs closeD closedCs closedEs_rowC St.op St.put St.putO St.putB St.loadAt loadD get ins binD isShift intBin shiftBin lenD idxD addOff storeAt setAt cellsD cellOK menS D.men D.mens mens_mapc rowC_men isSliceTy srcD zeroD chunk fillD true_and and_true Option.map_some Option.map_none Option.isSome_some Option.isSome_none bD iD Bool.false_eq_true Bool.true_eq_false Bool.not_true Bool.not_false true_or or_true then_normal then_ret then_exit block_normal block_ret block_exit loop_normal loop_ret loop_exit Option.getD_some Option.getD_none Value.oneCell' dI ite_true ite_false List.map List.append List.nil_append List.cons_append List.append_nil List.all List.any List.length List.take List.drop List.getElem?_cons_zero List.getElem?_cons_succ List.flatten List.replicate Bool.and_self Bool.or_self Bool.or_false Bool.false_or Bool.and_true Bool.true_and Bool.and_false Bool.false_and rows_length rows_get eI dIs Int.toNat_natCast Int.toNat_zero and_self if_true if_false Nat.zero_le Nat.zero_add Nat.add_zero eq_self nn0 Int.ofNat_zero i64_in u8_in decide_true decide_false beq_self_eq_true bne_self_eq_false rowC_get rowC_length D.nbs D.nb closedEs nn1 tn1 nlt0 Int.add_sub_cancel
attribute [go_sem] decide_eq_true_eq decide_eq_false_iff_not Int.not_lt Int.not_le bne_iff_ne ne_eq beq_iff_eq Bool.not_eq_true Bool.not_eq_false Bool.not_eq_true' bne_eq_false_iff_eq beq_eq_false_iff_ne Bool.not_eq_false' Decidable.not_not
attribute [go_sem] s_copy y_some copyD srcW dstW s_slice s_clear ot_done ot_op ot_lop ot_app ot_sto sto_box app_own app_cl shutEs_rowC ot_alt sliceD sliceC boundD evClear
end Go.Dw
end
