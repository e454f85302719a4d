/- Helpers of a proof. -/
import Derived.Test.YtnbgonichmcfaaaW40
set_option linter.unusedVariables false
set_option linter.unusedSimpArgs false
section
set_option linter.unusedSimpArgs false
namespace Go.Dw
open Go.RowKit
variable {P : Program} {nt : Nat} {tm : List (Nat × D)} {bx : List (Nat × Blk)}
theorem Ent.ofGet [Lays] {bx' : List (Nat × Blk)} (h : ∀ k x, get k bx' = some x → get k bx = some x) : Ent ⟨nt, tm, bx⟩ ⟨nt, tm, bx'⟩ := Ent.forget (fun _ _ hd => .inr hd) h
theorem s_slice3 [Lays] {Q : St → Prop} {dr : Bool} {l : List SO} {d : Tmp} {t : TypeId} {x : Operand} {lo hi : Option Operand} {m : Operand} : opsS P dr Q (⟨some d, .slice t x lo hi (some m), none⟩ :: l) ⟨nt, tm, bx⟩ = (d < nt ∧ opsV P dr Q l d nt tm bx (evP P ⟨nt, tm, bx⟩ (.slice t x lo hi (some m)))) := o_pure rfl
section
variable {w : World} {A A' : Bool → Nat → Prop} {G G' : Gh}
end
inductive LblA : List D → List D → Prop
  | nil : LblA [] []
  | same {d : D} {ds ds' : List D} : LblA ds ds' → LblA (d :: ds) (d :: ds')
  | sl {b b' : Bool} {n : Nat} {es : List (List C)} {ds ds' : List D} : LblA ds ds' → LblA (.c (.sl b n es) :: ds) (.c (.sl b' n es) :: ds')
  | ro {b b' : Bool} {cs : List C} {o : Nat} {ds ds' : List D} : LblA ds ds' → LblA (.c (.ro b cs o) :: ds) (.c (.ro b' cs o) :: ds')
theorem LblA.sound {w : World} {A : Bool → Nat → Prop} {G : Gh} : ∀ {ds ds' : List D}, LblA ds ds' → ∀ {ys : List Value}, RepDs w A G ds ys → RepDs w (fun _ _ => False) G ds' ys := by
  have hk : Keeps w w A (fun _ _ => False) := ⟨Nat.le_refl _, fun _ _ _ _ h => h, fun _ _ _ _ _ => rfl⟩
  intro ds ds' h
  induction h with
  | nil => intro ys h; exact h
  | same _ ih =>
    rintro _ ⟨y, ys, rfl, h1, h2⟩
    exact ⟨y, ys, rfl, RepD.keep hk _ _ h1, ih h2⟩
  | sl _ ih =>
    rintro _ ⟨y, ys, rfl, h1, h2⟩
    refine ⟨y, ys, rfl, ?_, ih h2⟩
    obtain ⟨a, cap, rfl, hc, h3⟩ := RepD.keep hk _ _ h1
    exact ⟨a, cap, rfl, hc, h3.imp id fun ⟨b, off, e, hb, _, hr⟩ => ⟨b, off, e, hb, fun h => h, hr⟩⟩
  | ro _ ih =>
    rintro _ ⟨y, ys, rfl, h1, h2⟩
    refine ⟨y, ys, rfl, ?_, ih h2⟩
    obtain ⟨b, o, rfl, hb, _, hr⟩ := RepD.keep hk _ _ h1
    exact ⟨b, o, rfl, hb, fun h => h, hr⟩
abbrev Memo := List (Nat × Bool)
def mFind : Memo → Nat → Option Bool
  | [], _ => none
  | p :: t, s => if s = p.1 then some p.2 else mFind t s
def mUpd : Memo → Nat → Bool → Memo
  | [], s, b => [(s, b)]
  | p :: t, s, b => if s = p.1 then (s, b) :: t else p :: mUpd t s b
def mK (k : IntKind) (m : Memo) : List Value := m.map fun p => .int k p.1
def mD (m : Memo) : List D := m.map fun p => bD p.2
theorem mK_ok (k : IntKind) (s : Nat) (m : Memo) : keysOK (.int k) (.int k s) (mK k m) = true := by
  simp only [keysOK, KK.is, decide_true, Bool.true_and, mK, List.all_map, List.all_eq_true]
  intro p _
  simp [KK.is]
theorem findL_mK (k : IntKind) (s : Nat) : ∀ (m : Memo) (n : Nat), (match mFind m s with
    | some b => ∃ i, findL (.int k s) (mK k m) n = some (n + i) ∧ (mD m)[i]? = some (bD b) ∧ ∀ c, (mK k m).set i (.int k s) = mK k (mUpd m s c) ∧ (mD m).set i (bD c) = mD (mUpd m s c)
    | none => findL (.int k s) (mK k m) n = none ∧ ∀ c, mK k m ++ [.int k s] = mK k (mUpd m s c) ∧ mD m ++ [bD c] = mD (mUpd m s c))
  | [], n => ⟨rfl, fun c => ⟨rfl, rfl⟩⟩
  | p :: t, n => by
    have ih := findL_mK k s t (n + 1)
    simp only [mFind, mUpd]
    by_cases h : s = p.1
    · rw [if_pos h]
      have hk : keyEq (.int k (s : Int)) (.int k (p.1 : Int)) = true := by simp [keyEq, h]
      refine ⟨0, ?_, rfl, fun c => ?_⟩
      · simp only [mK, List.map_cons, findL, hk, if_true]; rfl
      · simp only [if_pos h]
        exact ⟨rfl, rfl⟩
    · rw [if_neg h]
      have hk : keyEq (.int k (s : Int)) (.int k (p.1 : Int)) = false := by simp [keyEq]; omega
      cases hf : mFind t s with
      | some b =>
        rw [hf] at ih
        obtain ⟨i, h1, h2, h3⟩ := ih
        refine ⟨i + 1, ?_, h2, fun c => ?_⟩
        · have : n + (i + 1) = n + 1 + i := by omega
          rw [this]
          simpa only [mK, List.map_cons, findL, hk, Bool.false_eq_true, if_false] using h1
        · obtain ⟨h4, h5⟩ := h3 c
          simp only [if_neg h]
          exact ⟨by simpa [mK] using h4, by simpa [mD] using h5⟩
      | none =>
        rw [hf] at ih
        obtain ⟨h1, h3⟩ := ih
        refine ⟨by simpa only [mK, List.map_cons, findL, hk, Bool.false_eq_true, if_false] using h1, fun c => ?_⟩
        obtain ⟨h4, h5⟩ := h3 c
        simp only [if_neg h]
        exact ⟨by simpa [mK] using h4, by simpa [mD] using h5⟩
theorem look_mK (k : IntKind) (s : Nat) (m : Memo) (z : D) : lookIn z (mK k m) (mD m) (.int k s) true = some (.tup [match mFind m s with | some b => bD b | none => z, .c (.v (.bool (mFind m s).isSome))]) := by
  have h := findL_mK k s m 0
  unfold lookIn
  cases hf : mFind m s with
  | some b =>
    rw [hf] at h
    obtain ⟨i, h1, h2, _⟩ := h
    rw [Nat.zero_add] at h1
    simp only [h1, h2, commaD, if_true]; rfl
  | none =>
    rw [hf] at h
    simp only [h.1, commaD, if_true]; rfl
theorem upd_mK (k : IntKind) (s : Nat) (m : Memo) (c : Bool) : updK (mK k m) (mD m) (.int k s) (bD c) = (mK k (mUpd m s c), mD (mUpd m s c)) := by
  have h := findL_mK k s m 0
  unfold updK
  cases hf : mFind m s with
  | some b =>
    rw [hf] at h
    obtain ⟨i, h1, h2, h3⟩ := h
    rw [Nat.zero_add] at h1
    simp only [h1, (h3 c).1, (h3 c).2]
  | none =>
    rw [hf] at h
    simp only [h.1, (h.2 c).1, (h.2 c).2]
theorem upd_mK' (k : IntKind) (s : Nat) (m : Memo) (c : Bool) : updK (mK k m) (mD m) (.int k s) (.c (.v (.bool c))) = (mK k (mUpd m s c), mD (mUpd m s c)) := upd_mK k s m c
theorem mD_men (k : Nat) (m : Memo) : D.mens k (mD m) = false := by
  induction m with
  | nil => rfl
  | cons p m ih => simpa [mD, D.mens, D.men, bD] using ih
theorem mD_keys (bx : List (Nat × Blk)) (m : Memo) : D.keysIns bx (mD m) = true := by
  induction m with
  | nil => rfl
  | cons p m ih => simpa [mD, D.keysIns, D.keysIn, bD] using ih
theorem killB_mD [Lays] (k l : Nat) (ks : List Value) (m : Memo) : killB k (.pmap l ks (mD m)) = .pmap l ks (mD m) := by
  show Blk.pmap l ks ((mD m).map (killD k)) = _
  rw [map_killD_of (mD_men k m)]
theorem bm_pmap (k l : Nat) (ks : List Value) (ds : List D) : Blk.men k (.pmap l ks ds) = D.mens k ds := rfl
theorem bk_pmap (bx : List (Nat × Blk)) (l : Nat) (ks : List Value) (ds : List D) : Blk.keysIn bx (.pmap l ks ds) = D.keysIns bx ds := rfl
theorem bm_map (k : Nat) (ks : List Value) (ds : List D) : Blk.men k (.map ks ds) = D.mens k ds := rfl
theorem bk_map (bx : List (Nat × Blk)) (ks : List Value) (ds : List D) : Blk.keysIn bx (.map ks ds) = D.keysIns bx ds := rfl
theorem bk_lp (bx : List (Nat × Blk)) (o : Option (Nat × Loop)) (v : Nat → Value) (tm : List (Nat × D)) : Blk.keysIn bx (.lp o v tm) = tm.all (fun p => p.2.keysIn bx) := rfl
theorem killB_lp (k : Nat) (o : Option (Nat × Loop)) (v : Nat → Value) (tm : List (Nat × D)) : killB k (.lp o v tm) = .lp o v (tm.map fun p => (p.1, killD k p.2)) := rfl
attribute [go_sem] s_slice3 slice3D killB_mD killB_lp bk_lp mK_ok look_mK upd_mK upd_mK' mD_men mD_keys bm_pmap bk_pmap bm_map bk_map
end Go.Dw
end
