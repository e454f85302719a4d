/- Helpers of a proof. -/
import Derived.Test.YtnbgonichmcfaaaW28
set_option linter.unusedVariables false
set_option linter.unusedSimpArgs false
section
set_option linter.unusedSimpArgs false
namespace Go.Dw
open Go.RowKit
variable {P : Program}
mutual
def D.lo : D → Bool
  | .top => true
  | .c _ => true
  | .agg cs => D.los cs
  | .tup cs => D.los cs
  | .box k _ => Nat.blt k 1000
  | .own k => Nat.blt k 1000
  | .elo k _ _ _ => Nat.blt k 1000
  | .win k _ _ _ => Nat.blt k 1000
  | .hd k => Nat.blt k 1000
  | .fn _ fs caps => D.los fs && D.los caps
def D.los : List D → Bool
  | [] => true
  | d :: ds => D.lo d && D.los ds
end
def Blk.lo : Blk → Bool
  | .box cs => D.los cs
  | .row _ es => es.all D.los
  | .lp _ _ tm => tm.all fun p => p.2.lo
  | .map _ ds => D.los ds
  | .pmap _ _ ds => D.los ds
  | .pbox _ ds => D.los ds
mutual
theorem lo_men {k : Nat} (hk : 1000 ≤ k) : ∀ d : D, d.lo = true → d.men k = false
  | .top, _ => rfl
  | .c _, _ => rfl
  | .agg cs, h => los_men hk cs h
  | .tup cs, h => los_men hk cs h
  | .box j _, h => by simp only [D.lo, Nat.blt_eq] at h; simp only [D.men, beq_eq_false_iff_ne]; omega
  | .own j, h => by simp only [D.lo, Nat.blt_eq] at h; simp only [D.men, beq_eq_false_iff_ne]; omega
  | .elo j _ _ _, h => by simp only [D.lo, Nat.blt_eq] at h; simp only [D.men, beq_eq_false_iff_ne]; omega
  | .win j _ _ _, h => by simp only [D.lo, Nat.blt_eq] at h; simp only [D.men, beq_eq_false_iff_ne]; omega
  | .hd j, h => by simp only [D.lo, Nat.blt_eq] at h; simp only [D.men, beq_eq_false_iff_ne]; omega
  | .fn _ fs caps, h => by
    simp only [D.lo, Bool.and_eq_true] at h
    simp only [D.men, los_men hk fs h.1, los_men hk caps h.2, Bool.or_self]
theorem los_men {k : Nat} (hk : 1000 ≤ k) : ∀ ds : List D, D.los ds = true → D.mens k ds = false
  | [], _ => rfl
  | d :: ds, h => by
    simp only [D.los, Bool.and_eq_true] at h
    simp only [D.mens, lo_men hk d h.1, los_men hk ds h.2, Bool.or_self]
end
theorem blo_men [Lays] {k : Nat} (hk : 1000 ≤ k) (x : Blk) (h : x.lo = true) : x.men k = false := by
  cases x with
  | box cs => exact los_men hk cs h
  | map ks cs => exact los_men hk cs h
  | pmap l ks cs => exact los_men hk cs h
  | pbox l cs => exact los_men hk cs h
  | row n es =>
    simp only [Blk.lo, List.all_eq_true] at h
    simp only [Blk.men, List.any_eq_false]
    intro e he; rw [los_men hk e (h e he)]; simp
  | lp o v tm =>
    simp only [Blk.lo, List.all_eq_true] at h
    simp only [Blk.men, List.any_eq_false]
    intro e he; rw [lo_men hk e.2 (h e he)]; simp
def loB (tm : List (Nat × D)) (own : List (Nat × Blk)) : Bool := tm.all (fun p => p.2.lo) && own.all (fun p => Nat.blt p.1 1000 && p.2.lo)
theorem loB_spec [Lays] {nt : Nat} {tm : List (Nat × D)} {own : List (Nat × Blk)} (h : loB tm own = true) : ∀ k, 1000 ≤ k → get k own = none ∧ St.men k ⟨nt, tm, own⟩ = false := by
  intro k hk
  simp only [loB, Bool.and_eq_true, List.all_eq_true, Nat.blt_eq] at h
  constructor
  · cases hg : get k own with
    | none => rfl
    | some x =>
      have := (h.2 _ (get_mem hg)).1
      dsimp only at this
      omega
  · simp only [St.men, Bool.or_eq_false_iff, List.any_eq_false]
    exact ⟨fun p hp => by rw [lo_men hk p.2 (h.1 p hp)]; simp, fun p hp => by rw [blo_men hk p.2 (h.2 p hp).2]; simp⟩
theorem call_y [Lays] {Q : St → Prop} {l : List SO} {d : Tmp} {f : Operand} {args : Array Operand} {tys : Array TypeId} {ly nt : Nat} {as : List D} {tm : List (Nat × D)} {own h h' : List (Nat × Blk)} {r : D} {o : Option (FuncId × List D)}
    (hy : YCall P ly as h r h') (hf : St.op ⟨nt, tm, own ++ h⟩ f = .c (.fn (.yield ly) [] [])) (hcl : closeDs ⟨nt, tm, own⟩ none (args.toList.map (St.op ⟨nt, tm, own ++ h⟩)) = some as)
    (hlo : loB tm own = true) (hh : HidOk h) (hh' : HidOk h') (hd : d < nt) (hQ : opsS P false Q l ⟨nt, ins d r tm, own ++ h'⟩) : opsC P false Q l d f args tys ⟨nt, tm, own ++ h⟩ o := fun _ =>
  ⟨_, ⟨fun t ht => (by cases ht; exact hd), .inr ⟨rfl, .inl ⟨ly, as, own, h, r, h', hf, hcl, hy, rfl, loB_spec hlo, fun k hk => ⟨hh.lo k hk, hh'.lo k hk⟩, rfl⟩⟩⟩, .inl rfl, hQ⟩
theorem retS_hid [Lays] {e : Exit} {own h : List (Nat × Blk)} {nt : Nat} {tm : List (Nat × D)} (he : e = .ret ∨ e = .normal) (hh : HidOk h) (hlo : loB [] own = true) : retS P [] (.tup []) h e ⟨nt, tm, own ++ h⟩ :=
  ⟨he, _, [], Ent.refl _, rfl, .refl _, rfl, fun k x hk => ⟨by
    rw [get_append]
    have : get k own = none := (loB_spec (nt := 0) (tm := []) hlo k (by
      rcases Nat.lt_or_ge k 1000 with h1 | h1
      · rw [hh.lo k h1] at hk; cases hk
      · exact h1)).1
    rw [this]; exact hk, hh.nb k x hk⟩⟩
theorem HidOk.res {h : List (Nat × Blk)} (hh : HidOk h) : okRes (.tup []) h := ⟨fun _ _ => rfl, hh.ok⟩
theorem sliceB_pos {σ : St} {n : Nat} {x : D} {len l h : Int} (hc : 0 ≤ l ∧ l ≤ h ∧ h ≤ len) : sliceB σ n x len (some l) (some h) = sliceC σ n l.toNat h.toNat x := if_pos hc
theorem rows_take {α : Type} {e : α → List C} (l : List α) (k : Nat) : (rows e l).take k = rows e (l.take k) := by simp [rows, List.map_take]
theorem rows_drop {α : Type} {e : α → List C} (l : List α) (k : Nat) : (rows e l).drop k = rows e (l.drop k) := by simp [rows, List.map_drop]
theorem rowC_take (l : List (List C)) (k : Nat) : (rowC l).take k = rowC (l.take k) := by simp [rowC, List.map_take]
theorem rowC_drop (l : List (List C)) (k : Nat) : (rowC l).drop k = rowC (l.drop k) := by simp [rowC, List.map_drop]
attribute [go_sem] sliceB_pos rows_take rows_drop rowC_take rowC_drop
theorem killB_row1 (k n : Nat) (e : List D) : killB k (.row n [e]) = .row n [e.map (killD k)] := rfl
theorem killB_row2 (k n : Nat) (e e' : List D) : killB k (.row n [e, e']) = .row n [e.map (killD k), e'.map (killD k)] := rfl
attribute [go_sem] List.take_length
attribute [go_sem] killB_row1 killB_row2 List.any_append List.map_append
end Go.Dw
end
