/- Helpers of a proof. -/
import Derived.Test.YtnbgonichmcfaaaW04
set_option linter.unusedVariables false
set_option linter.unusedSimpArgs false
section
namespace Go.Dw
open Go.RowKit
section eq
variable {P : Program} {w : World} {A : Bool → Nat → Prop} {G : Gh}
theorem extract_toArray (l : List Value) (o n : Nat) : (l.toArray.extract o (o + n)) = ((l.drop o).take n).toArray := by
  simp [List.extract_eq_take_drop]
theorem run_part_D [Lays] {t : TypeId} {ti : TI} (h : tyI P t = some ti) (l : List Value) (o : Nat) :
    (ti.agg = true → (part t l.toArray o).run P w = .ok (.agg ((l.drop o).take ti.size).toArray) w) ∧
    (ti.agg = false → ∀ v, l[o]? = some v → (part t l.toArray o).run P w = .ok v w) := by
  refine ⟨fun ha => ?_, fun ha v hv => ?_⟩
  · simp only [part, Sem.run_bind, run_isAgg_D h w, Result.andThen_ok, ha, if_true, run_sizeOf_D h w, Sem.run_pure, extract_toArray]
  · simp only [part, Sem.run_bind, run_isAgg_D h w, Result.andThen_ok, ha, Bool.false_eq_true, if_false]
    simp [hv]
theorem take_one {l : List Value} {o : Nat} {v : Value} {n : Nat} (h : (l.drop o).take n = [v]) : l[o]? = some v := by
  have h1 : ((l.drop o).take n)[0]? = some v := by rw [h]; rfl
  have h2 : ((l.drop o).take n)[0]? = if 0 < n then (l.drop o)[0]? else none := by rw [List.getElem?_take]
  rw [h2] at h1
  split at h1
  · simpa using h1
  · cases h1
def Lies (agg : Bool) (X : Value) (l : List Value) : Prop := (agg = true → X = .agg l.toArray) ∧ (agg = false → l = [X])
theorem eqFields_sound [Lays] (m : Nat) (xv yv : List Value) (ev : TypeId → Option ET)
    (ih : ∀ t e, ev t = some e → ∀ ti, tyI P t = some ti → ∀ xs ys xv yv r X Y, RepDs w A G xs xv → RepDs w A G ys yv → e.eq xs ys = some r → Lies ti.agg X xv → Lies ti.agg Y yv → (Op.equalIn m t X Y).run P w = .ok r w)
    (hsz : ∀ t e, ev t = some e → ∀ ti, tyI P t = some ti → ti.agg = false → ∀ xs ys r, e.eq xs ys = some r → xs.length = 1 ∧ ys.length = 1) :
    ∀ (fs : List Field) (es : List (Nat × Nat × ET)) (xs ys : List D) (r : Bool),
      etFs P ev fs = some es →
      RepDs w A G xs xv → RepDs w A G ys yv → ETs.eq es xs ys = some r → (Op.eqFields m xv.toArray yv.toArray fs).run P w = .ok r w := by
  intro fs
  induction fs with
  | nil =>
    intro es xs ys r hm hx hy hr
    cases hm
    simp only [ETs.eq, Option.some.injEq] at hr
    subst hr
    simp [Op.eqFields]
  | cons f fs ihf =>
    intro es xs ys r hm hx hy hr
    simp only [etFs] at hm
    by_cases hn : f.name = "_"
    · simp [hn] at hm
    · simp only [hn, if_false] at hm
      cases ht : tyI P f.type with
      | none => simp [ht] at hm
      | some ti =>
        cases he : ev f.type with
        | none => simp [ht, he] at hm
        | some e =>
          have hm : ∃ es', etFs P ev fs = some es' ∧ es = (f.offset, ti.size, e) :: es' := by
            simp only [ht, he] at hm
            cases hq : etFs P ev fs with
            | none => simp [hq] at hm
            | some es' => simp only [hq, Option.some.injEq] at hm; exact ⟨es', rfl, hm.symm⟩
          obtain ⟨es', hm', rfl⟩ := hm
          simp only [ETs.eq] at hr
          cases h1 : e.eq ((xs.drop f.offset).take ti.size) ((ys.drop f.offset).take ti.size) with
          | none => simp [h1] at hr
          | some p =>
            cases h2 : ETs.eq es' xs ys with
            | none => simp [h1, h2] at hr
            | some q =>
              simp only [h1, h2, Option.some.injEq] at hr
              subst hr
              have hx' := (hx.drop f.offset).take ti.size
              have hy' := (hy.drop f.offset).take ti.size
              have hr2 := ihf es' xs ys q hm' hx hy h2
              have key : ∀ X Y, (part f.type xv.toArray f.offset).run P w = .ok X w → (part f.type yv.toArray f.offset).run P w = .ok Y w → Lies ti.agg X ((xv.drop f.offset).take ti.size) → Lies ti.agg Y ((yv.drop f.offset).take ti.size) →
                  (Op.eqFields m xv.toArray yv.toArray (f :: fs)).run P w = .ok (p && q) w := by
                intro X Y hX hY lX lY
                have := ih f.type e he ti ht _ _ _ _ p X Y hx' hy' h1 lX lY
                rw [Op.eqFields, if_pos hn]
                simp only [Sem.run_bind, hX, hY, this, Result.andThen_ok]
                cases p
                · simp
                · simpa using hr2
              cases ha : ti.agg with
              | true =>
                exact key _ _ ((run_part_D ht xv f.offset).1 ha) ((run_part_D ht yv f.offset).1 ha) ⟨fun _ => rfl, fun h => by rw [ha] at h; cases h⟩ ⟨fun _ => rfl, fun h => by rw [ha] at h; cases h⟩
              | false =>
                obtain ⟨l1, l2⟩ := hsz f.type e he ti ht ha _ _ _ h1
                have n1 := hx'.length
                have n2 := hy'.length
                rw [l1] at n1; rw [l2] at n2
                obtain ⟨X, hX⟩ := List.length_eq_one_iff.1 n1
                obtain ⟨Y, hY⟩ := List.length_eq_one_iff.1 n2
                exact key X Y ((run_part_D ht xv f.offset).2 ha X (take_one hX)) ((run_part_D ht yv f.offset).2 ha Y (take_one hY)) ⟨fun h => (by rw [ha] at h; cases h), fun _ => hX⟩ ⟨fun h => (by rw [ha] at h; cases h), fun _ => hY⟩
theorem etI_one [Lays] {d : Nat} {t : TypeId} {e : ET} (h : etI P d t = some e) {ti : TI} (ht : tyI P t = some ti) (ha : ti.agg = false) {xs ys : List D} {r : Bool} (hr : e.eq xs ys = some r) : xs.length = 1 ∧ ys.length = 1 := by
  obtain ⟨i, u, z, h1, h2, h3, rfl, _⟩ := tyI_spec ht
  cases d with
  | zero => cases h
  | succ d =>
    simp only [etI, h2] at h
    cases u <;> simp only [reduceCtorEq, Option.some.injEq] at h
    case bool =>
      subst h
      simp only [ET.eq] at hr
      split at hr
      · exact ⟨rfl, rfl⟩
      · cases hr
    case int =>
      subst h
      simp only [ET.eq] at hr
      split at hr
      · exact ⟨rfl, rfl⟩
      · cases hr
    case struct => simp [isAggD] at ha
theorem eq_sound [Lays] : ∀ (d : Nat) (t : TypeId) (e : ET), etI P d t = some e → ∀ m, d ≤ m → ∀ ti, tyI P t = some ti → ∀ xs ys xv yv r X Y, RepDs w A G xs xv → RepDs w A G ys yv → e.eq xs ys = some r → Lies ti.agg X xv → Lies ti.agg Y yv →
    (Op.equalIn m t X Y).run P w = .ok r w := by
  intro d
  induction d with
  | zero => intro t e h; cases h
  | succ d ih =>
    intro t e h m hm ti ht xs ys xv yv r X Y hx hy hr lX lY
    obtain ⟨m, rfl⟩ : ∃ m', m = m' + 1 := ⟨m - 1, by omega⟩
    have ht0 := ht
    obtain ⟨i, u, z, h1, h2, h3, rfl, _⟩ := tyI_spec ht
    simp only [etI, h2] at h
    cases u <;> simp only [reduceCtorEq, Option.some.injEq] at h
    case bool =>
      subst h
      simp only [ET.eq] at hr
      split at hr
      · rename_i p q
        cases hr
        have e1 := lX.2 rfl
        have e2 := lY.2 rfl
        subst e1 e2
        obtain ⟨y1, ys1, e1, r1, _⟩ := hx
        obtain ⟨y2, ys2, e2, r2, _⟩ := hy
        cases e1; cases e2
        rw [show X = .bool p from r1.1, show Y = .bool q from r2.1]
        exact run_equalIn_bool' w m t p q h2
      · cases hr
    case int k0 =>
      subst h
      simp only [ET.eq] at hr
      split at hr
      · rename_i k p k' q
        split at hr
        · rename_i hk
          subst hk
          cases hr
          have e1 := lX.2 rfl
          have e2 := lY.2 rfl
          subst e1 e2
          obtain ⟨y1, ys1, e1, r1, _⟩ := hx
          obtain ⟨y2, ys2, e2, r2, _⟩ := hy
          cases e1; cases e2
          rw [show X = .int k p from r1.1, show Y = .int k q from r2.1]
          exact run_equalIn_int w m t k k0 p q h2
        · cases hr
      · cases hr
    case struct fs =>
      split at h
      · cases h
      · rename_i hst
        simp only [Option.map_eq_some_iff] at h
        obtain ⟨es, hes, rfl⟩ := h
        simp only [ET.eq] at hr
        rw [lX.1 rfl, lY.1 rfl, run_equalIn_struct w m t _ _ (by simp [Program.fieldsOf, h2]) (by simpa using hst)]
        have hf : (P.fieldsOf t).toList = fs.toList := by simp [Program.fieldsOf, h2]
        rw [hf]
        exact eqFields_sound m xv yv (etI P d) (fun t e he ti hti => ih t e he m (by omega) ti hti) (fun t e he ti hti ha xs ys r hr => etI_one he hti ha hr) fs.toList es xs ys r hes hx hy hr
end eq
variable {P : Program} {N O0 : Nat → Prop} {w0 : World} {σ : St} {G : Gh} {a : Act} {w : World}
theorem eqTy_spec {t : TypeId} {e : ET} (h : eqTy P t = some e) : P.eqGuardType P.depth t = false ∧ ∃ ti, tyI P t = some ti ∧ ti.agg = true ∧ etI P 10 t = some e := by
  unfold eqTy at h
  split at h
  · cases h
  · rename_i hg
    split at h
    · rename_i ti hti
      split at h
      · rename_i ha; exact ⟨by simpa using hg, ti, hti, ha, h⟩
      · cases h
    · cases h
theorem blI_spec {t : TypeId} (h : blI P t = true) : P.underlying t = some .bool := by
  unfold blI at h
  split at h
  · assumption
  · cases h
theorem elemI_some {t : TypeId} (h : (elemI P t).isSome = true) : ∃ e, P.underlying t = some (.slice e) := by
  unfold elemI at h
  split at h
  · rename_i e he; exact ⟨e, he⟩
  · cases h
theorem binD_sound [Lays] {A : Bool → Nat → Prop} {op : BinOp} {t : TypeId} {x y : D} {d : D} (h : binD P op t x y = some d) {X Y : Value} (hX : RepD w A G x X) (hY : RepD w A G y Y) (ox oy : Operand) :
    ∃ v, ((eqGuard op t ox oy X Y).run P w).andThen (fun _ w => (binOp op t X Y).run P w) = .ok v w ∧ RepD w A G d v := by
  unfold binD at h
  split at h
  · rename_i k p k' q
    rw [show X = .int k p from hX.1, show Y = .int k' q from hY.1]
    have hg : (eqGuard op t ox oy (.int k p) (.int k' q)).run P w = .ok () w := by cases op <;> simp [eqGuard]
    rw [hg, Result.andThen_ok]
    split at h
    · rename_i hs
      simp only [Option.map_eq_some_iff] at h
      obtain ⟨v, hv, rfl⟩ := h
      exact ⟨v, (shiftBin_run hs hv w t).1, rfl, (shiftBin_run (P := P) (k' := k') hs hv w t).2⟩
    · rename_i hs
      split at h
      · rename_i hk
        subst hk
        simp only [Option.map_eq_some_iff] at h
        obtain ⟨v, hv, rfl⟩ := h
        exact ⟨v, (intBin_run (by simpa using hs) hv w t).1, rfl, (intBin_run (P := P) (by simpa using hs) hv w t).2⟩
      · cases h
  · rename_i p q
    rw [show X = .bool p from hX.1, show Y = .bool q from hY.1]
    split at h
    · rename_i hu
      have hu := blI_spec hu
      cases op <;> simp only [reduceCtorEq, Option.some.injEq] at h
      · subst h
        refine ⟨.bool (p == q), ?_, rfl, rfl⟩
        have := run_equalIn_bool' w 9999 t p q hu
        simp [eqGuard, binOp, Op.equal, Op.maxDepth, this]
      · subst h
        refine ⟨.bool (p != q), ?_, rfl, rfl⟩
        have := run_equalIn_bool' w 9999 t p q hu
        simp [eqGuard, binOp, Op.equal, Op.maxDepth, this, bne]
    · cases h
  · rename_i xs ys
    obtain ⟨X', rfl, hx⟩ := hX
    obtain ⟨Y', rfl, hy⟩ := hY
    split at h
    · rename_i e he
      obtain ⟨hgd, ti, hti, hagg, he⟩ := eqTy_spec he
      have key : ∀ r, e.eq xs ys = some r → (Op.equalIn 10000 t (.agg X') (.agg Y')).run P w = .ok r w := fun r hr =>
        eq_sound 10 t e he 10000 (by omega) ti hti xs ys X'.toList Y'.toList r _ _ hx hy hr ⟨fun _ => rfl, fun h => by rw [hagg] at h; cases h⟩ ⟨fun _ => rfl, fun h => by rw [hagg] at h; cases h⟩
      have hg : (eqGuard op t ox oy (.agg X') (.agg Y')).run P w = .ok () w := run_eqGuard_agg w op t ox oy X' Y' (by simpa using hgd)
      rw [hg, Result.andThen_ok]
      cases op <;> simp only [reduceCtorEq, Option.map_eq_some_iff] at h
      · obtain ⟨r, hr, rfl⟩ := h
        exact ⟨.bool r, by rw [run_eql_struct, key r hr]; rfl, rfl, rfl⟩
      · obtain ⟨r, hr, rfl⟩ := h
        exact ⟨.bool (!r), by rw [run_neq_struct, key r hr]; rfl, rfl, rfl⟩
    · cases h
  · rename_i bw n e es l c
    obtain ⟨a, cap, rfl, hc, hr⟩ := hX
    rw [show Y = .slice none l c from hY.1]
    have ha : ∃ a0, a = some a0 := by
      rcases hr with h0 | ⟨b, off, rfl, _⟩
      · cases h0
      · exact ⟨_, rfl⟩
    obtain ⟨a0, rfl⟩ := ha
    split at h
    · rename_i hu
      obtain ⟨e', hu⟩ := elemI_some hu
      have key : (Op.equalIn 10000 t (.slice (some a0) (e :: es).length cap) (.slice none l c)).run P w = .ok false w := by
        rw [show (10000 : Nat) = 9999 + 1 from rfl, Op.equalIn]
        simp only [Sem.run_bind, run_underlying hu, Result.andThen_ok, Sem.run_pure]
      cases op <;> simp only [reduceCtorEq, Option.some.injEq] at h
      · subst h
        refine ⟨.bool false, ?_, rfl, rfl⟩
        rw [show (eqGuard _ t ox oy _ (.slice none l c)).run P w = .ok () w from rfl, Result.andThen_ok]
        simp only [binOp, Op.equal, Op.maxDepth, Sem.run_bind, key, Result.andThen_ok, Sem.run_pure] <;> rfl
      · subst h
        refine ⟨.bool true, ?_, rfl, rfl⟩
        rw [show (eqGuard _ t ox oy _ (.slice none l c)).run P w = .ok () w from rfl, Result.andThen_ok]
        simp only [binOp, Op.equal, Op.maxDepth, Sem.run_bind, key, Result.andThen_ok, Sem.run_pure] <;> rfl
    · cases h
  · rename_i a l1 c1 l c
    rw [show X = .slice a l1 c1 from hX.1, show Y = .slice none l c from hY.1]
    split at h
    · rename_i hu
      obtain ⟨e', hu⟩ := elemI_some hu
      have key : (Op.equalIn 10000 t (.slice a l1 c1) (.slice none l c)).run P w = .ok a.isNone w := by
        rw [show (10000 : Nat) = 9999 + 1 from rfl, Op.equalIn]
        cases a <;> simp only [Sem.run_bind, run_underlying hu, Result.andThen_ok, Sem.run_pure, Option.isNone]
      cases op <;> simp only [reduceCtorEq, Option.some.injEq] at h
      · subst h
        refine ⟨.bool a.isNone, ?_, rfl, rfl⟩
        rw [show (eqGuard _ t ox oy _ (.slice none l c)).run P w = .ok () w from rfl, Result.andThen_ok]
        simp only [binOp, Op.equal, Op.maxDepth, Sem.run_bind, key, Result.andThen_ok, Sem.run_pure] <;> rfl
      · subst h
        refine ⟨.bool (!a.isNone), ?_, rfl, rfl⟩
        rw [show (eqGuard _ t ox oy _ (.slice none l c)).run P w = .ok () w from rfl, Result.andThen_ok]
        simp only [binOp, Op.equal, Op.maxDepth, Sem.run_bind, key, Result.andThen_ok, Sem.run_pure] <;> rfl
    · cases h
  · cases h
end Go.Dw
end
