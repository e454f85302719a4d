/- Helpers of a proof. -/
import Derived.Test.YtnbgonichmcfaaaW06
import Derived.Laws.Slices
import Derived.ChangeKeysEq
set_option linter.unusedVariables false
set_option linter.unusedSimpArgs false
section
namespace Go.Dw
open Go.RowKit
variable {P : Program} {N O0 : Nat → Prop} {w0 : World} {σ : St} {G : Gh} {a : Act} {w : World}
theorem cell_of_cells {w : World} {b : Nat} {arr : Array Value} {E : TypeId} {fr : Nat × Nat} (h : w.heap[b]? = some (.cells arr E fr)) (j : Nat) : w.cell? ⟨b, j, none⟩ = arr.toList[j]? := by
  simp [World.cell?, h]
theorem loadAt_sound [Lays] (h : Core N O0 w0 σ G a w) {t : TypeId} {ti : TI} (ht : tyI P t = some ti) {x d : D} {X : Value} (hx : RepD w (Av N G σ.bx) G x X) (hd : σ.loadAt ti x = some d) :
    ∃ v, (Instr.loadAt t X).run P w = .ok v w ∧ RepD w (Av N G σ.bx) G d v := by
  unfold St.loadAt at hd
  split at hd
  · rename_i k off
    split at hd
    · rename_i cs hk
      obtain ⟨b, hb, rfl⟩ := hx
      obtain ⟨b', arr, E, hb', hh, hr⟩ := h.rep k _ hk
      rw [hb] at hb'; cases hb'
      obtain ⟨v, hv, hrv⟩ := run_loadVar_D (P := P) ht hr (b := b) (o := 0) (fun j v hj => by rw [cell_of_cells hh, Nat.zero_add]; exact hj) hd
      rw [Nat.zero_add] at hv
      exact ⟨v, by simpa [Instr.loadAt, Instr.sureAddr] using hv, hrv⟩
    · cases hd
  · rename_i k n i off
    split at hd
    · rename_i n' es hk
      split at hd
      · rename_i hn
        subst hn
        split at hd
        · rename_i e he
          split at hd
          · rename_i hle
            obtain ⟨b, hb, rfl⟩ := hx
            obtain ⟨hlen, ⟨hnil, _⟩ | ⟨b', arr, E, cap, hb', hh, hγ, hc, hs, hr⟩⟩ := h.rep k _ hk
            · subst hnil; simp at he
            · rw [hb] at hb'; cases hb'
              have hre := row_elem hlen hr he
              obtain ⟨v, hv, hrv⟩ := run_loadVar_D (P := P) ht hre (b := b) (o := i * n) (fun j v hj => by
                rw [cell_of_cells hh]
                rw [List.getElem?_take] at hj
                split at hj
                · rw [List.getElem?_drop] at hj; exact hj
                · cases hj) hd
              exact ⟨v, by simpa [Instr.loadAt, Instr.sureAddr] using hv, hrv⟩
          · cases hd
        · cases hd
      · cases hd
    · cases hd
  · rename_i bw cs off
    obtain ⟨b, o, rfl, _, _, hcs⟩ := hx
    obtain ⟨ys, hys, hcell⟩ := hcs.vals
    obtain ⟨v, hv, hrv⟩ := run_loadVar_D (P := P) (G := G) ht (RepDs.ofVs hys) (b := b) (o := o) hcell hd
    exact ⟨v, by simpa [Instr.loadAt, Instr.sureAddr] using hv, hrv⟩
  · rename_i l off
    split at hd
    · rename_i k cs hk
      obtain ⟨rfl, _⟩ := hx
      obtain ⟨b', arr, E, ⟨hb', rfl⟩, hh, hr⟩ := h.rep k _ (pget_spec hk)
      obtain ⟨v, hv, hrv⟩ := run_loadVar_D (P := P) ht hr (b := b') (o := 0) (fun j v hj => by rw [cell_of_cells hh, Nat.zero_add]; exact hj) hd
      rw [Nat.zero_add] at hv
      exact ⟨v, by simpa [Instr.loadAt, Instr.sureAddr] using hv, hrv⟩
    · cases hd
  · cases hd
def KK.fits (P : Program) (t : TypeId) : KK → Prop
  | .int k => P.underlying t = some (.int k)
  | .bool => P.underlying t = some .bool
  | .arr k n => ∃ e i, P.underlying t = some (.array n e) ∧ P.underlying e = some (.int k) ∧ P.info? e = some i ∧ P.cellsOf e = 1
theorem isIntV_spec {k : IntKind} {v : Value} (h : isIntV k v = true) : ∃ a, v = .int k a := by
  cases v <;> simp_all [isIntV]
theorem eqVs_iff {k : IntKind} : ∀ {a b : List Value}, a.all (isIntV k) = true → b.all (isIntV k) = true → (eqVs a b = true ↔ a = b)
  | [], [], _, _ => by simp [eqVs]
  | [], _ :: _, _, _ => by simp [eqVs]
  | x :: _, [], _, _ => by cases x <;> simp [eqVs]
  | x :: a, y :: b, ha, hb => by
    simp only [List.all_cons, Bool.and_eq_true] at ha hb
    obtain ⟨u, rfl⟩ := isIntV_spec ha.1
    obtain ⟨v, rfl⟩ := isIntV_spec hb.1
    simp [eqVs, eqVs_iff ha.2 hb.2]
theorem keyEq_iff {kk : KK} {x y : Value} (hx : kk.is x = true) (hy : kk.is y = true) : keyEq x y = true ↔ x = y := by
  cases kk with
  | arr k n =>
    cases x <;> cases y <;> simp_all only [KK.is, Bool.false_eq_true]
    rename_i a b
    simp only [Bool.and_eq_true, decide_eq_true_eq] at hx hy
    rw [keyEq, eqVs_iff hx.2 hy.2]
    simp
  | _ => cases x <;> cases y <;> simp_all [KK.is, keyEq]
theorem kkI_spec {t : TypeId} {kk : KK} (h : kkI P t = some kk) : kk.fits P t := by
  unfold kkI at h
  split at h
  · cases h; assumption
  · cases h; assumption
  · rename_i n e hu
    split at h
    · rename_i k he
      split at h
      · rename_i hc
        cases h
        obtain ⟨i, hi⟩ := info_of_underlying he
        exact ⟨e, i, hu, he, hi, hc⟩
      · cases h
    · cases h
  · cases h
def eqO : Option Value → Option Value → Bool
  | some (.int _ a), some (.int _ b) => a == b
  | _, _ => false
theorem run_items {e : TypeId} {k : IntKind} {i : TypeInfo} (he : P.underlying e = some (.int k)) (hi : P.info? e = some i) (hc : P.cellsOf e = 1) (xs ys : Array Value) (w : World) (d : Nat) : ∀ (is : List Nat), (∀ j ∈ is, ∃ a b, xs[j]? = some (.int k a) ∧ ys[j]? = some (.int k b)) →
    (Op.eqItems (d + 1) e (P.cellsOf e) xs ys is).run P w = .ok (is.all fun j => eqO xs[j]? ys[j]?) w
  | [], _ => by simp [Op.eqItems]
  | j :: is, h => by
    obtain ⟨a, b, ha, hb⟩ := h j (by simp)
    have hp : P.plainKey e = true := by simp [Program.plainKey, he]
    have h1 := run_part_plain (P := P) w hp (xs := xs) (off := j * P.cellsOf e) (v := .int k a) (by rw [hc, Nat.mul_one]; exact ha)
    have h2 := run_part_plain (P := P) w hp (xs := ys) (off := j * P.cellsOf e) (v := .int k b) (by rw [hc, Nat.mul_one]; exact hb)
    have h3 := run_equalIn_int (P := P) w d e k k a b he
    have ih := run_items he hi hc xs ys w d is (fun j hj => h j (by simp [hj]))
    simp only [Op.eqItems, Sem.run_bind, h1, h2, h3, Result.andThen_ok, List.all_cons, ha, hb]
    cases hab : a == b
    · simp [eqO, hab]
    · simp [eqO, hab, ih]
theorem eqVs_all {k : IntKind} : ∀ {a b : List Value}, a.length = b.length → a.all (isIntV k) = true → b.all (isIntV k) = true → eqVs a b = (List.range a.length).all fun j => eqO a[j]? b[j]? := fun {a b} hl ha hb => by
  rw [Bool.eq_iff_iff, eqVs_iff ha hb, List.all_eq_true]
  have hg : ∀ {c : List Value}, c.all (isIntV k) = true → ∀ j, j < c.length → ∃ u, c[j]? = some (.int k u) := fun {c} hc j hj => by
    obtain ⟨u, hu⟩ := isIntV_spec (List.all_eq_true.1 hc c[j] (by simp))
    exact ⟨u, by rw [List.getElem?_eq_getElem hj, hu]⟩
  constructor
  · rintro rfl j hj
    obtain ⟨u, hu⟩ := hg ha j (List.mem_range.1 hj)
    rw [hu]; simp [eqO]
  · intro h
    apply List.ext_getElem?
    intro j
    by_cases hj : j < a.length
    · obtain ⟨u, hu⟩ := hg ha j hj
      obtain ⟨v, hv⟩ := hg hb j (by omega)
      have := h j (List.mem_range.2 hj)
      rw [hu, hv] at this ⊢
      simp only [eqO, beq_iff_eq] at this
      rw [this]
    · rw [List.getElem?_eq_none (by omega), List.getElem?_eq_none (by omega)]
theorem run_equal_key {kt : TypeId} {k : IntKind} {n : Nat} (hu : KK.fits P kt (.arr k n)) {x y : Value} (hx : KK.is (.arr k n) x = true) (hy : KK.is (.arr k n) y = true) (w : World) : (Op.equal kt x y).run P w = .ok (keyEq x y) w := by
  obtain ⟨e, i, h1, h2, h3, h4⟩ := hu
  cases x <;> simp_all only [KK.is, Bool.false_eq_true]
  cases y <;> simp_all only [KK.is, Bool.false_eq_true]
  rename_i a b
  simp only [Bool.and_eq_true, decide_eq_true_eq] at hx hy
  have hg : ∀ (c : Array Value), c.size = n → c.toList.all (isIntV k) = true → ∀ j ∈ List.range n, ∃ u, c[j]? = some (.int k u) := fun c hs hc j hj => by
    have hj := List.mem_range.1 hj
    obtain ⟨u, hu⟩ := isIntV_spec (List.all_eq_true.1 hc c[j] (by simp))
    exact ⟨u, by rw [Array.getElem?_eq_getElem (by omega), hu]⟩
  have hr := run_items h2 h3 h4 a b w 9998 (List.range n) (fun j hj => by
    obtain ⟨u, hu⟩ := hg a hx.1 hx.2 j hj
    obtain ⟨v, hv⟩ := hg b hy.1 hy.2 j hj
    exact ⟨u, v, hu, hv⟩)
  rw [Op.equal, Op.maxDepth, show (10000 : Nat) = 9999 + 1 from rfl, run_equalIn_array w 9999 a b h1 h3, hr, keyEq, eqVs_all (by simp [hx.1, hy.1]) hx.2 hy.2]
  simp [hx.1]
theorem run_check {kt : TypeId} {kk : KK} (hu : kk.fits P kt) {x : Value} (hx : kk.is x = true) (em : Bool) (w : World) : (Instr.checkKey em 10000 kt x).run P w = .ok () w := by
  cases kk with
  | int k =>
    have hu : P.underlying kt = some (.int k) := hu
    exact MapKept.run_checkKey (w := w) hu (by cases x <;> simp_all [KK.is, MapKept.IsKey]) em 9999
  | bool =>
    have hu : P.underlying kt = some .bool := hu
    exact MapKept.run_checkKey (w := w) hu (by cases x <;> simp_all [KK.is, MapKept.IsKey]) em 9999
  | arr k n =>
    obtain ⟨e, i, h1, h2, h3, h4⟩ := hu
    cases x <;> simp_all only [KK.is, Bool.false_eq_true]
    rename_i a
    simp only [Bool.and_eq_true, decide_eq_true_eq] at hx
    rw [show (10000 : Nat) = 9999 + 1 from rfl, Instr.checkKey]
    simp only [Sem.run_bind, run_underlying h1, Result.andThen_ok]
    simp only [Std.Legacy.Range.forIn_eq_forIn_range', Std.Legacy.Range.size, Nat.sub_zero, Nat.add_one_sub_one, Nat.div_one]
    have hall : ∀ j ∈ List.range' 0 n, ∃ u, a[j]? = some (.int k u) := fun j hj => by
      rw [List.mem_range'_1] at hj
      obtain ⟨u, hu⟩ := isIntV_spec (List.all_eq_true.1 hx.2 a[j] (by simp))
      exact ⟨u, by rw [Array.getElem?_eq_getElem (by omega), hu]⟩
    have hp : P.plainKey e = true := by simp [Program.plainKey, h2]
    generalize List.range' 0 n = is at hall
    induction is with
    | nil => simp
    | cons j is ih =>
      obtain ⟨u, hu⟩ := hall j (by simp)
      have p1 := run_part_plain (P := P) w hp (xs := a) (off := j * P.cellsOf e) (v := .int k u) (by rw [h4, Nat.mul_one]; exact hu)
      have p2 : (Instr.checkKey em 9999 e (.int k u)).run P w = .ok () w := MapKept.run_checkKey (w := w) h2 (by simp [MapKept.IsKey]) em 9998
      simp only [List.forIn_cons, Sem.run_bind, run_sizeOf w h3, Result.andThen_ok, p1, p2, Sem.run_pure]
      exact ih (fun y hy => hall y (by simp [hy]))
theorem zeroI_spec [Lays] {t : TypeId} {d : D} (h : zeroI P t = some d) (w : World) : ∃ z, (zeroValue t).run P w = .ok z w ∧ ∀ (A : Bool → Nat → Prop) (G : Gh), RepD w A G d z := by
  unfold zeroI at h
  have key : ∀ z, (P.info? t).bind (·.zero) = some z → (zeroValue t).run P w = .ok z w := by
    intro z hz
    obtain ⟨i, hi, hz⟩ := Option.bind_eq_some_iff.1 hz
    simp [zeroValue, typeInfo, hi, hz]
  split at h
  · rename_i cs hz
    split at h
    · rename_i h1
      cases h
      exact ⟨_, key _ hz, fun A G => ⟨cs, rfl, RepDs.ofVals _ h1⟩⟩
    · cases h
  · rename_i z hz
    split at h
    · rename_i h1
      cases h
      exact ⟨_, key _ hz, fun A G => ⟨rfl, h1⟩⟩
    · cases h
  · cases h
theorem mapI_spec [Lays] {t : TypeId} {z : D} {kk : KK} (h : mapI P t = some (z, kk)) : ∃ k e, P.underlying t = some (.map k e) ∧ kk.fits P k ∧ zeroI P e = some z := by
  unfold mapI at h
  split at h
  · rename_i k e hu
    split at h
    · rename_i kk' z' h1 h2
      cases h
      exact ⟨k, e, hu, kkI_spec h1, h2⟩
    · cases h
  · cases h
theorem mapAt_sound [Lays] (h : Core N O0 w0 σ G a w) {m : D} {M : Value} (hm : RepD w (Av N G σ.bx) G m M) {ks : List Value} {ds : List D} (he : mapAt σ.bx m = some (ks, ds)) :
    ∃ r ents clk, M = .map (some r) ∧ w.heap[r]? = some (.map ents clk) ∧ ents.toList.map (·.key) = ks ∧ RepDs w (Av N G σ.bx) G ds (ents.toList.map (·.val)) := by
  unfold mapAt at he
  split at he
  · rename_i l
    split at he
    · rename_i k ks' ds' hg
      cases he
      obtain ⟨rfl, _⟩ := hm
      obtain ⟨b, ents, clk, ⟨hb, rfl⟩, hh, h1, h2⟩ := h.rep k _ (mget_spec hg)
      exact ⟨b, ents, clk, rfl, hh, h1, h2⟩
    · cases he
  · rename_i k
    split at he
    · rename_i ks' ds' hg
      cases he
      obtain ⟨b, hb, rfl⟩ := hm
      obtain ⟨b', ents, clk, hb', hh, h1, h2⟩ := h.rep k _ hg
      rw [hb] at hb'; cases hb'
      exact ⟨b, ents, clk, rfl, hh, h1, h2⟩
    · cases he
  · cases he
theorem find_run [Lays] {kt : TypeId} {kk : KK} (hu : kk.fits P kt) {x : Value} {ents : Array MapEntry} (hok : keysOK kk x (ents.toList.map (·.key)) = true) (w : World) :
    (findL x (ents.toList.map (·.key)) 0 = none ∧ (Instr.findKey kt x ents.toList).run P w = .ok none w) ∨
    ∃ i e, findL x (ents.toList.map (·.key)) 0 = some i ∧ ents.toList[i]? = some e ∧ e.key = x ∧ (Instr.findKey kt x ents.toList).run P w = .ok (some (i, e.val)) w := by
  simp only [keysOK, Bool.and_eq_true, List.all_eq_true, List.mem_map, forall_exists_index, and_imp, forall_apply_eq_imp_iff₂] at hok
  have now : ∀ (d : TypeDesc), P.underlying kt = some d → (∀ v, kk.is v = true → MapKept.IsKey d v) → (findL x (ents.toList.map (·.key)) 0 = none ∧ (Instr.findKey kt x ents.toList).run P w = .ok none w) ∨
    ∃ i e, findL x (ents.toList.map (·.key)) 0 = some i ∧ ents.toList[i]? = some e ∧ e.key = x ∧ (Instr.findKey kt x ents.toList).run P w = .ok (some (i, e.val)) w := fun d hd hkey => by
    have hn : ∀ (l : List MapEntry) (n : Nat), (∀ e ∈ l, kk.is e.key = true) →
        (findL x (l.map (·.key)) n = none ∧ Instr.findNow d x l n = some none) ∨ ∃ j e, findL x (l.map (·.key)) n = some (n + j) ∧ l[j]? = some e ∧ e.key = x ∧ Instr.findNow d x l n = some (some (n + j, e.val)) := by
      intro l
      induction l with
      | nil => exact fun _ _ => .inl ⟨rfl, rfl⟩
      | cons e l ih =>
        intro n hl
        have hk := hl e (by simp)
        obtain ⟨r, hr, hiff⟩ := MapKept.sameNow_of_keys (hkey _ hok.1) (hkey _ hk)
        have hke := keyEq_iff hok.1 hk
        cases r with
        | true =>
          have e1 := hiff.1 rfl
          exact .inr ⟨0, e, by simp [findL, hke.2 e1], rfl, e1.symm, by simp [Instr.findNow, hr]⟩
        | false =>
          have hne : keyEq x e.key = false := by
            cases hq : keyEq x e.key with
            | false => rfl
            | true => have := hiff.2 (hke.1 hq); cases this
          rcases ih (n + 1) (fun e' he => hl e' (by simp [he])) with ⟨h1, h2⟩ | ⟨j, e', h1, h2, h3, h4⟩
          · exact .inl ⟨by simp [findL, hne, h1], by simp [Instr.findNow, hr, h2]⟩
          · exact .inr ⟨j + 1, e', by simp [findL, hne, h1]; omega, by simpa using h2, h3, by simp [Instr.findNow, hr, h4]; omega⟩
    rcases hn ents.toList 0 hok.2 with ⟨h1, h2⟩ | ⟨j, e, h1, h2, h3, h4⟩
    · exact .inl ⟨h1, MapKept.run_findKey hd h2⟩
    · exact .inr ⟨j, e, by simpa using h1, h2, h3, MapKept.run_findKey hd (by simpa using h4)⟩
  cases kk with
  | int k => exact now _ hu (fun v hv => by cases v <;> simp_all [KK.is, MapKept.IsKey])
  | bool => exact now _ hu (fun v hv => by cases v <;> simp_all [KK.is, MapKept.IsKey])
  | arr k n =>
    have hask : ∀ (l : List MapEntry) (m : Nat), (∀ e ∈ l, KK.is (.arr k n) e.key = true) →
        (findL x (l.map (·.key)) m = none ∧ (Instr.findAsking kt x l m).run P w = .ok none w) ∨ ∃ j e, findL x (l.map (·.key)) m = some (m + j) ∧ l[j]? = some e ∧ e.key = x ∧ (Instr.findAsking kt x l m).run P w = .ok (some (m + j, e.val)) w := by
      intro l
      induction l with
      | nil => exact fun _ _ => .inl ⟨rfl, by simp [Instr.findAsking]⟩
      | cons e l ih =>
        intro m hl
        have hk := hl e (by simp)
        have hr := run_equal_key hu hok.1 hk w
        have hke := keyEq_iff hok.1 hk
        cases hq : keyEq x e.key with
        | true => exact .inr ⟨0, e, by simp [findL, hq], rfl, (hke.1 hq).symm, by simp [Instr.findAsking, hr, hq, Result.andThen_ok]⟩
        | false =>
          rcases ih (m + 1) (fun e' he => hl e' (by simp [he])) with ⟨h1, h2⟩ | ⟨j, e', h1, h2, h3, h4⟩
          · exact .inl ⟨by simp [findL, hq, h1], by simp [Instr.findAsking, hr, hq, h2, Result.andThen_ok]⟩
          · exact .inr ⟨j + 1, e', by simp [findL, hq, h1]; omega, by simpa using h2, h3, by simp [Instr.findAsking, hr, hq, h4, Result.andThen_ok]; omega⟩
    obtain ⟨e0, i0, hu1, _, _, _⟩ := hu
    have hfk : (Instr.findKey kt x ents.toList).run P w = (Instr.findAsking kt x ents.toList 0).run P w := by
      cases hents : ents.toList with
      | nil => simp [Instr.findKey, run_underlying hu1, Result.andThen, Instr.findNow, Instr.findAsking]
      | cons e l =>
        have : Instr.findNow (.array n e0) x (e :: l) 0 = none := by simp [Instr.findNow, Instr.sameNow]
        simp [Instr.findKey, run_underlying hu1, Result.andThen, this]
    rw [hfk]
    rcases hask ents.toList 0 hok.2 with ⟨h1, h2⟩ | ⟨j, e, h1, h2, h3, h4⟩
    · exact .inl ⟨h1, h2⟩
    · exact .inr ⟨j, e, by simpa using h1, h2, h3, by simpa using h4⟩
theorem valsC_spec {A : Bool → Nat → Prop} : ∀ {ds : List D} {l : List Value} {ys : List Value}, valsC ds = some l → RepDs w A G ds ys → ys = l
  | [], l, ys, h, hr => by cases h; exact hr
  | d :: ds, l, ys, h, hr => by
    obtain ⟨y, ys', rfl, h1, h2⟩ := hr
    unfold valsC at h
    split at h
    · cases ‹d :: ds = []›
    · rename_i x ds' e
      cases e
      obtain ⟨l', hl, rfl⟩ := Option.map_eq_some_iff.1 h
      obtain ⟨rfl, _⟩ := h1
      rw [valsC_spec hl h2]
    · cases h
theorem keyD_spec {A : Bool → Nat → Prop} {d : D} {x y : Value} (h : keyD d = some x) (hr : RepD w A G d y) : y = x := by
  unfold keyD at h
  split at h
  · cases h; exact hr.1
  · obtain ⟨l, hl, rfl⟩ := Option.map_eq_some_iff.1 h
    obtain ⟨c, rfl, hc⟩ := hr
    rw [← valsC_spec hl hc]
  · cases h
theorem lookup_sound [Lays] (h : Core N O0 w0 σ G a w) {t : TypeId} {m i d : D} {M I : Value} {ok : Bool} (hm : RepD w (Av N G σ.bx) G m M) (hi : RepD w (Av N G σ.bx) G i I) (hd : lookD P σ.bx t m i ok = some d) :
    ∃ v, (Instr.lookup t M I ok).run P w = .ok v w ∧ RepD w (Av N G σ.bx) G d v := by
  unfold lookD at hd
  split at hd
  · rename_i z kk x ht hkx
    obtain ⟨kt, et, hu, huk, hz⟩ := mapI_spec ht
    obtain rfl := keyD_spec hkx hi
    split at hd
    · rename_i ks ds hma
      obtain ⟨r, ents, clk, rfl, hh, rfl, hr⟩ := mapAt_sound h hm hma
      split at hd
      · rename_i hok
        have hkey : kk.is I = true := by simp only [keysOK, Bool.and_eq_true] at hok; exact hok.1
        have hck : (Instr.checkKey ents.isEmpty 10000 kt I).run P w = .ok () w := run_check huk hkey ents.isEmpty w
        unfold lookIn at hd
        rcases find_run huk hok w with ⟨h1, h2⟩ | ⟨j, e, h1, h2, h3, h4⟩
        · rw [h1] at hd
          cases hd
          obtain ⟨zv, hzr, hzd⟩ := zeroI_spec hz w
          refine ⟨if ok then .tuple #[zv, .bool false] else zv, ?_, ?_⟩
          · simp only [Instr.lookup, Sem.run_bind, run_underlying hu, Result.andThen_ok, MapKept.run_getObj_map hh, Sem.run_pure, hck, h2, hzr]
          · unfold commaD; cases ok
            · exact hzd _ _
            · exact ⟨_, rfl, _, _, rfl, hzd _ _, _, _, rfl, ⟨rfl, rfl⟩, rfl⟩
        · rw [h1] at hd
          dsimp only at hd
          split at hd
          · rename_i d' hd'
            cases hd
            obtain ⟨y, hy, hry⟩ := hr.get hd'
            have hye : y = e.val := by
              rw [List.getElem?_map, h2] at hy; cases hy; rfl
            subst hye
            refine ⟨if ok then .tuple #[e.val, .bool true] else e.val, ?_, ?_⟩
            · simp only [Instr.lookup, Sem.run_bind, run_underlying hu, Result.andThen_ok, MapKept.run_getObj_map hh, Sem.run_pure, hck, h4]
            · unfold commaD; cases ok
              · exact hry
              · exact ⟨_, rfl, _, _, rfl, hry, _, _, rfl, ⟨rfl, rfl⟩, rfl⟩
          · cases hd
      · cases hd
    · cases hd
  · cases hd
theorem fieldAddr_sound [Lays] {t : TypeId} {f : Nat} {r : Nat × Nat × Bool} (hf : fieldI P t f = some r) {x d : D} {X : Value} {A : Bool → Nat → Prop} (hx : RepD w A G x X) (hd : addOff r.1 x = some d) :
    ∃ v, (Instr.fieldAt t X f).run P w = .ok v w ∧ RepD w A G d v := by
  obtain ⟨fs, fl, ti, hu, hfl, hti, hne, rfl⟩ := fieldI_spec hf
  obtain ⟨b, o, rfl, hr⟩ := addOff_sound hd hx
  refine ⟨_, ?_, hr⟩
  simp [Instr.fieldAt, Instr.sureAddr, run_underlying hu, hfl, fieldPlace, run_sizeOf_D hti, hne, Addr.add_mk]
theorem idx_sound [Lays] (h : Core N O0 w0 σ G a w) {t : TypeId} {x i d : D} {X I : Value} (hx : RepD w (Av N G σ.bx) G x X) (hi : RepD w (Av N G σ.bx) G i I) (hd : idxD P σ t x i = some d) :
    ∃ v, (Instr.indexAt t X I).run P w = .ok v w ∧ RepD w (Av N G σ.bx) G d v := by
  unfold idxD at hd
  split at hd
  · rename_i kk n
    rw [show I = .int kk n from hi.1]
    split at hd
    · rename_i e he
      have hu := elemI_spec he
      split at hd
      · rename_i ti hti
        split at hd
        · rename_i bw m es
          split at hd
          · rename_i hm
            split at hd
            · rename_i e1 he1
              cases hd
              obtain ⟨a0, cap, rfl, _, hnil | ⟨b, off, rfl, hb, ha, hes⟩⟩ := hx
              · subst hnil; simp at he1
              · have hlt : n.toNat < es.length := by
                  rcases Nat.lt_or_ge n.toNat es.length with h | h
                  · exact h
                  · rw [List.getElem?_eq_none h] at he1; cases he1
                have hg := RepEs.get hes he1
                refine ⟨.pointer (some ⟨b, off + n.toNat * m, none⟩), ?_, ⟨b, off + n.toNat * m, rfl, hb, ha, hg.2⟩⟩
                simp only [Instr.indexAt, asIntOf, Sem.run_bind, Sem.run_pure, Result.andThen_ok, run_underlying hu]
                rw [if_pos (by omega)]
                simp [run_sizeOf_D hti, Addr.add_mk, hm.1]
            · cases hd
          · cases hd
        · rename_i k
          split at hd
          · rename_i m es hk
            split at hd
            · rename_i hm
              cases hd
              obtain ⟨rfl, _⟩ := hx
              obtain ⟨hlen, ⟨hnil, _⟩ | ⟨b', arr, E, cap, hb', hh, hγ, hc, hs, hr⟩⟩ := h.rep k _ hk
              · subst hnil; simp at hm
              · refine ⟨.pointer (some ⟨b', n.toNat * m, none⟩), ?_, ⟨b', hb', by simp⟩⟩
                rw [hγ]
                simp only [Instr.indexAt, asIntOf, Sem.run_bind, Sem.run_pure, Result.andThen_ok, run_underlying hu]
                rw [if_pos (by omega)]
                simp [run_sizeOf_D hti, Addr.add_mk, hm.1]
            · cases hd
          · cases hd
        · rename_i k m' lo hi2
          split at hd
          · rename_i m es hk
            split at hd
            · rename_i hm
              cases hd
              obtain ⟨a0, l, c, hγ0, h1, h2, rfl⟩ := hx
              obtain ⟨hlen, ⟨hnil, _⟩ | ⟨b', arr, E, cap, hb', hh, hγ, hc, hs, hr⟩⟩ := h.rep k _ hk
              · subst hnil; simp at hm; omega
              · rw [hγ] at hγ0; cases hγ0
                obtain ⟨rfl, hmt, hn0, hn1, hn2⟩ := hm
                refine ⟨.pointer (some ⟨b', (lo + n.toNat) * m', none⟩), ?_, ⟨b', hb', by simp⟩⟩
                simp only [Instr.indexAt, asIntOf, Sem.run_bind, Sem.run_pure, Result.andThen_ok, run_underlying hu]
                rw [if_neg (show ¬ c = lo by omega)]
                simp only [Option.map_some]
                rw [if_pos (show 0 ≤ n ∧ n < ((hi2 - lo : Nat) : Int) by omega)]
                simp [run_sizeOf_D hti, Addr.add_mk, hmt, Nat.add_mul]
            · cases hd
          · cases hd
        · rename_i l o len cap
          split at hd
          · rename_i hm
            cases hd
            obtain ⟨rfl, _⟩ := hx
            refine ⟨.pointer (some ⟨l, o + n.toNat * ti.size, none⟩), ?_, rfl, rfl⟩
            simp only [Instr.indexAt, asIntOf, Sem.run_bind, Sem.run_pure, Result.andThen_ok, run_underlying hu]
            rw [if_pos (by omega)]
            simp [run_sizeOf_D hti, Addr.add_mk]
          · cases hd
        · cases hd
      · cases hd
    · split at hd
      · rename_i len e hae
        have hu := arrI_spec hae
        split at hd
        · rename_i ti hti
          split at hd
          · rename_i hn
            obtain ⟨b, o, rfl, hr⟩ := addOff_sound hd hx
            refine ⟨_, ?_, hr⟩
            simp only [Instr.indexAt, asIntOf, Sem.run_bind, Sem.run_pure, Result.andThen_ok, run_underlying hu, Instr.sureAddr]
            rw [if_pos hn]
            simp [run_sizeOf_D hti, Addr.add_mk]
          · cases hd
        · cases hd
      · cases hd
  · cases hd
theorem part_sound [Lays] {t : TypeId} {ti : TI} (ht : tyI P t = some ti) {A : Bool → Nat → Prop} {cs : List D} {ys : Array Value} (hr : RepDs w A G cs ys.toList) {off : Nat} {d : D} (h : loadD ti cs off = some d) :
    ∃ v, (part t ys off).run P w = .ok v w ∧ RepD w A G d v := by
  have := run_part_D (P := P) (w := w) ht ys.toList off
  unfold loadD at h
  cases ha : ti.agg with
  | true =>
    simp only [ha, if_true] at h
    split at h
    · cases h
      exact ⟨_, by simpa using this.1 ha, _, rfl, by simpa using (hr.drop off).take ti.size⟩
    · cases h
  | false =>
    simp only [ha, Bool.false_eq_true, if_false] at h
    obtain ⟨y, hy, hd⟩ := hr.get h
    exact ⟨y, by simpa using this.2 ha y hy, hd⟩
theorem foldO_sound {A : Bool → Nat → Prop} {f : D → D → Option D} {g : Value → Value → Sem Value} (hfg : ∀ x y z X Y, f x y = some z → RepD w A G x X → RepD w A G y Y → ∃ v, (g X Y).run P w = .ok v w ∧ RepD w A G z v) :
    ∀ (l : List D) (ys : List Value) (x z : D) (X : Value), foldO f x l = some z → RepD w A G x X → RepDs w A G l ys → ∃ v, (ys.foldlM g X).run P w = .ok v w ∧ RepD w A G z v
  | [], ys, x, z, X, h, hx, hl => by
    rw [show ys = [] from hl]
    cases h
    exact ⟨X, rfl, hx⟩
  | y :: l, ys, x, z, X, h, hx, hl => by
    obtain ⟨Y, ys', rfl, hy, hl⟩ := hl
    simp only [foldO] at h
    split at h
    · rename_i u hu
      obtain ⟨v, hv, hr⟩ := hfg x y u X Y hu hx hy
      obtain ⟨v2, hv2, hr2⟩ := foldO_sound hfg l ys' u z v h hr hl
      refine ⟨v2, ?_, hr2⟩
      simp only [List.foldlM_cons, Sem.run_bind, hv, Result.andThen_ok, hv2]
    · cases h
theorem max2_sound {A : Bool → Nat → Prop} (x y z : D) (X Y : Value) (h : max2D x y = some z) (hx : RepD w A G x X) (hy : RepD w A G y Y) : ∃ v, (Builtin.max2 X Y).run P w = .ok v w ∧ RepD w A G z v := by
  unfold max2D at h
  split at h
  · cases h
    rw [show X = _ from hx.1, show Y = _ from hy.1]
    exact ⟨_, rfl, rfl, rfl⟩
  · cases h
theorem min2_sound {A : Bool → Nat → Prop} (x y z : D) (X Y : Value) (h : min2D x y = some z) (hx : RepD w A G x X) (hy : RepD w A G y Y) : ∃ v, (Builtin.min2 X Y).run P w = .ok v w ∧ RepD w A G z v := by
  unfold min2D at h
  split at h
  · cases h
    rw [show X = _ from hx.1, show Y = _ from hy.1]
    exact ⟨_, rfl, rfl, rfl⟩
  · cases h
theorem len_sound [Lays] (h : Core N O0 w0 σ G a w) {x : D} {X : Value} (hx : RepD w (Av N G σ.bx) G x X) {n : Int} (hn : lenD σ x = some n) : ∃ a l c, X = .slice a l c ∧ (l : Int) = n := by
  unfold lenD at hn
  split at hn
  · cases hn
    obtain ⟨a0, cap, rfl, _⟩ := hx
    exact ⟨_, _, _, rfl, rfl⟩
  · rename_i k
    split at hn
    · rename_i m es hk
      cases hn
      obtain ⟨rfl, _⟩ := hx
      obtain ⟨hlen, ⟨hnil, _, hγ⟩ | ⟨b', arr, E, cap, hb', hh, hγ, _⟩⟩ := h.rep k _ hk
      · subst hnil; exact ⟨_, _, _, hγ, rfl⟩
      · exact ⟨_, _, _, hγ, rfl⟩
    · cases hn
  · cases hn
    rw [show X = _ from hx.1]
    exact ⟨_, _, _, rfl, rfl⟩
  · cases hn
    obtain ⟨a0, l, c, _, _, _, rfl⟩ := hx
    exact ⟨_, _, _, rfl, rfl⟩
  · cases hn
theorem RepEs.drop {A : Bool → Nat → Prop} {n b : Nat} : ∀ {es : List (List C)} {o : Nat} (l : Nat), RepEs w A n es b o → RepEs w A n (es.drop l) b (o + l * n)
  | es, o, 0, h => by simpa using h
  | [], o, l + 1, h => trivial
  | e :: es, o, l + 1, h => by
    have := RepEs.drop (es := es) l h.2.2
    rw [show o + (l + 1) * n = o + n + l * n by rw [Nat.add_mul]; omega]
    exact this
theorem RepEs.take {A : Bool → Nat → Prop} {n b : Nat} : ∀ {es : List (List C)} {o : Nat} (l : Nat), RepEs w A n es b o → RepEs w A n (es.take l) b o
  | es, o, 0, h => trivial
  | [], o, l + 1, h => trivial
  | e :: es, o, l + 1, h => ⟨h.1, h.2.1, RepEs.take (es := es) l h.2.2⟩
theorem sl_window [Lays] {A : Bool → Nat → Prop} {bw : Bool} {n : Nat} {es : List (List C)} {a0 : Option Addr} {len cap l h : Nat} (hr : RepC w A (.sl bw n es) (.slice a0 len cap)) (h1 : l ≤ h) (h2 : h ≤ es.length) :
    RepC w A (.sl bw n ((es.take h).drop l)) (.slice (if cap = l then a0 else a0.map (·.add (l * n))) (h - l) (cap - l)) := by
  obtain ⟨a1, c1, he, hc, hes⟩ := hr
  cases he
  have hlen : ((es.take h).drop l).length = h - l := by simp; omega
  refine ⟨_, _, by rw [hlen], by rw [hlen]; omega, ?_⟩
  by_cases hlh : h = l
  · left
    exact List.eq_nil_of_length_eq_zero (by rw [hlen]; omega)
  · right
    rcases hes with rfl | ⟨b, off, rfl, hb, hA, hes⟩
    · simp at h2; omega
    · rw [if_neg (by omega)]
      exact ⟨b, off + l * n, by simp [Addr.add_mk], hb, hA, (hes.take h).drop l⟩
theorem run_slice_D [Lays] {t e : TypeId} {ti : TI} (hel : elemI P t = some e) (hti : tyI P e = some ti) (a0 : Option Addr) (len cap : Nat) (lo hi : Option Value) (l h : Nat)
    (hlo : (lo = none ∧ l = 0) ∨ ∃ k, lo = some (.int k l)) (hhi : (hi = none ∧ h = len) ∨ ∃ k, hi = some (.int k h)) (h1 : l ≤ h) (h2 : h ≤ len) (h3 : len ≤ cap) (w : World) :
    (Instr.sliceAt t (.slice a0 len cap) lo hi none).run P w = .ok (.slice (if cap = l then a0 else a0.map (·.add (l * ti.size))) (h - l) (cap - l)) w := by
  have hu := elemI_spec hel
  have hb : (Instr.sliceBounds true len cap lo hi none).run P w = .ok (l, h, cap) w := by
    rcases hlo with ⟨rfl, rfl⟩ | ⟨k, rfl⟩ <;> rcases hhi with ⟨rfl, rfl⟩ | ⟨k', rfl⟩
    · simp [Instr.sliceBounds]
    · have e2 := run_sliceBound (P := P) w k' h cap .sliceAcap (by omega) (by omega)
      simp [Instr.sliceBounds, e2]
    · have e2 := run_sliceBound (P := P) w k l h .sliceB (by omega) (by omega)
      simp [Instr.sliceBounds, e2]
    · have e1 := run_sliceBound (P := P) w k l h .sliceB (by omega) (by omega)
      have e2 := run_sliceBound (P := P) w k' h cap .sliceAcap (by omega) (by omega)
      simp [Instr.sliceBounds, e1, e2]
  simp only [Instr.sliceAt, Instr.slice, Sem.run_bind, run_underlying hu, Result.andThen_ok, hb, run_sizeOf_D hti, Sem.run_pure]
def optRep (w : World) (A : Bool → Nat → Prop) (G : Gh) : Option D → Option Value → Prop
  | none, none => True
  | some x, some X => RepD w A G x X
  | _, _ => False
theorem boundD_sound {A : Bool → Nat → Prop} {d n : Int} {x : Option D} {X : Option Value} (h : boundD d x = some n) (hx : optRep w A G x X) :
    (X = none ∧ n = d) ∨ ∃ k, X = some (.int k n) := by
  unfold boundD at h
  split at h
  · cases h
    cases X with
    | none => exact .inl ⟨rfl, rfl⟩
    | some X => exact hx.elim
  · cases h
    cases X with
    | none => exact hx.elim
    | some X => exact .inr ⟨_, by rw [show X = _ from hx.1]⟩
  · cases h
theorem run_slice3_D [Lays] {t e : TypeId} {ti : TI} (hel : elemI P t = some e) (hti : tyI P e = some ti) (a0 : Option Addr) (len cap : Nat) (lo : Option Value) (kh km : IntKind) (l h m : Nat)
    (hlo : (lo = none ∧ l = 0) ∨ ∃ k, lo = some (.int k l)) (h1 : l ≤ h) (h2 : h ≤ m) (h3 : m ≤ cap) (w : World) :
    (Instr.sliceAt t (.slice a0 len cap) lo (some (.int kh h)) (some (.int km m))).run P w = .ok (.slice (if m = l then a0 else a0.map (·.add (l * ti.size))) (h - l) (m - l)) w := by
  have hu := elemI_spec hel
  have e3 := run_sliceBound (P := P) w km m cap .slice3Acap (by omega) (by omega)
  have e2 := run_sliceBound (P := P) w kh h m .slice3B (by omega) (by omega)
  have hb : (Instr.sliceBounds true len cap lo (some (.int kh h)) (some (.int km m))).run P w = .ok (l, h, m) w := by
    rcases hlo with ⟨rfl, rfl⟩ | ⟨k, rfl⟩
    · simp [Instr.sliceBounds, e2, e3]
    · have e1 := run_sliceBound (P := P) w k l h .slice3C (by omega) (by omega)
      simp [Instr.sliceBounds, e1, e2, e3]
  simp only [Instr.sliceAt, Instr.slice, Sem.run_bind, run_underlying hu, Result.andThen_ok, hb, run_sizeOf_D hti, Sem.run_pure]
theorem sl_window3 [Lays] {A : Bool → Nat → Prop} {bw : Bool} {n : Nat} {es : List (List C)} {a0 : Option Addr} {len cap l h m : Nat} (hr : RepC w A (.sl bw n es) (.slice a0 len cap)) (h1 : l ≤ h) (h2 : h ≤ m) (h3 : m ≤ es.length) :
    RepC w A (.sl bw n ((es.take h).drop l)) (.slice (if m = l then a0 else a0.map (·.add (l * n))) (h - l) (m - l)) := by
  obtain ⟨a1, c1, he, hc, hes⟩ := hr
  cases he
  have hlen : ((es.take h).drop l).length = h - l := by simp; omega
  refine ⟨_, _, by rw [hlen], by rw [hlen]; omega, ?_⟩
  by_cases hlh : h = l
  · left
    exact List.eq_nil_of_length_eq_zero (by rw [hlen]; omega)
  · right
    rcases hes with rfl | ⟨b, off, rfl, hb, hA, hes⟩
    · simp at h3; omega
    · rw [if_neg (by omega)]
      exact ⟨b, off + l * n, by simp [Addr.add_mk], hb, hA, (hes.take h).drop l⟩
theorem sl_cl {A : Bool → Nat → Prop} {bw : Bool} {n : Nat} {es : List (List C)} {a0 : Option Addr} {len cap : Nat} (hr : RepC w A (.sl bw n es) (.slice a0 len cap)) (hc : cap = es.length) : RepC w A (.cl bw n es) (.slice a0 len cap) := by
  obtain ⟨a1, c1, he, _, hes⟩ := hr
  cases he
  subst hc
  exact ⟨_, rfl, hes⟩
theorem cl_sl {A : Bool → Nat → Prop} {bw : Bool} {n : Nat} {es : List (List C)} {y : Value} (hr : RepC w A (.cl bw n es) y) : RepC w A (.sl bw n es) y := by
  obtain ⟨a1, rfl, hes⟩ := hr
  exact ⟨a1, _, rfl, Nat.le_refl _, hes⟩
theorem slice_sound [Lays] (h : Core N O0 w0 σ G a w) {t : TypeId} {x d : D} {X : Value} (hx : RepD w (Av N G σ.bx) G x X) {lo hi : Option D} {LO HI : Option Value}
    (hlo : optRep w (Av N G σ.bx) G lo LO) (hhi : optRep w (Av N G σ.bx) G hi HI)
    (hd : sliceD P σ t x lo hi = some d) : ∃ v, (Instr.sliceAt t X LO HI none).run P w = .ok v w ∧ RepD w (Av N G σ.bx) G d v := by
  unfold sliceD at hd
  split at hd
  · rename_i e hel
    split at hd
    · rename_i ti hti
      split at hd
      · rename_i len hlen
        cases hbl : boundD 0 lo with
        | none => rw [hbl] at hd; simp [sliceB] at hd
        | some l =>
          cases hbh : boundD len hi with
          | none => rw [hbl, hbh] at hd; simp [sliceB] at hd
          | some hh =>
            rw [hbl, hbh] at hd
            simp only [sliceB] at hd
            split at hd
            · rename_i hc
              obtain ⟨l, rfl⟩ := Int.eq_ofNat_of_zero_le hc.1
              obtain ⟨hh, rfl⟩ := Int.eq_ofNat_of_zero_le (Int.le_trans hc.1 hc.2.1)
              simp only [Int.toNat_natCast] at hd
              have hL := boundD_sound hbl hlo
              have hH := boundD_sound hbh hhi
              have run : ∀ (a0 : Option Addr) (ln cap : Nat), X = .slice a0 ln cap → ln ≤ cap → (ln : Int) = len → (Instr.sliceAt t X LO HI none).run P w = .ok (.slice (if cap = l then a0 else a0.map (·.add (l * ti.size))) (hh - l) (cap - l)) w := by
                intro a0 ln cap hX h3 h4
                rw [hX]
                refine run_slice_D hel hti a0 ln cap LO HI l hh ?_ ?_ (by omega) (by omega) h3 w
                · rcases hL with ⟨h5, h6⟩ | ⟨k, h5⟩
                  · exact .inl ⟨h5, by omega⟩
                  · exact .inr ⟨k, h5⟩
                · rcases hH with ⟨h5, h6⟩ | ⟨k, h5⟩
                  · exact .inl ⟨h5, by omega⟩
                  · exact .inr ⟨k, h5⟩
              unfold sliceC at hd
              split at hd
              · rename_i bw m es
                split at hd
                · rename_i hm
                  cases hd
                  subst hm
                  simp only [lenD, Option.some.injEq] at hlen
                  have hx' := hx
                  obtain ⟨a0, cap, rfl, hcap, _⟩ := hx
                  exact ⟨_, run a0 es.length cap rfl hcap (by omega), sl_window hx' (by omega) (by omega)⟩
                · cases hd
              · rename_i k
                split at hd
                · rename_i m es hk
                  split at hd
                  · rename_i hm
                    cases hd
                    subst hm
                    simp only [lenD, hk, Option.some.injEq] at hlen
                    obtain ⟨rfl, _⟩ := hx
                    obtain ⟨_, ⟨hnil, _, hγ⟩ | ⟨b', arr, E, cap, hb', hh', hγ, hcp, _⟩⟩ := h.rep k _ hk
                    · subst hnil
                      exact ⟨_, run none 0 0 hγ (Nat.le_refl _) (by simpa using hlen), none, 0, 0, hγ, by omega, by simp at hlen; omega, rfl⟩
                    · exact ⟨_, run _ _ cap hγ hcp (by omega), _, _, cap, hγ, by omega, by omega, rfl⟩
                  · cases hd
                · cases hd
              · cases hd
                simp only [lenD, Option.some.injEq] at hlen
                have hX : X = _ := hx.1
                have hl0 : l = 0 := by simp at hlen; omega
                have hh0 : hh = 0 := by simp at hlen; omega
                subst hl0; subst hh0
                refine ⟨_, run none 0 0 hX (Nat.le_refl _) (by simpa using hlen), ?_⟩
                exact ⟨rfl, rfl⟩
              · cases hd
            · cases hd
      · cases hd
    · cases hd
  · cases hd
theorem fill_mono {p q : Nat → Option (Nat × Nat)} (h : ∀ i y, p i = some y → q i = some y) : ∀ {l : List (Nat × Value)} {c r : Array Value}, Instr.fill p c l = some r → Instr.fill q c l = some r
  | [], _, _, hr => hr
  | (i, v) :: rest, c, r, hr => by
    simp only [Instr.fill] at hr ⊢
    split at hr
    · cases hr
    · rename_i off size hi
      rw [h i _ hi]
      dsimp only
      split at hr
      · cases hr
      · rename_i hn
        rw [if_neg hn]
        exact fill_mono h hr
theorem places_build [Lays] {t : TypeId} {ps : List (Nat × Nat)} (h : placesI P t = some ps) {w : World} {z : Value} (hz : (zeroValue t).run P w = .ok z w) {parts : Array (Nat × Value)} {arr' : Array Value}
    (hf : Instr.fill (fun i => ps[i]?) z.cells parts.toList = some arr') : (Instr.build t parts).run P w = .ok (.agg arr') w := by
  unfold placesI at h
  split at h
  · rename_i fs hu
    have hpl : (fs.mapM fun f => do pure (f.offset, ← sizeOf f.type) : Sem (Array (Nat × Nat))).run P w = .ok ps.toArray w := by
      rw [Array.mapM_eq_mapM_toList]
      simp only [Sem.run_map]
      have : ∀ (l : List Field) (ps : List (Nat × Nat)), placesL P l = some ps → (l.mapM fun f => (do pure (f.offset, ← sizeOf f.type) : Sem (Nat × Nat))).run P w = .ok ps w := by
        intro l
        induction l with
        | nil => intro ps h; cases h; rfl
        | cons f l ih =>
          intro ps h
          simp only [placesL] at h
          split at h
          · rename_i ti q hti hq
            cases h
            simp only [List.mapM_cons, Sem.run_bind, run_sizeOf_D hti, Result.andThen_ok, Sem.run_pure, ih q hq]
          · cases h
      rw [this _ _ h]
      rfl
    have e2 : (fun (i : Nat) => (ps.toArray)[i]?) = fun i => ps[i]? := by funext i; simp
    simp only [Instr.build, Sem.run_bind, hz, Result.andThen_ok, run_underlying hu, hpl]
    rw [e2, hf]
    rfl
  · rename_i n e hu
    split at h
    · rename_i ti hti
      split at h
      · cases h
        have hm := fill_mono (q := fun i => some (i * ti.size, ti.size)) (fun i y hy => by
          simp only [List.getElem?_map, Option.map_eq_some_iff] at hy
          obtain ⟨j, hj, rfl⟩ := hy
          have : j = i := by
            rw [List.getElem?_range] at hj
            · simpa using hj.symm
            · exact (by simpa using (List.getElem?_eq_some_iff.1 hj).1)
          rw [this]) hf
        simp only [Instr.build, Sem.run_bind, hz, Result.andThen_ok, run_underlying hu, run_sizeOf_D hti]
        rw [hm]
        rfl
      · cases h
    · cases h
  · cases h
theorem evP_sound [Lays] (h : Core N O0 w0 σ G a w) {o : Oper} {d : D} (hd : evP P σ o.op = some d) :
    ∃ v, (execOp a.eval o).run P w = .ok (.value v) w ∧ RepD w (Av N G σ.bx) G d v := by
  have one : ∀ (s : Sem Value) (v : Value), s.run P w = .ok v w → (do pure (Next.value (← s)) : Sem Next).run P w = .ok (.value v) w := fun s v hs => by simp [hs]
  obtain ⟨dst, op, ty, pos, after, guard⟩ := o
  dsimp only at hd
  cases op <;> simp only [evP, reduceCtorEq] at hd
  case nilCheck x =>
    have hr := h.op x
    have e := nilD_same hd
    subst e
    refine ⟨a.eval x, ?_, hr⟩
    unfold nilD at hd
    split at hd
    · rename_i ad hx
      rw [hx] at hr
      obtain ⟨hv, _⟩ := hr
      simp only [execOp, hv]; rfl
    · rename_i bw cs off hx
      rw [hx] at hr
      obtain ⟨b, o, hv, _⟩ := hr
      simp only [execOp, hv]; rfl
    · rename_i k off hx
      rw [hx] at hr
      obtain ⟨b, _, hv⟩ := hr
      simp only [execOp, hv]; rfl
    · rename_i k n i off hx
      rw [hx] at hr
      obtain ⟨b, _, hv⟩ := hr
      simp only [execOp, hv]; rfl
    · cases hd
  case move x => cases hd; exact ⟨_, rfl, h.op x⟩
  case assign x => cases hd; exact ⟨_, rfl, h.op x⟩
  case pick c x y =>
    have hc := h.op c
    split at hd
    · rename_i t ht
      cases hd
      rw [ht] at hc
      refine ⟨if t then a.eval x else a.eval y, ?_, by cases t; exact h.op y; exact h.op x⟩
      simp [execOp, show a.eval c = .bool t from hc.1, asBool]
    · cases hd
  case load t x =>
    split at hd
    · rename_i ti hti
      obtain ⟨v, hv, hr⟩ := loadAt_sound (P := P) h hti (h.op x) hd
      exact ⟨v, one _ v hv, hr⟩
    · cases hd
  case fieldAddr t x f =>
    split at hd
    · rename_i fo s g hf
      obtain ⟨v, hv, hr⟩ := fieldAddr_sound (w := w) hf (h.op x) hd
      exact ⟨v, one _ v hv, hr⟩
    · cases hd
  case field t x f =>
    split at hd
    · rename_i fo s g cs hf hx
      obtain ⟨fs, fl, ti, hu, hfl, hti, hne, e⟩ := fieldI_spec hf
      cases e
      have hX := h.op x
      rw [hx] at hX
      obtain ⟨ys, hys, hr⟩ := hX
      obtain ⟨v, hv, hrv⟩ := part_sound (P := P) (w := w) hti hr (off := fl.offset) (d := d) (by simpa [loadD] using hd)
      refine ⟨v, one _ v ?_, hrv⟩
      rw [hys]
      simp [Instr.field, run_underlying hu, hfl, asAgg, hv]
    · cases hd
  case indexAddr t x i =>
    obtain ⟨v, hv, hr⟩ := idx_sound (P := P) h (h.op x) (h.op i) hd
    exact ⟨v, one _ v hv, hr⟩
  case index t x i =>
    split at hd
    · rename_i len e cs kk n har hx hi
      have hu := arrI_spec har
      split at hd
      · rename_i ti hti
        split at hd
        · rename_i hn
          have hX := h.op x
          rw [hx] at hX
          obtain ⟨ys, hys, hr⟩ := hX
          have hI := h.op i
          rw [hi] at hI
          obtain ⟨v, hv, hrv⟩ := part_sound (P := P) (w := w) hti hr hd
          refine ⟨v, one _ v ?_, hrv⟩
          rw [hys, show a.eval i = _ from hI.1]
          simp only [Instr.index, asIntOf, Sem.run_bind, Sem.run_pure, Result.andThen_ok, run_underlying hu]
          rw [if_pos hn]
          simp [run_sizeOf_D hti, hv]
        · cases hd
      · cases hd
    · cases hd
  case extract t i =>
    split at hd
    · rename_i ds ht
      have hT := h.op t
      rw [ht] at hT
      obtain ⟨ys, hys, hr⟩ := hT
      obtain ⟨y, hy, hry⟩ := hr.get hd
      refine ⟨y, one _ y ?_, hry⟩
      rw [hys]
      simp only [Instr.extract]
      have : ys[i]? = some y := by simpa using hy
      simp [this]
    · cases hd
  case makeFunc fn first caps =>
    cases hd
    refine ⟨.func fn (first.map a.eval) (caps.map a.eval), rfl, ⟨_, _, rfl, ?_, ?_⟩⟩
    · simpa using h.ops first.toList
    · simpa using h.ops caps.toList
  case binOp op t x y yt =>
    obtain ⟨v, hv, hr⟩ := binD_sound (w := w) hd (h.op x) (h.op y) x y
    refine ⟨v, ?_, hr⟩
    simp only [execOp, Sem.run_bind]
    rw [hv]
    rfl
  case unOp op t x =>
    split at hd
    · rename_i b hx
      cases hd
      have hX := h.op x
      rw [hx] at hX
      exact ⟨.bool (!b), one _ _ (by rw [show a.eval x = _ from hX.1]; rfl), rfl, rfl⟩
    · rename_i k n hx
      cases hd
      have hX := h.op x
      rw [hx] at hX
      exact ⟨.int k (k.wrap (0 - n)), one _ _ (by rw [show a.eval x = _ from hX.1]; rfl), rfl, rfl⟩
    · cases hd
  case convert s t x =>
    split at hd
    · rename_i u k kk n hs hk hx
      cases hd
      have hX := h.op x
      rw [hx] at hX
      have hk := intI_spec hk
      refine ⟨.int k (k.wrap n), one _ _ ?_, rfl, rfl⟩
      rw [show a.eval x = _ from hX.1]
      simp only [convert, Sem.run_bind, run_underlying hs, run_underlying hk, Result.andThen_ok]
      cases u <;> rfl
    · cases hd
  case build t parts =>
    split at hd
    · rename_i ti ps hti hps
      simp only [Option.map_eq_some_iff] at hd
      obtain ⟨cs, hcs, rfl⟩ := hd
      obtain ⟨z, hz, hzl, _, hz1⟩ := run_zero_D hti w
      have hfill := fillD_sound (w := w) (A := Av N G σ.bx) (G := G) (arr := z.cells) (vs := (parts.toList.map fun p => (p.1, a.eval p.2))) hcs
        (by rw [hzl]; exact RepDs.ofVals _ hz1) (by simp) (by have := h.ops (parts.toList.map (·.2)); simp only [List.map_map] at this ⊢; exact this)
      obtain ⟨arr', hf, hr, _⟩ := hfill
      refine ⟨.agg arr', one _ _ ?_, ⟨arr', rfl, hr⟩⟩
      have e1 : (parts.map fun (i, x) => (i, a.eval x)).toList = parts.toList.map fun p => (p.1, a.eval p.2) := by simp
      exact places_build hps hz (by rw [e1]; exact hf)
    · cases hd
  case slice t x lo hi mx =>
    cases mx with
    | some m =>
      dsimp only at hd
      have hx := h.op x
      have hm := h.op m
      have hlo : optRep w (Av N G σ.bx) G (lo.map σ.op) (lo.map a.eval) := by cases lo with | none => trivial | some l => exact h.op l
      unfold slice3D at hd
      split at hd
      · rename_i e bw n es kh hh km mm e1 e2 e3 e4
        cases hi with
        | none => simp at e3
        | some hi =>
          simp only [Option.map_some, Option.some.injEq] at e3
          have hhi := h.op hi
          rw [e2] at hx; rw [e3] at hhi; rw [e4] at hm
          obtain ⟨hhi, _⟩ := hhi
          obtain ⟨hm, _⟩ := hm
          split at hd
          · rename_i ti l e5 e6
            split at hd
            · rename_i hc
              obtain ⟨rfl, hc1, hc2, hc3, hc4⟩ := hc
              have hL := boundD_sound e6 hlo
              obtain ⟨l, rfl⟩ := Int.eq_ofNat_of_zero_le hc1
              obtain ⟨hh, rfl⟩ := Int.eq_ofNat_of_zero_le (Int.le_trans hc1 hc2)
              obtain ⟨mm, rfl⟩ := Int.eq_ofNat_of_zero_le (Int.le_trans (Int.le_trans hc1 hc2) hc3)
              simp only [Int.toNat_natCast] at hd
              have hx' := hx
              obtain ⟨a0, cap, hX, hcap, _⟩ := hx
              rw [hX] at hx'
              have hwin := sl_window3 hx' (l := l) (h := hh) (m := mm) (by omega) (by omega) (by omega)
              split at hd
              · rename_i e7
                cases hd
                refine ⟨_, one _ _ ?_, sl_cl hwin (by simp; omega)⟩
                simp only [Option.map_some, hX, hhi, hm]
                refine run_slice3_D e1 e5 a0 es.length cap (lo.map a.eval) kh km l hh mm ?_ (by omega) (by omega) (by omega) w
                rcases hL with ⟨h5, h6⟩ | ⟨k, h5⟩
                · exact .inl ⟨h5, by omega⟩
                · exact .inr ⟨k, h5⟩
              · cases hd
                refine ⟨_, one _ _ ?_, hwin⟩
                simp only [Option.map_some, hX, hhi, hm]
                refine run_slice3_D e1 e5 a0 es.length cap (lo.map a.eval) kh km l hh mm ?_ (by omega) (by omega) (by omega) w
                rcases hL with ⟨h5, h6⟩ | ⟨k, h5⟩
                · exact .inl ⟨h5, by omega⟩
                · exact .inr ⟨k, h5⟩
            · cases hd
          · cases hd
      · cases hd
    | none =>
      dsimp only at hd
      obtain ⟨v, hv, hr⟩ := slice_sound (P := P) h (h.op x) (LO := lo.map a.eval) (HI := hi.map a.eval) (by cases lo with | none => trivial | some l => exact h.op l) (by cases hi with | none => trivial | some l => exact h.op l) hd
      exact ⟨v, one _ v hv, hr⟩
  case lookup t x i ok =>
    obtain ⟨v, hv, hr⟩ := lookup_sound (P := P) h (h.op x) (h.op i) hd
    exact ⟨v, one _ v hv, hr⟩
  case call c =>
    obtain ⟨callee, args, argTypes⟩ := c
    cases callee <;> simp only [reduceCtorEq] at hd
    rename_i b
    have el : args.toList.map a.eval = (args.map a.eval).toList := by simp
    generalize hal : args.toList = al at hd
    generalize htl : argTypes.toList = tl at hd
    unfold evB at hd
    split at hd
    · rename_i x l
      split at hd
      · rename_i t tl'
        have e0 : (args.map a.eval)[0]? = some (a.eval x) := by rw [← Array.getElem?_toList, ← el, hal]; rfl
        have e1 : argTypes[0]? = some t := by rw [← Array.getElem?_toList, htl]; rfl
        split at hd
        · rename_i hsl
          simp only [Option.map_eq_some_iff] at hd
          obtain ⟨n, hn, rfl⟩ := hd
          obtain ⟨a0, l, c, hX, hl⟩ := len_sound h (h.op x) hn
          obtain ⟨e, he⟩ := Option.isSome_iff_exists.1 hsl
          have hu := elemI_spec he
          refine ⟨.int .i64 n, ?_, rfl, rfl⟩
          simp only [execOp, resolve, invoke, builtin, Builtin.len_, e0, e1, Sem.run_bind, Sem.run_pure, Result.andThen_ok, run_underlying hu, hX, goInt, hl]
        · split at hd
          · rename_i n e har
            cases hd
            have hu := arrI_spec har
            refine ⟨.int .i64 n, ?_, rfl, rfl⟩
            simp only [execOp, resolve, invoke, builtin, Builtin.len_, e0, e1, Sem.run_bind, Sem.run_pure, Result.andThen_ok, run_underlying hu, goInt]
          · cases hd
      · cases hd
    · rename_i x l
      obtain ⟨v, hv, hr⟩ := foldO_sound (P := P) (w := w) max2_sound _ _ _ _ _ hd (h.op x) (h.ops l)
      refine ⟨v, ?_, hr⟩
      have ea : (args.map a.eval).toList = a.eval x :: l.map a.eval := by rw [← el, hal]; rfl
      simp only [execOp, resolve, invoke, builtin, Builtin.max_, ea, hv, Sem.run_bind, Sem.run_pure, Result.andThen_ok]
    · rename_i x l
      obtain ⟨v, hv, hr⟩ := foldO_sound (P := P) (w := w) min2_sound _ _ _ _ _ hd (h.op x) (h.ops l)
      refine ⟨v, ?_, hr⟩
      have ea : (args.map a.eval).toList = a.eval x :: l.map a.eval := by rw [← el, hal]; rfl
      simp only [execOp, resolve, invoke, builtin, Builtin.min_, ea, hv, Sem.run_bind, Sem.run_pure, Result.andThen_ok]
    · cases hd
end Go.Dw
end
