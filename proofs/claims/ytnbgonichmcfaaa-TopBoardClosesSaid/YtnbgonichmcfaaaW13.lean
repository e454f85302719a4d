/- Helpers of a proof. -/
import Derived.Test.YtnbgonichmcfaaaW12
set_option linter.unusedVariables false
set_option linter.unusedSimpArgs false
section
namespace Go.Dw
open Go.RowKit
variable {P : Program} {N O0 : Nat → Prop} {w0 : World} {σ σ' : St} {G : Gh} {a : Act} {w : World}
def guardV : Option D → Option (Option Bool)
  | some (.c (.v (.bool b))) => some (some b)
  | some (.tup []) => some none
  | _ => none
def guardD (ops : List Oper) (σ : St) (g : Nat) : Option (Option Bool) :=
  match (ops[g]?).bind (·.dst) with
  | some t => guardV (get t σ.tm)
  | none => none
def StepG [Lays] (P : Program) (ops : List Oper) (o : Oper) (K : St → Prop) (σ : St) : Prop :=
  match o.guard with
  | none => ∃ σ', OpTo P false o σ σ' ∧ K σ'
  | some (g, want) => match guardD ops σ g with
    | some y => if y = some want then ∃ σ', OpTo P false o σ σ' ∧ K σ' else (∀ t, o.dst = some t → t < σ.nt) ∧ K (σ.putO o.dst (.tup []))
    | none => False
def opsQ [Lays] (P : Program) (ops : List Oper) (Q : St → Prop) : List Oper → St → Prop
  | [], σ => Q σ
  | o :: rest, σ => StepG P ops o (opsQ P ops Q rest) σ
theorem guard_sound [Lays] (h : Core N O0 w0 σ G a w) {ops : List Oper} {g : Nat} {y : Option Bool} (hg : guardD ops σ g = some y) : yielded ops.toArray a.tmps g = y := by
  unfold guardD at hg
  unfold yielded
  have e : ops.toArray[g]? = ops[g]? := by simp
  rw [e]
  split at hg
  · rename_i t ht
    rw [ht]
    unfold guardV at hg
    split at hg
    · rename_i b' hb
      cases hg
      obtain ⟨y, hy, hr⟩ := h.tm t _ hb
      simp only [Option.bind_some, hy]
      rw [hr.1]
    · rename_i hb
      cases hg
      obtain ⟨y, hy, ys, rfl, _⟩ := h.tm t _ hb
      simp only [Option.bind_some, hy]
    · cases hg
  · cases hg
theorem stepG_wp [Lays] (h : Inv N O0 w0 σ a w) {ops : List Oper} {o : Oper} {K : St → Prop} (ho : StepG P ops o K σ) (rd : Option Nat) (n : Nat) {K' : Act → World → Prop} {Q : Exit → Act → World → Prop}
    (hK : ∀ σ' a' w', K σ' → Inv N O0 w0 σ' a' w' → K' a' w') :
    if Region.wanted o (yielded ops.toArray a.tmps) then o.wpIn (Fx rd) n P a w K' Q else (∀ f, o.about P w a.eval = some f → (Fx rd).fn f) ∧ K' (a.put o.dst undef) w := by
  obtain ⟨G, h⟩ := h
  unfold StepG at ho
  split at ho
  · rename_i hg
    obtain ⟨σ', ho, hk⟩ := ho
    simp only [Region.wanted, hg, if_true]
    exact opTo_wp h ho rd n (fun a' w' hi => hK σ' a' w' hk hi)
  · rename_i g want hg
    split at ho
    · rename_i b hb
      have hy := guard_sound h hb
      split at ho
      · rename_i e
        subst e
        obtain ⟨σ', ho, hk⟩ := ho
        simp only [Region.wanted, hg, hy, beq_self_eq_true, if_true]
        exact opTo_wp h ho rd n (fun a' w' hi => hK σ' a' w' hk hi)
      · rename_i e
        have : (b == some want) = false := by simpa using e
        simp only [Region.wanted, hg, hy, this, Bool.false_eq_true, if_false]
        exact ⟨fun _ _ => trivial, hK _ _ _ ho.2 ⟨G, h.putO ho.1 ⟨#[], rfl, rfl⟩⟩⟩
    · cases ho
theorem opsQ_wp [Lays] {ops : List Oper} {Q : St → Prop} (rd : Option Nat) (n : Nat) {Qm : Exit → Act → World → Prop} (hQ : ∀ σ' a' w', Q σ' → Inv N O0 w0 σ' a' w' → Qm .normal a' w') :
    ∀ (l : List Oper) (σ : St) (a : Act) (w : World), Inv N O0 w0 σ a w → opsQ P ops Q l σ → wpListIn (Fx rd) n P ops.toArray Qm l a w
  | [], σ, a, w, hi, h => hQ σ a w h hi
  | o :: rest, σ, a, w, hi, h => by
    have := stepG_wp hi h rd n (K' := wpListIn (Fx rd) n P ops.toArray Qm rest) (Q := Qm) (fun σ' a' w' hk hi' => opsQ_wp rd n hQ rest σ' a' w' hi' hk)
    exact this
theorem W.region [Lays] {id : Nat} {ops : List Oper} {Q : Exit → St → Prop} (h : opsQ P ops (Q .normal) ops σ) : W P (.region id ops.toArray false) Q σ := fun _ _ _ _ _ rd n _ hi hq =>
  wpIn_region_lit (opsQ_wp rd.1 n (fun _ _ _ q hi' => hq _ _ _ _ q hi') ops σ _ _ hi h)
theorem init_tmps [Lays] {as : List D} {vs : List Value} {A : Bool → Nat → Prop} (h : RepDs w A G as vs) (nt : Nat) (hn : as.length ≤ nt) :
    (vs.toArray ++ Array.replicate (nt - vs.toArray.size) undef).size = nt ∧ ∀ (t : Nat) (d : D), as[t]? = some d → ∃ y, (vs.toArray ++ Array.replicate (nt - vs.toArray.size) undef)[t]? = some y ∧ RepD w A G d y := by
  have hl := h.length
  refine ⟨by simp; omega, fun t d ht => ?_⟩
  obtain ⟨y, hy, hr⟩ := h.get ht
  refine ⟨y, ?_, hr⟩
  have hlt : t < vs.length := by
    rcases Nat.lt_or_ge t vs.length with h | h
    · exact h
    · rw [List.getElem?_eq_none h] at hy; cases hy
  rw [Array.getElem?_append_left (by simpa using hlt)]
  simpa using hy
def idxs {α : Type} : Nat → List α → List (Nat × α)
  | _, [] => []
  | k, x :: l => (k, x) :: idxs (k + 1) l
theorem get_idxs {α : Type} (t : Nat) : ∀ (l : List α) (k : Nat), get t (idxs k l) = if t < k then none else l[t - k]?
  | [], k => by simp [idxs, get]
  | x :: l, k => by
    simp only [idxs, get, get_idxs t l (k + 1)]
    by_cases h1 : t = k
    · subst h1; simp
    · by_cases h2 : t < k
      · rw [if_neg h1, if_pos (by omega), if_pos h2]
      · rw [if_neg h1, if_neg (by omega), if_neg h2]
        rw [show t - k = (t - (k + 1)) + 1 by omega]
        simp
def initSt (fn : Func) (as : List D) (bi : List (Nat × Blk)) : St := { nt := fn.ntmps, tm := idxs 0 as, bx := bi }
def resD [Lays] (P : Program) (σ : St) : List ResultVar → Option (List D)
  | [] => some []
  | .tmp t :: l => match resD P σ l with
    | some ds => some (σ.op (.tmp t) :: ds)
    | none => none
  | .cell t ty :: l => match tyI P ty, resD P σ l with
    | some ti, some ds => match σ.loadAt ti (σ.op (.tmp t)) with
      | some d => some (d :: ds)
      | none => none
    | _, _ => none
def oneD : List D → D
  | [d] => d
  | ds => .tup ds
mutual
def C.nb : C → Bool
  | .v _ => true
  | .sl bw _ es => !bw && C.nbss es
  | .cl bw _ es => !bw && C.nbss es
  | .ro bw cs _ => !bw && C.nbs cs
  | .fn _ fs caps => C.nbs fs && C.nbs caps
def C.nbs : List C → Bool
  | [] => true
  | c :: cs => C.nb c && C.nbs cs
def C.nbss : List (List C) → Bool
  | [] => true
  | e :: es => C.nbs e && C.nbss es
end
mutual
def D.nb : D → Bool
  | .c x => x.nb
  | .agg cs => D.nbs cs
  | .tup cs => D.nbs cs
  | .fn _ fs caps => D.nbs fs && D.nbs caps
  | _ => true
def D.nbs : List D → Bool
  | [] => true
  | d :: ds => D.nb d && D.nbs ds
end
def Blk.nb : Blk → Bool
  | .box cs => D.nbs cs
  | .row _ es => es.all D.nbs
  | .lp _ _ tm => tm.all fun p => p.2.nb
  | .map _ ds => D.nbs ds
  | .pmap _ _ ds => D.nbs ds
  | .pbox _ ds => D.nbs ds
section nb
variable {A A' : Bool → Nat → Prop}
mutual
theorem RepC.nb (hA : ∀ b, ¬ A false b → ¬ A' false b) : ∀ (c : C) (y : Value), c.nb = true → RepC w A c y → RepC w A' c y
  | .v _, _, _, h => h
  | .sl bw n es, y, hn, h => by
    simp only [C.nb, Bool.and_eq_true, Bool.not_eq_true'] at hn
    obtain ⟨rfl, hn⟩ := hn
    obtain ⟨a0, cap, rfl, hc, h⟩ := h
    refine ⟨a0, cap, rfl, hc, h.imp id ?_⟩
    rintro ⟨b, off, rfl, hb, ha, h⟩
    exact ⟨b, off, rfl, hb, hA b ha, RepEs.nb hA n es b off hn h⟩
  | .cl bw n es, y, hn, h => by
    simp only [C.nb, Bool.and_eq_true, Bool.not_eq_true'] at hn
    obtain ⟨rfl, hn⟩ := hn
    obtain ⟨a0, rfl, h⟩ := h
    refine ⟨a0, rfl, h.imp id ?_⟩
    rintro ⟨b, off, rfl, hb, ha, h⟩
    exact ⟨b, off, rfl, hb, hA b ha, RepEs.nb hA n es b off hn h⟩
  | .ro bw cs off, y, hn, h => by
    simp only [C.nb, Bool.and_eq_true, Bool.not_eq_true'] at hn
    obtain ⟨rfl, hn⟩ := hn
    obtain ⟨b, o, rfl, hb, ha, h⟩ := h
    exact ⟨b, o, rfl, hb, hA b ha, RepCs.nb hA cs b o hn h⟩
  | .fn f fs caps, y, hn, h => by
    simp only [C.nb, Bool.and_eq_true] at hn
    obtain ⟨x1, x2, rfl, h1, h2⟩ := h
    exact ⟨x1, x2, rfl, RepVs.nb hA fs _ hn.1 h1, RepVs.nb hA caps _ hn.2 h2⟩
theorem RepCs.nb (hA : ∀ b, ¬ A false b → ¬ A' false b) : ∀ (cs : List C) (b o : Nat), C.nbs cs = true → RepCs w A cs b o → RepCs w A' cs b o
  | [], _, _, _, _ => trivial
  | c :: cs, b, o, hn, h => by
    simp only [C.nbs, Bool.and_eq_true] at hn
    obtain ⟨⟨x, hx, hc⟩, h⟩ := h
    exact ⟨⟨x, hx, RepC.nb hA c x hn.1 hc⟩, RepCs.nb hA cs b (o + 1) hn.2 h⟩
theorem RepEs.nb (hA : ∀ b, ¬ A false b → ¬ A' false b) : ∀ (n : Nat) (es : List (List C)) (b o : Nat), C.nbss es = true → RepEs w A n es b o → RepEs w A' n es b o
  | _, [], _, _, _, _ => trivial
  | n, e :: es, b, o, hn, h => by
    simp only [C.nbss, Bool.and_eq_true] at hn
    obtain ⟨h1, h2, h3⟩ := h
    exact ⟨h1, RepCs.nb hA e b o hn.1 h2, RepEs.nb hA n es b (o + n) hn.2 h3⟩
theorem RepVs.nb (hA : ∀ b, ¬ A false b → ¬ A' false b) : ∀ (cs : List C) (l : List Value), C.nbs cs = true → RepVs w A cs l → RepVs w A' cs l
  | [], _, _, h => h
  | c :: cs, l, hn, h => by
    simp only [C.nbs, Bool.and_eq_true] at hn
    obtain ⟨y, ys, rfl, h1, h2⟩ := h
    exact ⟨y, ys, rfl, RepC.nb hA c y hn.1 h1, RepVs.nb hA cs ys hn.2 h2⟩
end
mutual
theorem RepD.nb [Lays] (hA : ∀ b, ¬ A false b → ¬ A' false b) : ∀ (d : D) (y : Value), d.nb = true → RepD w A G d y → RepD w A' G d y
  | .top, _, _, _ => trivial
  | .c x, y, hn, h => RepC.nb hA x y hn h
  | .agg cs, y, hn, h => by
    obtain ⟨ys, rfl, h⟩ := h
    exact ⟨ys, rfl, RepDs.nb hA cs _ hn h⟩
  | .tup cs, y, hn, h => by
    obtain ⟨ys, rfl, h⟩ := h
    exact ⟨ys, rfl, RepDs.nb hA cs _ hn h⟩
  | .box _ _, _, _, h => h
  | .own _, _, _, h => h
  | .elo _ _ _ _, _, _, h => h
  | .win _ _ _ _, _, _, h => h
  | .hd _, _, _, h => h
  | .fn f fs caps, y, hn, h => by
    simp only [D.nb, Bool.and_eq_true] at hn
    obtain ⟨x1, x2, rfl, h1, h2⟩ := h
    exact ⟨x1, x2, rfl, RepDs.nb hA fs _ hn.1 h1, RepDs.nb hA caps _ hn.2 h2⟩
theorem RepDs.nb [Lays] (hA : ∀ b, ¬ A false b → ¬ A' false b) : ∀ (ds : List D) (l : List Value), D.nbs ds = true → RepDs w A G ds l → RepDs w A' G ds l
  | [], _, _, h => h
  | d :: ds, l, hn, h => by
    simp only [D.nbs, Bool.and_eq_true] at hn
    obtain ⟨y, ys, rfl, h1, h2⟩ := h
    exact ⟨y, ys, rfl, RepD.nb hA d y hn.1 h1, RepDs.nb hA ds ys hn.2 h2⟩
end
theorem nbs_flatten : ∀ (es : List (List D)), es.all D.nbs = true → D.nbs es.flatten = true
  | [], _ => rfl
  | e :: es, h => by
    simp only [List.all_cons, Bool.and_eq_true] at h
    have app : ∀ a b : List D, D.nbs a = true → D.nbs b = true → D.nbs (a ++ b) = true := by
      intro a b ha hb
      induction a with
      | nil => exact hb
      | cons d ds ih =>
        simp only [D.nbs, Bool.and_eq_true] at ha
        simp only [List.cons_append, D.nbs, Bool.and_eq_true]
        exact ⟨ha.1, ih ha.2⟩
    exact app e _ h.1 (nbs_flatten es h.2)
theorem RepB.nb [Lays] (hA : ∀ b, ¬ A false b → ¬ A' false b) {k : Nat} (x : Blk) (hn : x.nb = true) (h : RepB w A G k x) : RepB w A' G k x := by
  cases x with
  | lp o v tm => exact ⟨h.1, fun p hp => RepD.nb hA p.2 _ (by simp only [Blk.nb, List.all_eq_true] at hn; exact hn p hp) (h.2 p hp)⟩
  | box cs =>
    obtain ⟨b, arr, E, h1, h2, h3⟩ := h
    exact ⟨b, arr, E, h1, h2, RepDs.nb hA cs _ hn h3⟩
  | map ks ds =>
    obtain ⟨b, ents, clk, h1, h2, h4, h3⟩ := h
    exact ⟨b, ents, clk, h1, h2, h4, RepDs.nb hA ds _ hn h3⟩
  | pmap l ks ds =>
    obtain ⟨b, ents, clk, h1, h2, h4, h3⟩ := h
    exact ⟨b, ents, clk, h1, h2, h4, RepDs.nb hA ds _ hn h3⟩
  | pbox l ds =>
    obtain ⟨b, arr, E, h1, h2, h3⟩ := h
    exact ⟨b, arr, E, h1, h2, RepDs.nb hA ds _ hn h3⟩
  | row n es =>
    obtain ⟨h0, h1⟩ := h
    refine ⟨h0, h1.imp id ?_⟩
    rintro ⟨b, arr, E, cap, h1, h2, h3, h4, h5, h6⟩
    exact ⟨b, arr, E, cap, h1, h2, h3, h4, h5, RepDs.nb hA _ _ (nbs_flatten es hn) h6⟩
end nb
mutual
inductive Wk : D → D → Prop
  | refl (d : D) : Wk d d
  | top (d : D) : Wk d .top
  | nil {a : Option Addr} {c : Nat} (bw : Bool) (n : Nat) : Wk (.c (.v (.slice a 0 c))) (.c (.sl bw n []))
  | agg {ds ds' : List D} : Wks ds ds' → Wk (.agg ds) (.agg ds')
  | tup {ds ds' : List D} : Wks ds ds' → Wk (.tup ds) (.tup ds')
  | fnc (f : Fn) (fs caps : List C) : Wk (.fn f (fs.map D.c) (caps.map D.c)) (.c (.fn f fs caps))
inductive Wks : List D → List D → Prop
  | nil : Wks [] []
  | cons {d d' : D} {ds ds' : List D} : Wk d d' → Wks ds ds' → Wks (d :: ds) (d' :: ds')
end
mutual
theorem Wk.sound [Lays] {w : World} {A : Bool → Nat → Prop} {G : Gh} : ∀ {d d' : D}, Wk d d' → ∀ {y : Value}, RepD w A G d y → RepD w A G d' y
  | _, _, .refl _, _, h => h
  | _, _, .top _, _, _ => trivial
  | _, _, .nil bw n, y, h => by
    obtain ⟨rfl, _⟩ := h
    exact ⟨_, _, rfl, Nat.zero_le _, .inl rfl⟩
  | _, _, .fnc f fs caps, y, h => by
    obtain ⟨x1, x2, rfl, h1, h2⟩ := h
    exact ⟨x1, x2, rfl, RepDs.toVs h1, RepDs.toVs h2⟩
  | _, _, .agg hs, y, h => by
    obtain ⟨ys, rfl, h⟩ := h
    exact ⟨ys, rfl, Wks.sound hs h⟩
  | _, _, .tup hs, y, h => by
    obtain ⟨ys, rfl, h⟩ := h
    exact ⟨ys, rfl, Wks.sound hs h⟩
theorem Wks.sound [Lays] {w : World} {A : Bool → Nat → Prop} {G : Gh} : ∀ {ds ds' : List D}, Wks ds ds' → ∀ {ys : List Value}, RepDs w A G ds ys → RepDs w A G ds' ys
  | _, _, .nil, _, h => h
  | _, _, .cons h1 hs, _, h => by
    obtain ⟨y, ys, rfl, h2, h3⟩ := h
    exact ⟨y, ys, rfl, Wk.sound h1 h2, Wks.sound hs h3⟩
end
theorem Wks.refl : ∀ ds : List D, Wks ds ds
  | [] => .nil
  | d :: ds => .cons (.refl d) (Wks.refl ds)
theorem Wks.length : ∀ {ds ds' : List D}, Wks ds ds' → ds'.length = ds.length
  | _, _, .nil => rfl
  | _, _, .cons _ h => by simp [Wks.length h]
theorem Wks.append : ∀ {ds ds' es es' : List D}, Wks ds ds' → Wks es es' → Wks (ds ++ es) (ds' ++ es')
  | _, _, _, _, .nil, h => h
  | _, _, _, _, .cons h1 h, h' => .cons h1 (Wks.append h h')
def retQ [Lays] (P : Program) (fn : Func) (r : D) (bo : List (Nat × Blk)) : Exit → St → Prop := fun e σ =>
  (e = .ret ∨ e = .normal) ∧ ∃ σ' ds, Ent σ σ' ∧ resD P σ' fn.results.toList = some ds ∧ Wk (oneD ds) r ∧ r.nb = true ∧ (∀ k x, get k bo = some x → get k σ'.bx = some x ∧ x.nb = true)
theorem get_mem {α : Type} {k : Nat} {x : α} : ∀ {l : List (Nat × α)}, get k l = some x → (k, x) ∈ l
  | [], h => by cases h
  | p :: l, h => by
    simp only [get] at h
    split at h
    · rename_i e; cases h; subst e; simp
    · exact List.mem_cons_of_mem _ (get_mem h)
theorem res_sound [Lays] (h : Core N O0 w0 σ G a w) : ∀ (l : List ResultVar) (ds : List D), resD P σ l = some ds → ∃ vs, (l.mapM (m := Sem) fun
      | .tmp t => pure (a.tmps.getD t undef)
      | .cell p t => do loadVar t (← asAddr (a.tmps.getD p undef))).run P w = .ok vs w ∧ RepDs w (Av N G σ.bx) G ds vs
  | [], ds, hd => by cases hd; exact ⟨[], rfl, rfl⟩
  | .tmp t :: l, ds, hd => by
    simp only [resD] at hd
    split at hd
    · rename_i ds' hds
      cases hd
      obtain ⟨vs, hv, hr⟩ := res_sound h l ds' hds
      refine ⟨a.eval (.tmp t) :: vs, ?_, ⟨_, _, rfl, h.op (.tmp t), hr⟩⟩
      simp only [List.mapM_cons, Sem.run_bind, Sem.run_pure, Result.andThen_ok, hv]
      rfl
    · cases hd
  | .cell t ty :: l, ds, hd => by
    simp only [resD] at hd
    split at hd
    · rename_i ti ds' hti hds
      split at hd
      · rename_i d hld
        cases hd
        obtain ⟨vs, hv, hr⟩ := res_sound h l ds' hds
        obtain ⟨v, hrun, hrv⟩ := loadAt_sound (P := P) h hti (h.op (.tmp t)) hld
        have hsure : ∃ ad, a.eval (.tmp t) = .pointer (some ad) := by
          cases hq : a.eval (.tmp t) <;> simp only [hq, Instr.loadAt, Instr.sureAddr, Sem.run_bind, run_stuck, Result.andThen_halt, reduceCtorEq] at hrun
          rename_i p
          cases p with
          | none => simp at hrun
          | some ad => exact ⟨ad, rfl⟩
        obtain ⟨ad, had⟩ := hsure
        refine ⟨v :: vs, ?_, ⟨_, _, rfl, hrv, hr⟩⟩
        have had' : a.tmps.getD t undef = .pointer (some ad) := had
        simp only [had, Instr.loadAt, Instr.sureAddr, Sem.run_bind, Sem.run_pure, Result.andThen_ok] at hrun
        have hasA : (asAddr (a.tmps.getD t undef)).run P w = .ok ad w := by rw [had']; rfl
        simp only [List.mapM_cons, Sem.run_bind, hasA, Sem.run_pure, Result.andThen_ok, hrun, hv]
      · cases hd
    · cases hd
theorem results_sound [Lays] (h : Core N O0 w0 σ G a w) {fn : Func} {ds : List D} (hd : resD P σ fn.results.toList = some ds) : ∃ v, (results fn a.tmps).run P w = .ok v w ∧ RepD w (Av N G σ.bx) G (oneD ds) v := by
  obtain ⟨vs, hv, hr⟩ := res_sound (P := P) h _ _ hd
  have hl := hr.length
  unfold results
  rw [Array.mapM_eq_mapM_toList]
  simp only [Sem.run_bind, Sem.run_map]
  erw [hv]
  simp only [Result.andThen_ok, Sem.run_pure]
  by_cases h1 : ds.length = 1
  · obtain ⟨d, rfl⟩ := List.length_eq_one_iff.1 h1
    obtain ⟨y, ys, rfl, h1, h2⟩ := hr
    have e : ys = [] := h2
    subst e
    exact ⟨y, by simp, h1⟩
  · have e1 : oneD ds = .tup ds := by
      unfold oneD
      split
      · simp at h1
      · rfl
    refine ⟨.tuple vs.toArray, ?_, ?_⟩
    · have : ¬ vs.toArray.size = 1 := by simpa [hl] using h1
      rw [dif_neg this]
    · rw [e1]
      exact ⟨_, rfl, by simpa using hr⟩
theorem leaves_marks [Lays] {fn : Func} {rd : Option Nat} {n : Nat} {R : Ending → World → Prop} {tmps : Array Value} : ∀ (rs : List Nat) (w : World), rs.Nodup → (∀ r ∈ rs, w.heap[r]? = some (.deferred (some []))) →
    (∀ w', (∀ b, b ∉ rs → w'.heap[b]? = w.heap[b]?) → (∀ b o, w'.cell? ⟨b, o, none⟩ = w.cell? ⟨b, o, none⟩) → w'.heap.size = w.heap.size → w'.os = w.os → w'.tape = w.tape → w'.output = w.output → ∃ v, (results fn tmps).run P w' = .ok v w' ∧ R (.returned v) w') →
    LeavesInM (Fx rd) n P fn tmps R (rs.map fun r => { target := .collected r, args := #[] }) .returning w
  | [], w, _, _, h => by
    obtain ⟨v, hv, hr⟩ := h w (fun _ _ => rfl) (fun _ _ => rfl) rfl rfl rfl rfl
    exact ⟨v, hv, hr⟩
  | r :: rs, w, hn, hd, h => by
    simp only [List.map_cons, List.nodup_cons] at hn ⊢
    have hk := run_takeDeferred (P := P) (hd r (by simp))
    refine ⟨by simp, .inl ⟨r, _, rfl, hk, ?_⟩⟩
    have hlt := lt_of_heap (hd r (by simp))
    refine leaves_marks rs _ hn.2 (fun r' hr' => ?_) (fun w' h1 h2 h3 h4 h5 h6 => ?_)
    · rw [World.putObj_heap_other (fun e => hn.1 (by rw [← e]; exact hr'))]
      exact hd r' (by simp [hr'])
    · refine h w' (fun b hb => ?_) (fun b o => ?_) (by rw [h3]; simp) h4 h5 h6
      · simp only [List.mem_cons, not_or] at hb
        rw [h1 b hb.2, World.putObj_heap_other hb.1]
      · rw [h2]
        by_cases e : b = r
        · subst e
          simp [World.cell?, World.putObj_heap_same hlt, hd b (by simp)]
        · exact cell?_of_heap (World.putObj_heap_other e) o
theorem DCall.intro [Lays] {f : FuncId} {fn : Func} {c : Code} {as : List D} {bi : List (Nat × Blk)} {r : D} {bo : List (Nat × Blk)} (hf : P.funcs[f]? = some fn) (hb : fn.body = some c) (hbd : hasBody P f = true) (hn : as.length ≤ fn.ntmps) (hok : okRes r bo)
    (h : W P c (retQ P fn r bo) (initSt fn as bi)) : DCall P f as bi r bo := by
  refine ⟨hbd, hok, fun N G w vs hN hdis hheap has => ?_⟩
  refine (callsIn_wide (n := 0)).1 ?_
  obtain ⟨htsz, htm⟩ := init_tmps has fn.ntmps hn
  have hcore : Core N (owned G bi) w (initSt fn as bi) G { tmps := vs.toArray ++ Array.replicate (fn.ntmps - vs.toArray.size) undef, defers := [] } w := {
    rep := hheap.rep
    inj := hheap.inj
    own := fun b hb => ⟨hheap.lt b hb, .inl hb⟩
    tm := fun t d ht => by
      simp only [initSt, get_idxs] at ht
      exact htm t d (by simpa using ht)
    nt := htsz
    df := ⟨[], rfl, List.nodup_nil, by simp⟩
    fr := ⟨rfl, rfl, rfl, Nat.le_refl _, fun _ _ _ => rfl⟩
    nlt := hN
    odis := hdis
    laid := hheap.laid.sub (fun b hb => by
      rcases hb with h | h
      · exact .inr ⟨rfl, h⟩
      · exact .inl h) }
  refine callsIn_of_wp_marks hf hb trivial ?_ rfl
  refine h N (owned G bi) w _ w ⟨none, fun l hl => by cases hl⟩ 0 _ ⟨G, hcore⟩ ?_
  rintro e σ a w1 ⟨he, σ', ds, hent, hres, hr, hnb, hbo⟩ hi
  obtain ⟨G1, hc⟩ := hent _ _ _ _ _ hi
  have fin : LeavesInM (Fx none) 0 P fn a.tmps (fun e w' => ∃ G' v, e = .returned v ∧ HeapOk (AvR N G' bo) w' G' bo ∧ RepD w' (AvR N G' bo) G' r v ∧ Fr (owned G bi) w w' ∧ (∀ b, owned G' bo b → owned G bi b ∨ w.heap.size ≤ b)) a.defers .returning w1 := by
    obtain ⟨rs, hrs, hnd, hrd⟩ := hc.df
    rw [hrs]
    refine leaves_marks rs w1 hnd (fun r hr => (hrd r hr).1) ?_
    intro w' h1 h2 h3 h4 h5 h6
    have hbx : ∀ k x, get k bo = some x → get k σ'.bx = some x ∧ x.nb = true := hbo
    have hoO : ∀ b, owned G1 bo b → owned G1 σ'.bx b := fun b ⟨k, x, hk, hb⟩ => ⟨k, x, (hbx k x hk).1, hb⟩
    have hA : ∀ b, ¬ Av N G1 σ'.bx false b → ¬ AvR N G1 bo false b := fun b hA hA' => by
      rcases hA' with h | h | h
      · cases h
      · exact hA (.inl (hoO b h))
      · exact hA (.inr ⟨rfl, h⟩)
    have hkp : ∀ A, Keeps w1 w' A A := fun A => ⟨Nat.le_of_eq h3.symm, fun _ _ _ h => h, fun _ b _ _ o => h2 b o⟩
    have hblk : ∀ (b : Nat) (o : Obj), w1.heap[b]? = some o → okObj o = true → w'.heap[b]? = w1.heap[b]? := fun b o hb ho => h1 b (fun hm => by have := (hrd b hm).1; rw [hb] at this; cases this; cases ho)
    obtain ⟨v, hv, hrv⟩ := results_sound (P := P) (a := { tmps := a.tmps, defers := [] }) (w := w') (σ := σ') (N := N) (O0 := owned G bi) (w0 := w) (G := G1) (fn := fn) (ds := ds) {
      rep := fun k x hk => RepB.mono (hkp _) (fun _ => False) (fun _ _ => ⟨rfl, rfl⟩) x (fun h => h) (fun b hb => by
        obtain ⟨o, hh, ho⟩ := hc.cells hk hb
        exact hblk b o hh ho) (fun _ h => h.elim) (hc.rep k x hk)
      inj := hc.inj
      own := fun b hb => ⟨by rw [h3]; exact (hc.own b hb).1, (hc.own b hb).2⟩
      tm := fun t d ht => let ⟨y, hy, hr⟩ := hc.tm t d ht; ⟨y, hy, RepD.keep (hkp _) d y hr⟩
      nt := hc.nt
      df := ⟨[], rfl, List.nodup_nil, by simp⟩
      fr := ⟨h4.trans hc.fr.os, h5.trans hc.fr.tape, h6.trans hc.fr.output, by rw [h3]; exact hc.fr.size, fun b hb hO => by
        rw [h1 b (fun hm => by have := (hrd b hm).2; omega)]
        exact hc.fr.keep b hb hO⟩
      nlt := hc.nlt
      odis := hc.odis
      laid := hc.laid } hres
    have hrv := hr.sound hrv
    refine ⟨v, hv, G1, v, rfl, ?_, RepD.nb hA r v hnb hrv, ⟨h4.trans hc.fr.os, h5.trans hc.fr.tape, h6.trans hc.fr.output, by rw [h3]; exact hc.fr.size, fun b hb hO => ?_⟩, fun b hb => (hc.own b (hoO b hb)).2⟩
    · exact {
        rep := fun k x hk => by
          obtain ⟨h7, h8⟩ := hbx k x hk
          refine RepB.nb hA x h8 (RepB.mono (hkp _) (fun _ => False) (fun _ _ => ⟨rfl, rfl⟩) x (fun h => h) (fun b hb => ?_) (fun _ h => h.elim) (hc.rep k x h7))
          obtain ⟨o, hh, ho⟩ := hc.cells h7 hb
          exact hblk b o hh ho
        inj := fun k k' x x' b hk hk' => hc.inj k k' x x' b (hbx k x hk).1 (hbx k' x' hk').1
        lt := fun b hb => by rw [h3]; exact (hc.own b (hoO b hb)).1
        laid := ((hc.laidA.sub (A' := fun b => N b ∨ owned G1 bo b) (fun b hb => hb.imp id (hoO b))).sub (A' := AvR N G1 bo false) (fun b hb => by
          rcases hb with h | h | h
          · cases h
          · exact .inr h
          · exact .inl h)).keepC (by rw [h3]; exact Nat.le_refl _) (fun b o => h2 b o) }
    · rw [h1 b (fun hm => by have := (hrd b hm).2; omega)]
      exact hc.fr.keep b hb hO
  rcases he with rfl | rfl
  · exact fin
  · exact fin
end Go.Dw
end
