/- Helpers of a proof. -/
import Derived.Test.YtnbgonichmcfaaaW14
set_option linter.unusedVariables false
set_option linter.unusedSimpArgs false
section
namespace Go.Dw
open Go.RowKit
variable {P : Program} {dr : Bool} {σ σ' : St} {Q : St → Prop} {l : List SO} {nt : Nat} {tm : List (Nat × D)} {bx : List (Nat × Blk)}
def pureK : Op → Bool
  | .move _ | .assign _ | .pick .. | .slice .. | .build .. | .load .. | .fieldAddr .. | .field .. | .indexAddr .. | .index .. | .unOp .. | .binOp .. | .convert .. | .makeFunc .. | .extract .. | .lookup .. | .nilCheck _ => true
  | .call { callee := .builtin .len, .. } => true
  | .call { callee := .builtin .max, .. } => true
  | .call { callee := .builtin .min, .. } => true
  | _ => false
def allocK : Op → Bool
  | .alloc _ | .box _ _ | .buildSlice _ _ _ | .makeMap _ _ | .makeSlice _ _ _ => true
  | _ => false
def menS (k : Nat) (tm : List (Nat × D)) (bx : List (Nat × Blk)) : Bool := tm.any (fun p => p.2.men k) || bx.any (fun p => p.2.men k)
theorem o_nil [Lays] : opsS P dr Q [] σ = Q σ := rfl
theorem o_pure [Lays] {d : Tmp} {op : Op} (h : pureK op = true) : opsS P dr Q (⟨some d, op, none⟩ :: l) ⟨nt, tm, bx⟩ = (d < nt ∧ ∃ v, evP P ⟨nt, tm, bx⟩ op = some v ∧ opsS P dr Q l ⟨nt, ins d v tm, bx⟩) := by
  have key : ∀ σ', OpTo P dr (SO.up ⟨some d, op, none⟩) ⟨nt, tm, bx⟩ σ' ↔ d < nt ∧ ∃ v, evP P ⟨nt, tm, bx⟩ op = some v ∧ σ' = ⟨nt, ins d v tm, bx⟩ := by
    intro σ'
    unfold OpTo
    refine and_congr ⟨fun h => h d rfl, fun h t ht => by cases ht; exact h⟩ ?_
    simp only [SO.up]
    cases op <;> simp only [pureK, Bool.false_eq_true] at h <;> try exact Iff.rfl
    rename_i c
    obtain ⟨cal, args, tys⟩ := c
    cases cal <;> first | (cases h; done) | skip
    rename_i b
    cases b <;> first | exact Iff.rfl | cases h
  have hq : quietS ⟨some d, op, none⟩ = true := by
    cases op <;> first | rfl | (cases h; done) | skip
    rename_i c
    obtain ⟨cal, args, tys⟩ := c
    cases cal <;> first | (cases h; done) | skip
    rename_i b
    cases b <;> first | rfl | cases h
  refine propext ⟨?_, ?_⟩
  · rintro ⟨σ', h1, _, h2⟩
    obtain ⟨h3, v, h4, rfl⟩ := (key σ').1 h1
    exact ⟨h3, v, h4, h2⟩
  · rintro ⟨h3, v, h4, h5⟩
    exact ⟨_, (key _).2 ⟨h3, v, h4, rfl⟩, .inr (.inl hq), h5⟩
theorem o_alloc [Lays] {d : Tmp} {op : Op} (h : allocK op = true) : opsS P dr Q (⟨some d, op, none⟩ :: l) ⟨nt, tm, bx⟩ =
    (d < nt ∧ get d bx = none ∧ menS d tm bx = false ∧ ∃ r, evA P ⟨nt, tm, bx⟩ d op = some r ∧ r.2.men d = false ∧ opsS P dr Q l ⟨nt, ins d r.1 tm, ins d r.2 bx⟩) := by
  have key : ∀ σ', OpTo P dr (SO.up ⟨some d, op, none⟩) ⟨nt, tm, bx⟩ σ' ↔ (d < nt ∧ get d bx = none ∧ menS d tm bx = false ∧ ∃ r, evA P ⟨nt, tm, bx⟩ d op = some r ∧ r.2.men d = false ∧ σ' = ⟨nt, ins d r.1 tm, ins d r.2 bx⟩) := by
    intro σ'
    unfold OpTo
    refine and_congr ⟨fun h => h d rfl, fun h t ht => by cases ht; exact h⟩ ?_
    simp only [SO.up]
    cases op <;> simp only [allocK, Bool.false_eq_true] at h
    all_goals
      constructor
      · rintro ⟨k, d', x, hk, h1, h2, h3, h4, h5⟩
        cases hk
        exact ⟨h2, h3, ⟨d', x⟩, h1, h4, h5⟩
      · rintro ⟨h2, h3, ⟨d', x⟩, h1, h4, h5⟩
        exact ⟨_, d', x, rfl, h1, h2, h3, h4, h5⟩
  refine propext ⟨?_, ?_⟩
  · rintro ⟨σ', h1, _, h2⟩
    obtain ⟨h3, h4, h5, r, h6, h7, rfl⟩ := (key σ').1 h1
    exact ⟨h3, h4, h5, r, h6, h7, h2⟩
  · rintro ⟨h3, h4, h5, r, h6, h7, h8⟩
    exact ⟨_, (key _).2 ⟨h3, h4, h5, r, h6, h7, rfl⟩, .inr (.inl (by cases op <;> first | rfl | cases h)), h8⟩
theorem o_store [Lays] {t : TypeId} {x y : Operand} : opsS P dr Q (⟨none, .store t x y, none⟩ :: l) σ = ∃ σ', evS P σ t x y = some σ' ∧ (dr = false ∨ wfS σ') ∧ opsS P dr Q l σ' := by
  refine propext ⟨?_, ?_⟩
  · rintro ⟨σ', ⟨_, _, h1⟩, h3, h2⟩
    refine ⟨σ', h1, ?_, h2⟩
    rcases h3 with h3 | h3 | h3
    · exact .inl h3
    · cases h3
    · exact .inr h3
  · rintro ⟨σ', h1, h3, h2⟩; exact ⟨σ', ⟨fun t h => (by cases h), rfl, h1⟩, h3.imp id .inr, h2⟩
theorem o_update [Lays] {t : TypeId} {x y z : Operand} : opsS P dr Q (⟨none, .mapUpdate t x y z, none⟩ :: l) σ = ∃ σ', evM P σ t x y z = some σ' ∧ (dr = false ∨ wfS σ') ∧ opsS P dr Q l σ' := by
  refine propext ⟨?_, ?_⟩
  · rintro ⟨σ', ⟨_, _, h1⟩, h3, h2⟩
    refine ⟨σ', h1, ?_, h2⟩
    rcases h3 with h3 | h3 | h3
    · exact .inl h3
    · cases h3
    · exact .inr h3
  · rintro ⟨σ', h1, h3, h2⟩; exact ⟨σ', ⟨fun t h => (by cases h), rfl, h1⟩, h3.imp id .inr, h2⟩
theorem o_append [Lays] {d : Tmp} {s x : Operand} {st xt : TypeId} : opsS P dr Q (⟨some d, .call { callee := .builtin .append, args := #[s, x], argTypes := #[st, xt] }, none⟩ :: l) σ =
    (d < σ.nt ∧ ∃ r, appD P σ d st xt (σ.op s) (σ.op x) = some r ∧ r.2.1 * r.2.2 ≤ 2 ^ 44 ∧ r.2.1 ≤ 2 ^ 44 ∧ (dr = false ∨ wfS r.1) ∧ opsS P dr Q l r.1) := by
  refine propext ⟨?_, ?_⟩
  · rintro ⟨σ', ⟨h0, k, s', x', st', xt', len, bytes, hk, ha, ht, h1, h2, h3⟩, h5, h4⟩
    cases hk; cases ha; cases ht
    refine ⟨h0 _ rfl, ⟨σ', len, bytes⟩, h1, h2, h3, ?_, h4⟩
    rcases h5 with h5 | h5 | h5
    · exact .inl h5
    · cases h5
    · exact .inr h5
  · rintro ⟨h0, ⟨σ', len, bytes⟩, h1, h2, h3, h5, h4⟩
    exact ⟨σ', ⟨fun t h => (by cases h; exact h0), _, _, _, _, _, len, bytes, rfl, rfl, rfl, h1, h2, h3⟩, h5.imp id .inr, h4⟩
theorem o_copy [Lays] {d : Tmp} {s x : Operand} {st xt : TypeId} : opsS P dr Q (⟨some d, .call { callee := .builtin .copy, args := #[s, x], argTypes := #[st, xt] }, none⟩ :: l) σ =
    (d < σ.nt ∧ ∃ r, copyD P σ st (σ.op s) (σ.op x) = some r ∧ (dr = false ∨ wfS (r.1.put d (.c (.v (.int .i64 r.2))))) ∧ opsS P dr Q l (r.1.put d (.c (.v (.int .i64 r.2))))) := by
  refine propext ⟨?_, ?_⟩
  · rintro ⟨σ', ⟨h0, k, s', x', st', xt', σ1, m, hk, ha, ht, h1, rfl⟩, h5, h4⟩
    cases hk; cases ha; cases ht
    refine ⟨h0 _ rfl, ⟨σ1, m⟩, h1, ?_, h4⟩
    rcases h5 with h5 | h5 | h5
    · exact .inl h5
    · cases h5
    · exact .inr h5
  · rintro ⟨h0, ⟨σ1, m⟩, h1, h5, h4⟩
    exact ⟨_, ⟨fun t h => (by cases h; exact h0), _, _, _, _, _, σ1, m, rfl, rfl, rfl, h1, rfl⟩, h5.imp id .inr, h4⟩
theorem o_call [Lays] {dst : Option Tmp} {f : Operand} {args : Array Operand} {tys : Array TypeId} {g : FuncId} {fs caps as : List D} {mv : Option Nat} {r : D} {bo : List (Nat × Blk)} (hc : DCall P g as (σ.rowsOf mv) r bo) (hce : calleeD (σ.op f) = some (g, fs, caps))
    (hcl : closeDs σ mv (fs ++ args.toList.map σ.op ++ caps) = some as) (hfr : freshBs (σ.moved mv) bo) (hdr : dr = true → mv = none ∧ okB dst bo ∧ dst.isSome = true) (hd : ∀ t, dst = some t → t < σ.nt) (h : opsS P dr Q l (((σ.moved mv).addBs bo).putO dst r)) :
    opsS P dr Q (⟨dst, .call { callee := .value f, args := args, argTypes := tys }, none⟩ :: l) σ :=
  ⟨_, ⟨hd, .inl ⟨_, .inl rfl, g, fs, caps, mv, as, r, bo, hce, .inl hcl, hc, hfr, fun e => ⟨(hdr e).1, (hdr e).2.1⟩, rfl⟩⟩, by
    cases dr with
    | false => exact .inl rfl
    | true => exact .inr (.inl (by simp [quietS, quietK, (hdr rfl).2.2])), h⟩
theorem o_callE [Lays] {σ0 : St} {dst : Option Tmp} {f : Operand} {args : Array Operand} {tys : Array TypeId} {g : FuncId} {fs caps as : List D} {r : D} {bo : List (Nat × Blk)} (he : Ent σ σ0) (hn : σ0.nt = σ.nt) (hc : DCall P g as [] r bo) (hce : calleeD (σ0.op f) = some (g, fs, caps))
    (hcl : Clo σ0 none (fs ++ args.toList.map σ0.op ++ caps) as) (hfr : freshBs σ0 bo) (hd : ∀ t, dst = some t → t < σ.nt) (h : opsS P false Q l ((σ0.addBs bo).putO dst r)) :
    opsS P false Q (⟨dst, .call { callee := .value f, args := args, argTypes := tys }, none⟩ :: l) σ :=
  ⟨_, ⟨hd, .inl ⟨σ0, .inr ⟨rfl, he⟩, g, fs, caps, none, as, r, bo, hce, hcl, hc, hfr, fun e => (by cases e), rfl⟩⟩, .inl rfl, h⟩
theorem o_call0 [Lays] {d : Tmp} {f : Operand} {args : Array Operand} {tys : Array TypeId} {g : FuncId} {fs caps as : List D} {r : D} (hc : DCall P g as [] r []) (hce : calleeD (σ.op f) = some (g, fs, caps))
    (hcl : closeDs σ none (fs ++ args.toList.map σ.op ++ caps) = some as) (hd : d < σ.nt) (h : opsS P dr Q l (σ.put d r)) :
    opsS P dr Q (⟨some d, .call { callee := .value f, args := args, argTypes := tys }, none⟩ :: l) σ :=
  o_call (mv := none) (bo := []) hc hce hcl trivial (fun _ => ⟨rfl, .inl rfl, rfl⟩) (fun t ht => by cases ht; exact hd) h
theorem ent_mk [Lays] {σ σ' : St} (h : ∀ (N O0 : Nat → Prop) (w0 : World) (G : Gh) (a : Act) (w : World), Core N O0 w0 σ G a w → ∃ G', Core N O0 w0 σ' G' a w) : Ent σ σ' :=
  fun _ _ _ _ _ ⟨G, hc⟩ => h _ _ _ G _ _ hc
theorem Ent.forget [Lays] {tm' : List (Nat × D)} {bx' : List (Nat × Blk)} (ht : ∀ t d, get t tm' = some d → d = .top ∧ t < nt ∨ get t tm = some d) (hb : ∀ k x, get k bx' = some x → get k bx = some x) : Ent ⟨nt, tm, bx⟩ ⟨nt, tm', bx'⟩ := ent_mk fun N O0 w0 G a w h => by
  have ho : ∀ b, owned G bx' b → owned G bx b := fun b ⟨k, x, hk, hb'⟩ => ⟨k, x, hb k x hk, hb'⟩
  have hkp : Keeps w w (Av N G bx) (Av N G bx') := ⟨Nat.le_refl _, fun _ _ _ hA hA' => hA (hA'.imp (ho _) id), fun _ _ _ _ _ => rfl⟩
  refine ⟨G, ?_⟩
  exact {
    rep := fun k x hk => RepB.mono hkp (fun _ => False) (fun _ _ => ⟨rfl, rfl⟩) x (fun h => h) (fun _ _ => rfl) (fun _ h => h.elim) (h.rep k x (hb k x hk))
    inj := fun k k' x x' b hk hk' => h.inj k k' x x' b (hb k x hk) (hb k' x' hk')
    own := fun b hb' => h.own b (ho b hb')
    tm := fun t d hd => by
      rcases ht t d hd with ⟨rfl, hlt⟩ | h1
      · have : t < a.tmps.size := by rw [h.nt]; exact hlt
        exact ⟨a.tmps[t], by simp [this], trivial⟩
      · obtain ⟨y, hy, hr⟩ := h.tm t d h1
        exact ⟨y, hy, RepD.keep hkp d y hr⟩
    nt := h.nt
    df := h.df
    fr := h.fr
    nlt := h.nlt
    odis := h.odis
    laid := h.laid }
theorem retS_of [Lays] {res : List ResultVar} {r : D} {ds : List D} (h : resD P σ res = some ds) (hr : oneD ds = r) (hn : r.nb = true) : retS P res r [] .ret σ :=
  ⟨.inl rfl, σ, ds, Ent.refl _, h, hr ▸ .refl _, hn, fun _ _ h => by cases h⟩
theorem okRes_nil {r : D} (h : ∀ k, r.men k = false) : okRes r [] := ⟨fun k _ => h k, fun _ _ h => by cases h⟩
theorem then_normal [Lays] {y : SC} {Q : Exit → St → Prop} : thenS P y Q .normal σ = DW P y Q σ := rfl
theorem then_ret [Lays] {y : SC} {Q : Exit → St → Prop} : thenS P y Q .ret σ = Q .ret σ := rfl
theorem then_exit [Lays] {y : SC} {Q : Exit → St → Prop} {i : Nat} : thenS P y Q (.exit i) σ = Q (.exit i) σ := rfl
theorem block_normal {Q : Exit → St → Prop} {id : Nat} : blockQ id Q .normal σ = Q .normal σ := rfl
theorem block_ret {Q : Exit → St → Prop} {id : Nat} : blockQ id Q .ret σ = Q .ret σ := rfl
theorem block_exit {Q : Exit → St → Prop} {id i : Nat} : blockQ id Q (.exit i) σ = if i = id then Q .normal σ else Q (.exit i) σ := rfl
end Go.Dw
end
