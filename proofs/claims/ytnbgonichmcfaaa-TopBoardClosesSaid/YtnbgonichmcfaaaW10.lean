/- Helpers of a proof. -/
import Derived.Test.YtnbgonichmcfaaaW09
set_option linter.unusedVariables false
set_option linter.unusedSimpArgs false
section
namespace Go.Dw
open Go.RowKit
structure HeapOk [Lays] (A : Bool → Nat → Prop) (w : World) (G : Gh) (bx : List (Nat × Blk)) : Prop where
  rep : ∀ k x, get k bx = some x → RepB w A G k x
  inj : ∀ k k' x x' b, get k bx = some x → get k' bx = some x' → G.β k = some b → G.β k' = some b → k = k'
  lt : ∀ b, owned G bx b → b < w.heap.size
  laid : LaidA (A false) w
def AvR (N : Nat → Prop) (G : Gh) (bo : List (Nat × Blk)) : Bool → Nat → Prop := fun bw b => bw = true ∨ owned G bo b ∨ N b
def hasBody (P : Program) (f : FuncId) : Bool := match P.funcs[f]? with
  | some fn => fn.body.isSome && fn.name != "runtime.NumGoroutine"
  | none => false
def okRes (r : D) (bo : List (Nat × Blk)) : Prop := (∀ k, get k bo = none → r.men k = false) ∧ ∀ j x, get j bo = some x → ∀ k, get k bo = none → x.men k = false
def DCall [Lays] (P : Program) (f : FuncId) (as : List D) (bi : List (Nat × Blk)) (r : D) (bo : List (Nat × Blk)) : Prop :=
  hasBody P f = true ∧ okRes r bo ∧ ∀ (N : Nat → Prop) (G : Gh) (w : World) (vs : List Value), (∀ b, N b → b < w.heap.size) → (∀ b, owned G bi b → ¬ N b) → HeapOk (Av N G bi) w G bi → RepDs w (Av N G bi) G as vs →
    Calls P f vs.toArray w (fun e w' => ∃ G' v, e = .returned v ∧ HeapOk (AvR N G' bo) w' G' bo ∧ RepD w' (AvR N G' bo) G' r v ∧ Fr (owned G bi) w w' ∧
      (∀ b, owned G' bo b → owned G bi b ∨ w.heap.size ≤ b))
def Fx (r : Option Nat) : Fence := { Fence.wide with round := r }
def YCall [Lays] (P : Program) (l : Nat) (as : List D) (bi : List (Nat × Blk)) (r : D) (bo : List (Nat × Blk)) : Prop :=
  okRes r bo ∧ ∀ (N : Nat → Prop) (G : Gh) (w : World) (vs : List Value), (∀ b, N b → b < w.heap.size) → (∀ b, owned G bi b → ¬ N b) → HeapOk (Av N G bi) w G bi → RepDs w (Av N G bi) G as vs →
    ∃ f tmps assign body, (Instr.yield l vs.toArray).run P w = .ok (.round l f tmps assign body) w ∧ ∀ rd n, RoundIn (Fx rd) n P l f tmps assign body w (fun e w' => ∃ G' v, e = .returned v ∧ HeapOk (AvR N G' bo) w' G' bo ∧ RepD w' (AvR N G' bo) G' r v ∧ Fr (owned G bi) w w' ∧
      (∀ b, owned G' bo b → owned G bi b ∨ w.heap.size ≤ b))
mutual
def closeD (σ : St) (mv : Option Nat) : D → Option D
  | .top => some .top
  | .c x => some (.c x)
  | .agg cs => (closeDs σ mv cs).map .agg
  | .tup _ => none
  | .box k off => if mv = some k then none else match get k σ.bx with
    | some (.box cs) => (closedCs cs).map fun l => .c (.ro true l off)
    | _ => none
  | .own k => if mv = some k then some (.own k) else match get k σ.bx with
    | some (.row n es) => (closedEs es).map fun l => .c (.sl true n l)
    | _ => none
  | .elo _ _ _ _ => none
  | .win k n lo hi => if mv = some k then none else match get k σ.bx with
    | some (.row m es) => if n = m ∧ lo ≤ hi ∧ hi ≤ es.length then (closedEs es).map fun l => .c (.sl true m ((l.take hi).drop lo)) else none
    | _ => none
  | .hd _ => none
  | .fn f fs caps => match closeDs σ mv fs, closeDs σ mv caps with
    | some a, some b => match closedCs a, closedCs b with
      | some a, some b => some (.c (.fn f a b))
      | _, _ => none
    | _, _ => none
def closeDs (σ : St) (mv : Option Nat) : List D → Option (List D)
  | [] => some []
  | d :: ds => match closeD σ mv d, closeDs σ mv ds with
    | some a, some b => some (a :: b)
    | _, _ => none
def closedCs : List D → Option (List C)
  | [] => some []
  | .c x :: ds => (closedCs ds).map fun l => x :: l
  | _ :: _ => none
def closedEs : List (List D) → Option (List (List C))
  | [] => some []
  | e :: es => match closedCs e, closedEs es with
    | some a, some b => some (a :: b)
    | _, _ => none
end
def closeC1 (σ : St) : D → Option C
  | .c x => some x
  | .own j => match get j σ.bx with
    | some (.row n es) => (closedEs es).map fun l => .sl true n l
    | _ => none
  | _ => none
def closeCs1 (σ : St) : List D → Option (List C)
  | [] => some []
  | d :: ds => match closeC1 σ d, closeCs1 σ ds with
    | some a, some b => some (a :: b)
    | _, _ => none
def closeE1 (σ : St) : List (List D) → Option (List (List C))
  | [] => some []
  | e :: es => match closeCs1 σ e, closeE1 σ es with
    | some a, some b => some (a :: b)
    | _, _ => none
def closeN (σ : St) : D → Option D
  | .own k => match get k σ.bx with
    | some (.row n es) => (closeE1 σ es).map fun l => .c (.sl true n l)
    | _ => none
  | .c x => some (.c x)
  | .top => some .top
  | .box k off => closeD σ none (.box k off)
  | .fn f fs caps => closeD σ none (.fn f fs caps)
  | .agg cs => closeD σ none (.agg cs)
  | _ => none
def closeNs (σ : St) : List D → Option (List D)
  | [] => some []
  | d :: ds => match closeN σ d, closeNs σ ds with
    | some a, some b => some (a :: b)
    | _, _ => none
def closeP (σ : St) (d : D) : Option D := match d with
  | .c (.v (.pointer (some ⟨l, off, none⟩))) => match pget l σ.bx with
    | some (_, cs) => match closedCs cs with
      | some l' => some (.c (.ro true l' off))
      | none => some d
    | none => some d
  | d => closeD σ none d
def closePs (σ : St) : List D → Option (List D)
  | [] => some []
  | d :: ds => match closeP σ d, closePs σ ds with
    | some a, some b => some (a :: b)
    | _, _ => none
def Clo (σ : St) (mv : Option Nat) (ds as : List D) : Prop := closeDs σ mv ds = some as ∨ (mv = none ∧ closeNs σ ds = some as) ∨ (mv = none ∧ closePs σ ds = some as)
def St.delB (σ : St) (k : Nat) : St := { σ with bx := del k σ.bx }
def St.putO (σ : St) (dst : Option Tmp) (d : D) : St := match dst with
  | some t => σ.put t d
  | none => σ
def St.moved (σ : St) : Option Nat → St
  | some k => (σ.kill k).delB k
  | none => σ
def St.rowsOf (σ : St) : Option Nat → List (Nat × Blk)
  | some k => match get k σ.bx with
    | some x => [(k, x)]
    | none => []
  | none => []
def St.addBs (σ : St) : List (Nat × Blk) → St
  | [] => σ
  | p :: l => (σ.addBs l).putB p.1 p.2
def freshBs (σ : St) : List (Nat × Blk) → Prop
  | [] => True
  | p :: l => freshBs σ l ∧ get p.1 σ.bx = none ∧ σ.men p.1 = false ∧ get p.1 l = none
def calleeD : D → Option (FuncId × List D × List D)
  | .c (.fn (.func g) fs caps) => some (g, fs.map D.c, caps.map D.c)
  | .fn (.func g) fs caps => some (g, fs, caps)
  | _ => none
def okB (dst : Option Tmp) (bo : List (Nat × Blk)) : Prop := bo = [] ∨ ∃ k x, dst = some k ∧ bo = [(k, x)] ∧ x.unpin = true
def Ent [Lays] (σ σ' : St) : Prop := ∀ N O0 w0 a w, Inv N O0 w0 σ a w → Inv N O0 w0 σ' a w
def CallTo [Lays] (P : Program) (dr : Bool) (σ1 : St) (f : Operand) (args : List Operand) (dst : Option Tmp) (σ' : St) : Prop :=
  ∃ σ, (σ = σ1 ∨ (dr = false ∧ Ent σ1 σ)) ∧ ∃ g fs caps mv as r bo, calleeD (σ.op f) = some (g, fs, caps) ∧ Clo σ mv (fs ++ args.map σ.op ++ caps) as ∧ DCall P g as (σ.rowsOf mv) r bo ∧
    freshBs (σ.moved mv) bo ∧ (dr = true → mv = none ∧ okB dst bo) ∧ σ' = ((σ.moved mv).addBs bo).putO dst r
def YTo [Lays] (P : Program) (σ : St) (f : Operand) (args : List Operand) (dst : Option Tmp) (σ' : St) : Prop :=
  ∃ l as own h r h', σ.op f = .c (.fn (.yield l) [] []) ∧ closeDs ⟨σ.nt, σ.tm, own⟩ none (args.map σ.op) = some as ∧ YCall P l as h r h' ∧ σ.bx = own ++ h ∧
    (∀ k, 1000 ≤ k → get k own = none ∧ St.men k ⟨σ.nt, σ.tm, own⟩ = false) ∧ (∀ k, k < 1000 → get k h = none ∧ get k h' = none) ∧ σ' = (⟨σ.nt, σ.tm, own ++ h'⟩ : St).putO dst r
def HTo [Lays] (P : Program) (σ1 : St) (f : Operand) (args : List Operand) (dst : Option Tmp) (σ' : St) : Prop :=
  ∃ σ, Ent σ1 σ ∧ σ.nt = σ1.nt ∧ ∃ g fs caps as own h r h', calleeD (σ.op f) = some (g, fs, caps) ∧ closeDs ⟨σ.nt, σ.tm, own⟩ none (fs ++ args.map σ.op ++ caps) = some as ∧ DCall P g as h r h' ∧ σ.bx = h ++ own ∧
    (∀ k x, get k own = some x → get k h = none) ∧ (∀ k x, get k h' = some x → get k own = none ∧ St.men k ⟨σ.nt, σ.tm, own⟩ = false) ∧ σ' = (⟨σ.nt, σ.tm, h' ++ own⟩ : St).putO dst r
def PTo [Lays] (P : Program) (σ1 : St) (f : Operand) (args : List Operand) (dst : Option Tmp) (σ' : St) : Prop :=
  ∃ (ι : Type) (F F' : ι → St), (∀ N O0 w0 a w, Inv N O0 w0 σ1 a w → ∃ l, Inv N O0 w0 (F l) a w) ∧ (∀ l, (F l).nt = σ1.nt ∧ HTo P (F l) f args dst (F' l)) ∧ ∀ l, Ent (F' l) σ'
def OpTo [Lays] (P : Program) (dr : Bool) (o : Oper) (σ σ' : St) : Prop :=
  (∀ t, o.dst = some t → t < σ.nt) ∧
  match o.op with
  | .store t x y => o.dst = none ∧ evS P σ t x y = some σ'
  | .call c => match c.callee with
    | .value f => CallTo P dr σ f c.args.toList o.dst σ' ∨ (dr = false ∧ (YTo P σ f c.args.toList o.dst σ' ∨ HTo P σ f c.args.toList o.dst σ' ∨ PTo P σ f c.args.toList o.dst σ'))
    | .builtin .clear => o.dst = none ∧ ∃ x t, c.args = #[x] ∧ c.argTypes = #[t] ∧ evClear P σ t (σ.op x) = some σ'
    | .builtin .append => ∃ k s x st xt len bytes, o.dst = some k ∧ c.args = #[s, x] ∧ c.argTypes = #[st, xt] ∧ appD P σ k st xt (σ.op s) (σ.op x) = some (σ', len, bytes) ∧ len * bytes ≤ 2 ^ 44 ∧ len ≤ 2 ^ 44
    | .builtin .copy => ∃ k s x st xt σ1 m, o.dst = some k ∧ c.args = #[s, x] ∧ c.argTypes = #[st, xt] ∧ copyD P σ st (σ.op s) (σ.op x) = some (σ1, m) ∧ σ' = σ1.put k (.c (.v (.int .i64 m)))
    | .builtin _ => ∃ d, evP P σ o.op = some d ∧ σ' = σ.putO o.dst d
    | _ => False
  | .mapUpdate t m k v => o.dst = none ∧ evM P σ t m k v = some σ'
  | .insert t m k v => o.dst = none ∧ evM P σ t m k v = some σ'
  | .alloc _ | .box _ _ | .buildSlice _ _ _ | .makeSlice _ _ _ | .makeMap _ _ => ∃ k d x, o.dst = some k ∧ evA P σ k o.op = some (d, x) ∧ get k σ.bx = none ∧ σ.men k = false ∧ x.men k = false ∧ σ' = (σ.putB k x).put k d
  | _ => ∃ d, evP P σ o.op = some d ∧ σ' = σ.putO o.dst d
variable {P : Program} {N O0 : Nat → Prop} {w0 : World} {σ : St} {G : Gh} {a : Act} {w : World}
theorem Core.putO [Lays] (h : Core N O0 w0 σ G a w) {dst : Option Tmp} (hd : ∀ t, dst = some t → t < σ.nt) {d : D} {v : Value} (hr : RepD w (Av N G σ.bx) G d v) : Core N O0 w0 (σ.putO dst d) G (a.put dst v) w := by
  cases dst with
  | none => exact h
  | some t => exact h.put (hd t rfl) hr
theorem owned_del [Lays] {G : Gh} {bx : List (Nat × Blk)} {k b : Nat} (h : owned G (del k bx) b) : owned G bx b := by
  obtain ⟨j, x, hj, hb⟩ := h
  rw [get_del] at hj
  split at hj
  · cases hj
  · exact ⟨j, x, hj, hb⟩
theorem keeps_del [Lays] {k : Nat} : Keeps w w (Av N G σ.bx) (Av N G (del k σ.bx)) :=
  ⟨Nat.le_refl _, fun _ _ _ hA hA' => hA (hA'.imp owned_del id), fun _ _ _ _ _ => rfl⟩
theorem Core.delB [Lays] (h : Core N O0 w0 σ G a w) (k : Nat) : Core N O0 w0 (σ.delB k) G a w where
  rep := fun j x hj => by
    simp only [St.delB, get_del] at hj
    split at hj
    · cases hj
    · exact RepB.mono keeps_del (fun _ => False) (fun _ _ => ⟨rfl, rfl⟩) x (fun h => h) (fun _ _ => rfl) (fun _ h => h.elim) (h.rep j x hj)
  inj := fun i j x1 x2 b hi hj => by
    simp only [St.delB, get_del] at hi hj
    split at hi
    · cases hi
    · split at hj
      · cases hj
      · exact h.inj i j x1 x2 b hi hj
  own := fun b hb => h.own b (owned_del hb)
  tm := fun t d ht => let ⟨y, hy, hr⟩ := h.tm t d ht; ⟨y, hy, RepD.keep keeps_del d y hr⟩
  nt := h.nt
  df := h.df
  fr := h.fr
  nlt := h.nlt
  odis := h.odis
  laid := h.laid
theorem Core.moved [Lays] (h : Core N O0 w0 σ G a w) (mv : Option Nat) : Core N O0 w0 (σ.moved mv) G a w := by
  cases mv with
  | none => exact h
  | some k => exact (h.kill k).delB k
theorem closedCs_spec : ∀ {ds : List D} {cs : List C}, closedCs ds = some cs → ds = cs.map D.c
  | [], cs, h => by simp only [closedCs, Option.some.injEq] at h; subst h; rfl
  | d :: ds, cs, h => by
    cases d <;> simp only [closedCs, reduceCtorEq, Option.map_eq_some_iff] at h
    obtain ⟨l, hl, rfl⟩ := h
    rw [closedCs_spec hl]; rfl
theorem closedEs_spec [Lays] : ∀ {es : List (List D)} {cs : List (List C)}, closedEs es = some cs → es = rowC cs
  | [], cs, h => by simp only [closedEs, Option.some.injEq] at h; subst h; rfl
  | e :: es, cs, h => by
    simp only [closedEs] at h
    split at h
    · rename_i x y hx hy
      cases h
      rw [closedCs_spec hx, closedEs_spec hy]; rfl
    · cases h
theorem RepEs.of_vals [Lays] {A : Bool → Nat → Prop} {n b : Nat} : ∀ {es : List (List C)} {o : Nat} {ys : List Value}, (∀ e ∈ es, e.length = n) → RepVs w A es.flatten ys → (∀ j v, ys[j]? = some v → w.cell? ⟨b, o + j, none⟩ = some v) → RepEs w A n es b o := by
  have cells : ∀ {cs : List C} {o : Nat} {ys : List Value}, RepVs w A cs ys → (∀ j v, ys[j]? = some v → w.cell? ⟨b, o + j, none⟩ = some v) → RepCs w A cs b o := by
    intro cs
    induction cs with
    | nil => intro o ys _ _; trivial
    | cons c cs ih =>
      intro o ys h hc
      obtain ⟨y, ys', rfl, h1, h2⟩ := h
      refine ⟨⟨y, by have := hc 0 y rfl; simpa using this, h1⟩, ih h2 (fun j v hj => ?_)⟩
      have := hc (j + 1) v (by simpa using hj)
      rwa [show o + 1 + j = o + (j + 1) by omega]
  have split : ∀ (cs ds : List C) (ys : List Value), RepVs w A (cs ++ ds) ys → ∃ y1 y2, ys = y1 ++ y2 ∧ RepVs w A cs y1 ∧ RepVs w A ds y2 := by
    intro cs
    induction cs with
    | nil => intro ds ys h; exact ⟨[], ys, rfl, rfl, h⟩
    | cons c cs ih =>
      intro ds ys h
      obtain ⟨y, ys', rfl, h1, h2⟩ := h
      obtain ⟨y1, y2, rfl, h3, h4⟩ := ih ds ys' h2
      exact ⟨y :: y1, y2, rfl, ⟨y, y1, rfl, h1, h3⟩, h4⟩
  intro es
  induction es with
  | nil => intro o ys _ _ _; trivial
  | cons e es ih =>
    intro o ys hl hr hc
    obtain ⟨y1, y2, rfl, h1, h2⟩ := split e es.flatten ys (by simpa using hr)
    have hn := hl e (by simp)
    have hy := h1.length
    refine ⟨hn, cells h1 (fun j v hj => hc j v ?_), ih (fun x hx => hl x (by simp [hx])) h2 (fun j v hj => ?_)⟩
    · rw [List.getElem?_append_left]
      · exact hj
      · rcases Nat.lt_or_ge j y1.length with h | h
        · exact h
        · rw [List.getElem?_eq_none h] at hj; cases hj
    · have := hc (n + j) v (by rw [List.getElem?_append_right (by omega)]; rw [show n + j - y1.length = j by omega]; exact hj)
      rwa [← Nat.add_assoc] at this
theorem cells_of_RepDs [Lays] {A : Bool → Nat → Prop} {arr : Array Value} {E : TypeId} {b : Nat} {cs : List C} (hh : w.heap[b]? = some (.cells arr E (0, 0))) (h : RepVs w A cs arr.toList) : RepCs w A cs b 0 := by
  have cells : ∀ {cs : List C} {o : Nat} {ys : List Value}, RepVs w A cs ys → (∀ j v, ys[j]? = some v → w.cell? ⟨b, o + j, none⟩ = some v) → RepCs w A cs b o := by
    intro cs
    induction cs with
    | nil => intro o ys _ _; trivial
    | cons c cs ih =>
      intro o ys h hc
      obtain ⟨y, ys', rfl, h1, h2⟩ := h
      refine ⟨⟨y, by have := hc 0 y rfl; simpa using this, h1⟩, ih h2 (fun j v hj => ?_)⟩
      have := hc (j + 1) v (by simpa using hj)
      rwa [show o + 1 + j = o + (j + 1) by omega]
  exact cells h (fun j v hj => by rw [cell_of_cells hh, Nat.zero_add]; exact hj)
theorem row_closed [Lays] {A A' : Bool → Nat → Prop} {k n : Nat} {es : List (List D)} {l : List (List C)} (hes : closedEs es = some l) (hr : RepB w A G k (.row n es)) (hk : Keeps w w A A') (bw : Bool) (hlt : ∀ b, G.β k = some b → b < w.heap.size ∧ ¬ A' bw b) :
    RepC w A' (.sl bw n l) (G.γ k) := by
  have he := closedEs_spec hes
  subst he
  obtain ⟨hn, ⟨hnil, _, hγ⟩ | ⟨b, arr, E, cap, hb, hh, hγ, hc, hs, hr⟩⟩ := hr
  · have : l = [] := by
      cases l with
      | nil => rfl
      | cons e l => simp [rowC] at hnil
    subst this
    rw [hγ]
    exact ⟨none, 0, rfl, Nat.le_refl _, .inl rfl⟩
  · rw [hγ]
    refine ⟨_, cap, by simp [rowC], by simpa [rowC] using hc, .inr ⟨b, 0, rfl, (hlt b hb).1, (hlt b hb).2, ?_⟩⟩
    have hv : RepVs w A l.flatten (arr.toList.take ((rowC l).length * n)) := by
      refine RepDs.toVs (G := G) ?_
      have e1 : l.flatten.map D.c = (rowC l).flatten := by simp [rowC, List.map_flatten]
      rw [e1]; exact hr
    refine RepEs.of_vals (fun e he => ?_) (RepVs.mono hk _ _ hv) (fun j v hj => ?_)
    · have := hn (e.map D.c) (by simp only [rowC, List.mem_map]; exact ⟨e, he, rfl⟩)
      simpa using this
    · rw [cell_of_cells hh, Nat.zero_add]
      rw [List.getElem?_take] at hj
      split at hj
      · exact hj
      · cases hj
mutual
theorem closeD_sound [Lays] (h : Core N O0 w0 σ G a w) {σ2 : St} (hs2 : ∀ k x, get k σ2.bx = some x → get k σ.bx = some x) (mv : Option Nat) (A' : Bool → Nat → Prop) (hk : Keeps w w (Av N G σ.bx) A')
    (hown : ∀ k x b, mv ≠ some k → get k σ2.bx = some x → G.β k = some b → ¬ A' true b) : ∀ (d d' : D) (y : Value), closeD σ2 mv d = some d' → RepD w (Av N G σ.bx) G d y → RepD w A' G d' y
  | .top, d', y, hd, hr => by simp only [closeD, Option.some.injEq] at hd; subst hd; trivial
  | .c x, d', y, hd, hr => by simp only [closeD, Option.some.injEq] at hd; subst hd; exact RepC.mono hk x y hr
  | .agg cs, d', y, hd, hr => by
    simp only [closeD, Option.map_eq_some_iff] at hd
    obtain ⟨cs', hcs, rfl⟩ := hd
    obtain ⟨ys, rfl, hr⟩ := hr
    exact ⟨ys, rfl, closeDs_sound h hs2 mv A' hk hown cs cs' _ hcs hr⟩
  | .tup cs, d', y, hd, hr => by simp [closeD] at hd
  | .box k off, d', y, hd, hr => by
    simp only [closeD] at hd
    split at hd
    · cases hd
    · rename_i hm
      split at hd
      · rename_i cs hk'
        simp only [Option.map_eq_some_iff] at hd
        obtain ⟨l, hl, rfl⟩ := hd
        obtain ⟨b, hb, rfl⟩ := hr
        obtain ⟨b', arr, E, hb', hh, hrep⟩ := h.rep k _ (hs2 k _ hk')
        rw [hb] at hb'; cases hb'
        have hcs := closedCs_spec hl
        subst hcs
        exact ⟨b, 0, by rw [Nat.zero_add], lt_of_heap hh, hown k _ b hm hk' hb, cells_of_RepDs hh (RepVs.mono hk _ _ (RepDs.toVs hrep))⟩
      · cases hd
  | .own k, d', y, hd, hr => by
    simp only [closeD] at hd
    split at hd
    · cases hd; exact hr
    · rename_i hm
      split at hd
      · rename_i n es hk'
        simp only [Option.map_eq_some_iff] at hd
        obtain ⟨l, hl, rfl⟩ := hd
        obtain ⟨rfl, _⟩ := hr
        exact row_closed hl (h.rep k _ (hs2 k _ hk')) hk true (fun b hb => ⟨(h.own b ⟨k, _, hs2 k _ hk', hb⟩).1, hown k _ b hm hk' hb⟩)
      · cases hd
  | .elo k n i off, d', y, hd, hr => by simp [closeD] at hd
  | .hd k, d', y, hd, hr => by simp [closeD] at hd
  | .win k n lo hi, d', y, hd, hr => by
    simp only [closeD] at hd
    split at hd
    · cases hd
    · rename_i hm
      split at hd
      · rename_i m es hk'
        split at hd
        · rename_i hc
          obtain ⟨rfl, hc1, hc2⟩ := hc
          simp only [Option.map_eq_some_iff] at hd
          obtain ⟨l, hl, rfl⟩ := hd
          obtain ⟨a0, ln, c, hγ, _, _, rfl⟩ := hr
          have hrc := row_closed hl (h.rep k _ (hs2 k _ hk')) hk true (fun b hb => ⟨(h.own b ⟨k, _, hs2 k _ hk', hb⟩).1, hown k _ b hm hk' hb⟩)
          rw [hγ] at hrc
          have := closedEs_spec hl
          have hle : l.length = es.length := by rw [this]; simp [rowC]
          exact sl_window hrc hc1 (by omega)
        · cases hd
      · cases hd
  | .fn f fs caps, d', y, hd, hr => by
    simp only [closeD] at hd
    split at hd
    · rename_i a1 b1 ha hb
      split at hd
      · rename_i a2 b2 ha2 hb2
        cases hd
        obtain ⟨x1, x2, rfl, h1, h2⟩ := hr
        have h1 := closeDs_sound h hs2 mv A' hk hown fs a1 _ ha h1
        have h2 := closeDs_sound h hs2 mv A' hk hown caps b1 _ hb h2
        rw [closedCs_spec ha2] at h1
        rw [closedCs_spec hb2] at h2
        exact ⟨x1, x2, rfl, RepDs.toVs h1, RepDs.toVs h2⟩
      · cases hd
    · cases hd
theorem closeDs_sound [Lays] (h : Core N O0 w0 σ G a w) {σ2 : St} (hs2 : ∀ k x, get k σ2.bx = some x → get k σ.bx = some x) (mv : Option Nat) (A' : Bool → Nat → Prop) (hk : Keeps w w (Av N G σ.bx) A')
    (hown : ∀ k x b, mv ≠ some k → get k σ2.bx = some x → G.β k = some b → ¬ A' true b) : ∀ (ds ds' : List D) (ys : List Value), closeDs σ2 mv ds = some ds' → RepDs w (Av N G σ.bx) G ds ys → RepDs w A' G ds' ys
  | [], ds', ys, hd, hr => by simp only [closeDs, Option.some.injEq] at hd; subst hd; exact hr
  | d :: ds, ds', ys, hd, hr => by
    simp only [closeDs] at hd
    split at hd
    · rename_i x y hx hy
      cases hd
      obtain ⟨v, vs, rfl, h1, h2⟩ := hr
      exact ⟨v, vs, rfl, closeD_sound h hs2 mv A' hk hown d x v hx h1, closeDs_sound h hs2 mv A' hk hown ds y vs hy h2⟩
    · cases hd
end
section
variable [Lays] (h : Core N O0 w0 σ G a w) (A' : Bool → Nat → Prop) (hk : Keeps w w (Av N G σ.bx) A') (hown : ∀ k x b, get k σ.bx = some x → G.β k = some b → ¬ A' true b)
include h hk hown
theorem closeC1_sound {d : D} {c : C} {y : Value} (hd : closeC1 σ d = some c) (hr : RepD w (Av N G σ.bx) G d y) : RepC w A' c y := by
  cases d <;> simp only [closeC1] at hd <;> try (cases hd; done)
  · simp only [Option.some.injEq] at hd; subst hd; exact RepC.mono hk _ _ hr
  · rename_i j
    split at hd
    · rename_i n es hj
      simp only [Option.map_eq_some_iff] at hd
      obtain ⟨l, hl, rfl⟩ := hd
      obtain ⟨rfl, _⟩ := hr
      exact row_closed hl (h.rep j _ hj) hk true (fun b hb => ⟨(h.own b ⟨j, _, hj, hb⟩).1, hown j _ b hj hb⟩)
    · cases hd
theorem closeCs1_sound : ∀ {ds : List D} {cs : List C} {ys : List Value}, closeCs1 σ ds = some cs → RepDs w (Av N G σ.bx) G ds ys → RepVs w A' cs ys ∧ cs.length = ds.length
  | [], cs, ys, hd, hr => by simp only [closeCs1, Option.some.injEq] at hd; subst hd; exact ⟨hr, rfl⟩
  | d :: ds, cs, ys, hd, hr => by
    simp only [closeCs1] at hd
    split at hd
    · rename_i x z hx hz
      cases hd
      obtain ⟨v, vs, rfl, h1, h2⟩ := hr
      have h3 := closeCs1_sound hz h2
      exact ⟨⟨v, vs, rfl, closeC1_sound h A' hk hown hx h1, h3.1⟩, by simp [h3.2]⟩
    · cases hd
omit [Lays] in
omit hk in
omit hown in
omit h in
theorem closeE1_flat : ∀ {es : List (List D)} {l : List (List C)}, closeE1 σ es = some l → closeCs1 σ es.flatten = some l.flatten ∧ l.length = es.length ∧ ∀ n, (∀ e ∈ es, e.length = n) → ∀ e ∈ l, e.length = n
  | [], l, hd => by simp only [closeE1, Option.some.injEq] at hd; subst hd; exact ⟨rfl, rfl, fun n _ e he => by cases he⟩
  | e :: es, l, hd => by
    simp only [closeE1] at hd
    split at hd
    · rename_i x z hx hz
      cases hd
      obtain ⟨h1, h2, h3⟩ := closeE1_flat hz
      have app : ∀ (a b : List D) (a' b' : List C), closeCs1 σ a = some a' → closeCs1 σ b = some b' → closeCs1 σ (a ++ b) = some (a' ++ b') ∧ a'.length = a.length := by
        intro a
        induction a with
        | nil => intro b a' b' ha hb; simp only [closeCs1, Option.some.injEq] at ha; subst ha; exact ⟨hb, rfl⟩
        | cons d a ih =>
          intro b a' b' ha hb
          simp only [closeCs1] at ha
          split at ha
          · rename_i u v hu hv
            cases ha
            obtain ⟨h4, h5⟩ := ih b _ b' hv hb
            exact ⟨by simp only [List.cons_append, closeCs1, hu, h4], by simp [h5]⟩
          · cases ha
      have h6 := app e es.flatten x z.flatten hx h1
      refine ⟨by simpa using h6.1, by simp [h2], fun n hn e' he' => ?_⟩
      rcases List.mem_cons.1 he' with rfl | he'
      · rw [h6.2]; exact hn _ (by simp)
      · exact h3 n (fun e he => hn e (by simp [he])) e' he'
    · cases hd
theorem row_closed1 {k n : Nat} {es : List (List D)} {l : List (List C)} (hg : get k σ.bx = some (.row n es)) (hes : closeE1 σ es = some l) : RepC w A' (.sl true n l) (G.γ k) := by
  obtain ⟨h1, h2, h3⟩ := closeE1_flat hes
  obtain ⟨hn, ⟨hnil, _, hγ⟩ | ⟨b, arr, E, cap, hb, hh, hγ, hc, hs, hr⟩⟩ := h.rep k _ hg
  · subst hnil
    have : l = [] := List.eq_nil_of_length_eq_zero h2
    subst this
    rw [hγ]
    exact ⟨none, 0, rfl, Nat.le_refl _, .inl rfl⟩
  · rw [hγ]
    refine ⟨_, cap, by rw [h2], by rw [h2]; exact hc, .inr ⟨b, 0, rfl, (h.own b ⟨k, _, hg, hb⟩).1, hown k _ b hg hb, ?_⟩⟩
    refine RepEs.of_vals (h3 n hn) (closeCs1_sound h A' hk hown h1 hr).1 (fun j v hj => ?_)
    rw [cell_of_cells hh, Nat.zero_add]
    rw [List.getElem?_take] at hj
    split at hj
    · exact hj
    · cases hj
theorem closeN_sound {d d' : D} {y : Value} (hd : closeN σ d = some d') (hr : RepD w (Av N G σ.bx) G d y) : RepD w A' G d' y := by
  have gen : ∀ d d' : D, closeD σ none d = some d' → RepD w (Av N G σ.bx) G d y → RepD w A' G d' y := fun d d' hd hr =>
    closeD_sound h (σ2 := σ) (fun _ _ h => h) none A' hk (fun k x b _ => hown k x b) d d' y hd hr
  cases d <;> simp only [closeN] at hd <;> try (cases hd; done)
  · simp only [Option.some.injEq] at hd; subst hd; exact hr
  · simp only [Option.some.injEq] at hd; subst hd; exact RepC.mono hk _ _ hr
  · exact gen _ _ hd hr
  · exact gen _ _ hd hr
  · split at hd
    · rename_i n es hj
      simp only [Option.map_eq_some_iff] at hd
      obtain ⟨l, hl, rfl⟩ := hd
      obtain ⟨rfl, _⟩ := hr
      exact row_closed1 h A' hk hown hj hl
    · cases hd
  · exact gen _ _ hd hr
theorem closeNs_sound : ∀ {ds ds' : List D} {ys : List Value}, closeNs σ ds = some ds' → RepDs w (Av N G σ.bx) G ds ys → RepDs w A' G ds' ys
  | [], ds', ys, hd, hr => by simp only [closeNs, Option.some.injEq] at hd; subst hd; exact hr
  | d :: ds, ds', ys, hd, hr => by
    simp only [closeNs] at hd
    split at hd
    · rename_i x y hx hy
      cases hd
      obtain ⟨v, vs, rfl, h1, h2⟩ := hr
      exact ⟨v, vs, rfl, closeN_sound h A' hk hown hx h1, closeNs_sound hy h2⟩
    · cases hd
theorem closeP_sound {d d' : D} {y : Value} (hd : closeP σ d = some d') (hr : RepD w (Av N G σ.bx) G d y) : RepD w A' G d' y := by
  have gen : ∀ d d' : D, closeD σ none d = some d' → RepD w (Av N G σ.bx) G d y → RepD w A' G d' y := fun d d' hd hr =>
    closeD_sound h (σ2 := σ) (fun _ _ h => h) none A' hk (fun k x b _ => hown k x b) d d' y hd hr
  unfold closeP at hd
  split at hd
  · rename_i l off
    split at hd
    · rename_i k cs hp
      split at hd
      · rename_i l' hl
        cases hd
        have hg := pget_spec hp
        obtain ⟨rfl, _⟩ := hr
        obtain ⟨b, arr, E, ⟨hb, rfl⟩, hh, hrep⟩ := h.rep k _ hg
        have hcs := closedCs_spec hl
        subst hcs
        exact ⟨b, 0, by rw [Nat.zero_add], lt_of_heap hh, hown k _ b hg hb, cells_of_RepDs hh (RepVs.mono hk _ _ (RepDs.toVs hrep))⟩
      · cases hd; exact gen _ _ rfl hr
    · cases hd; exact gen _ _ rfl hr
  · exact gen _ _ hd hr
theorem closePs_sound : ∀ {ds ds' : List D} {ys : List Value}, closePs σ ds = some ds' → RepDs w (Av N G σ.bx) G ds ys → RepDs w A' G ds' ys
  | [], ds', ys, hd, hr => by simp only [closePs, Option.some.injEq] at hd; subst hd; exact hr
  | d :: ds, ds', ys, hd, hr => by
    simp only [closePs] at hd
    split at hd
    · rename_i x y hx hy
      cases hd
      obtain ⟨v, vs, rfl, h1, h2⟩ := hr
      exact ⟨v, vs, rfl, closeP_sound h A' hk hown hx h1, closePs_sound hy h2⟩
    · cases hd
end
theorem get_rowsOf {mv : Option Nat} {k : Nat} {x : Blk} : get k (σ.rowsOf mv) = some x ↔ mv = some k ∧ get k σ.bx = some x := by
  cases mv with
  | none => simp [St.rowsOf, get]
  | some j =>
    simp only [St.rowsOf]
    cases hj : get j σ.bx with
    | none =>
      simp only [get]
      constructor
      · intro h; cases h
      · rintro ⟨h1, h2⟩; cases h1; rw [hj] at h2; cases h2
    | some y =>
      simp only [get]
      by_cases e : k = j
      · subst e; simp [hj]
      · simp only [e, if_false, Option.some.injEq]
        constructor
        · intro h; cases h
        · rintro ⟨h1, _⟩; exact absurd h1.symm e
theorem get_addBs [Lays] (σ : St) (k : Nat) : ∀ bo : List (Nat × Blk), get k (σ.addBs bo).bx = (match get k bo with | some x => some x | none => get k σ.bx)
  | [] => rfl
  | p :: l => by
    simp only [St.addBs, St.putB, get_ins, get]
    split
    · rfl
    · exact get_addBs σ k l
theorem addBs_tm (σ : St) : ∀ bo : List (Nat × Blk), (σ.addBs bo).tm = σ.tm
  | [] => rfl
  | p :: l => by simp only [St.addBs, St.putB]; exact addBs_tm σ l
theorem addBs_nt (σ : St) : ∀ bo : List (Nat × Blk), (σ.addBs bo).nt = σ.nt
  | [] => rfl
  | p :: l => by simp only [St.addBs, St.putB]; exact addBs_nt σ l
theorem freshBs_spec : ∀ {bo : List (Nat × Blk)}, freshBs σ bo → ∀ k x, get k bo = some x → get k σ.bx = none ∧ σ.men k = false
  | [], _, k, x, h => by cases h
  | p :: l, hf, k, x, h => by
    simp only [get] at h
    split at h
    · rename_i e; subst e; exact ⟨hf.2.1, hf.2.2.1⟩
    · exact freshBs_spec hf.1 k x h
end Go.Dw
end
