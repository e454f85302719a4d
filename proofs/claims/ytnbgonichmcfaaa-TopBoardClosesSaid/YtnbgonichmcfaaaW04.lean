/- Helpers of a proof. -/
import Derived.Test.YtnbgonichmcfaaaW03
import Derived.Laws.StructEq
import Derived.Laws.Cells
import Derived.Laws.CopyRow
set_option linter.unusedVariables false
set_option linter.unusedSimpArgs false
section
namespace Go.Dw
open Go.RowKit
section lists
variable {w : World} {A : Bool → Nat → Prop} {G : Gh}
theorem RepDs.length : ∀ {ds : List D} {ys : List Value}, RepDs w A G ds ys → ys.length = ds.length
  | [], _, h => by rw [show _ = [] from h]; rfl
  | _ :: ds, _, h => by obtain ⟨y, ys, rfl, _, h⟩ := h; simp [RepDs.length h]
theorem RepDs.nil : RepDs w A G [] [] := rfl
theorem RepDs.cons {d : D} {ds : List D} {y : Value} {ys : List Value} (h : RepD w A G d y) (hs : RepDs w A G ds ys) : RepDs w A G (d :: ds) (y :: ys) := ⟨y, ys, rfl, h, hs⟩
theorem RepDs.get : ∀ {ds : List D} {ys : List Value}, RepDs w A G ds ys → ∀ {i : Nat} {d : D}, ds[i]? = some d → ∃ y, ys[i]? = some y ∧ RepD w A G d y
  | [], _, _, i, d, h => by simp at h
  | d0 :: ds, _, h, i, d, hi => by
    obtain ⟨y, ys, rfl, h1, h2⟩ := h
    cases i with
    | zero => simp at hi; subst hi; exact ⟨y, rfl, h1⟩
    | succ i => simpa using RepDs.get h2 (by simpa using hi)
theorem RepDs.append : ∀ {ds es : List D} {ys zs : List Value}, RepDs w A G ds ys → RepDs w A G es zs → RepDs w A G (ds ++ es) (ys ++ zs)
  | [], _, _, _, h, h' => by rw [show _ = [] from h]; exact h'
  | _ :: ds, _, _, _, h, h' => by obtain ⟨y, ys, rfl, h1, h2⟩ := h; exact ⟨y, _, rfl, h1, RepDs.append h2 h'⟩
theorem RepDs.take [Lays] : ∀ {ds : List D} {ys : List Value} (n : Nat), RepDs w A G ds ys → RepDs w A G (ds.take n) (ys.take n)
  | [], _, n, h => by rw [show _ = [] from h, List.take_nil, List.take_nil]; exact RepDs.nil
  | _ :: ds, _, 0, h => by rw [List.take_zero, List.take_zero]; exact RepDs.nil
  | _ :: ds, _, n + 1, h => by obtain ⟨y, ys, rfl, h1, h2⟩ := h; exact ⟨y, _, rfl, h1, RepDs.take n h2⟩
theorem RepDs.drop [Lays] : ∀ {ds : List D} {ys : List Value} (n : Nat), RepDs w A G ds ys → RepDs w A G (ds.drop n) (ys.drop n)
  | [], _, n, h => by rw [show _ = [] from h, List.drop_nil, List.drop_nil]; exact RepDs.nil
  | _ :: ds, _, 0, h => h
  | _ :: ds, _, n + 1, h => by obtain ⟨y, ys, rfl, h1, h2⟩ := h; simpa using RepDs.drop n h2
theorem RepDs.ofVs : ∀ {cs : List C} {ys : List Value}, RepVs w A cs ys → RepDs w A G (cs.map D.c) ys
  | [], _, h => h
  | _ :: cs, _, h => by obtain ⟨y, ys, rfl, h1, h2⟩ := h; exact ⟨y, ys, rfl, h1, RepDs.ofVs h2⟩
theorem RepDs.toVs : ∀ {cs : List C} {ys : List Value}, RepDs w A G (cs.map D.c) ys → RepVs w A cs ys
  | [], _, h => h
  | _ :: cs, _, h => by obtain ⟨y, ys, rfl, h1, h2⟩ := h; exact ⟨y, ys, rfl, h1, RepDs.toVs h2⟩
theorem RepDs.ofVals : ∀ (vs : List Value), vs.all (·.oneCell') = true → RepDs w A G (vs.map fun v => D.c (.v v)) vs
  | [], _ => rfl
  | v :: vs, h => by
    simp only [List.all_cons, Bool.and_eq_true] at h
    exact ⟨v, vs, rfl, ⟨rfl, h.1⟩, RepDs.ofVals vs h.2⟩
theorem RepCs.vals : ∀ {cs : List C} {b o : Nat}, RepCs w A cs b o → ∃ ys, RepVs w A cs ys ∧ ∀ j v, ys[j]? = some v → w.cell? ⟨b, o + j, none⟩ = some v
  | [], _, _, _ => ⟨[], rfl, fun j v h => by simp at h⟩
  | c :: cs, b, o, h => by
    obtain ⟨⟨x, hx, hc⟩, h⟩ := h
    obtain ⟨ys, h1, h2⟩ := RepCs.vals h
    refine ⟨x :: ys, ⟨x, ys, rfl, hc, h1⟩, fun j v hj => ?_⟩
    cases j with
    | zero => simp at hj; subst hj; exact hx
    | succ j => have := h2 j v (by simpa using hj); rwa [show o + 1 + j = o + (j + 1) by omega] at this
theorem RepEs.get : ∀ {es : List (List C)} {n b o i : Nat} {e : List C}, RepEs w A n es b o → es[i]? = some e → e.length = n ∧ RepCs w A e b (o + i * n)
  | [], _, _, _, _, _, _, h => by simp at h
  | e0 :: es, n, b, o, i, e, h, hi => by
    obtain ⟨h1, h2, h3⟩ := h
    cases i with
    | zero => simp at hi; subst hi; exact ⟨h1, by simpa using h2⟩
    | succ i =>
      have := RepEs.get h3 (by simpa using hi)
      refine ⟨this.1, ?_⟩
      have e : o + (i + 1) * n = o + n + i * n := by rw [Nat.add_mul]; omega
      rw [e]; exact this.2
theorem RepVs.length : ∀ {cs : List C} {ys : List Value}, RepVs w A cs ys → ys.length = cs.length
  | [], _, h => by rw [show _ = [] from h]; rfl
  | _ :: cs, _, h => by obtain ⟨y, ys, rfl, _, h⟩ := h; simp [RepVs.length h]
end lists
structure TI where
  agg : Bool
  size : Nat
  zero : List Value
  bytes : Nat
def isAggD : TypeDesc → Bool
  | .struct _ | .array _ _ => true
  | _ => false
def tyI (P : Program) (t : TypeId) : Option TI :=
  match P.info? t, P.underlying t with
  | some i, some u => match i.zero with
    | some z => if z.cells.toList.length = i.size ∧ z.cells.toList.all (·.oneCell') = true then some ⟨isAggD u, i.size, z.cells.toList, i.bytes⟩ else none
    | none => none
  | _, _ => none
def elemI (P : Program) (t : TypeId) : Option TypeId := match P.underlying t with | some (.slice e) => some e | _ => none
def arrI (P : Program) (t : TypeId) : Option (Nat × TypeId) := match P.underlying t with | some (.array n e) => some (n, e) | _ => none
def fieldI (P : Program) (t : TypeId) (f : Nat) : Option (Nat × Nat × Bool) :=
  match P.underlying t with
  | some (.struct fs) => match fs[f]? with
    | some x => match tyI P x.type with | some ti => if ti.size = 0 then none else some (x.offset, ti.size, ti.agg) | none => none
    | none => none
  | _ => none
def intI (P : Program) (t : TypeId) : Option IntKind := match P.underlying t with | some (.int k) => some k | _ => none
inductive ET where
  | bl
  | it
  | st (fs : List (Nat × Nat × ET))
section ty
variable {P : Program}
theorem tyI_spec {t : TypeId} {ti : TI} (h : tyI P t = some ti) : ∃ i u z, P.info? t = some i ∧ P.underlying t = some u ∧ i.zero = some z ∧ ti = ⟨isAggD u, i.size, z.cells.toList, i.bytes⟩ ∧ z.cells.toList.length = i.size ∧ z.cells.toList.all (·.oneCell') = true := by
  unfold tyI at h
  split at h
  · rename_i i u h1 h2
    split at h
    · rename_i z hz
      split at h
      · rename_i hl
        exact ⟨i, u, z, h1, h2, hz, by cases h; rfl, hl⟩
      · cases h
    · cases h
  · cases h
theorem run_isAgg_D [Lays] {t : TypeId} {ti : TI} (h : tyI P t = some ti) (w : World) : (isAgg t).run P w = .ok ti.agg w := by
  obtain ⟨i, u, z, h1, h2, h3, rfl, _⟩ := tyI_spec h
  unfold isAgg
  rw [Sem.run_bind, run_underlying h2 w]
  cases u <;> simp [isAggD]
theorem run_sizeOf_D [Lays] {t : TypeId} {ti : TI} (h : tyI P t = some ti) (w : World) : (sizeOf t).run P w = .ok ti.size w := by
  obtain ⟨i, u, z, h1, h2, h3, rfl, _⟩ := tyI_spec h
  simp [sizeOf, typeInfo, h1]
theorem run_zero_D [Lays] {t : TypeId} {ti : TI} (h : tyI P t = some ti) (w : World) : ∃ z, (zeroValue t).run P w = .ok z w ∧ z.cells.toList = ti.zero ∧ ti.zero.length = ti.size ∧ ti.zero.all (·.oneCell') = true := by
  obtain ⟨i, u, z, h1, h2, h3, rfl, hl⟩ := tyI_spec h
  exact ⟨z, by simp [zeroValue, typeInfo, h1, h3], rfl, hl⟩
theorem run_bytes_D [Lays] {t : TypeId} {ti : TI} (h : tyI P t = some ti) (w : World) : ∃ i, (typeInfo t).run P w = .ok i w ∧ i.bytes = ti.bytes := by
  obtain ⟨i, u, z, h1, h2, h3, rfl, hl⟩ := tyI_spec h
  exact ⟨i, by simp [typeInfo, h1], rfl⟩
theorem elemI_spec {t e : TypeId} (h : elemI P t = some e) : P.underlying t = some (.slice e) := by
  unfold elemI at h
  split at h
  · rename_i x hx; cases h; exact hx
  · cases h
theorem arrI_spec {t : TypeId} {x : Nat × TypeId} (h : arrI P t = some x) : P.underlying t = some (.array x.1 x.2) := by
  unfold arrI at h
  split at h
  · rename_i n e hx; cases h; exact hx
  · cases h
theorem intI_spec {t : TypeId} {k : IntKind} (h : intI P t = some k) : P.underlying t = some (.int k) := by
  unfold intI at h
  split at h
  · rename_i x hx; cases h; exact hx
  · cases h
theorem fieldI_spec {t : TypeId} {f : Nat} {r : Nat × Nat × Bool} (h : fieldI P t f = some r) : ∃ fs x ti, P.underlying t = some (.struct fs) ∧ fs[f]? = some x ∧ tyI P x.type = some ti ∧ ti.size ≠ 0 ∧ r = (x.offset, ti.size, ti.agg) := by
  unfold fieldI at h
  split at h
  · rename_i fs hu
    split at h
    · rename_i x hx
      split at h
      · rename_i ti hti
        split at h
        · cases h
        · rename_i hne; cases h; exact ⟨fs, x, ti, hu, hx, hti, hne, rfl⟩
      · cases h
    · cases h
  · cases h
end ty
def St.op [Lays] (σ : St) : Operand → D
  | .tmp t => (get t σ.tm).getD .top
  | .const v => if v.oneCell' then .c (.v v) else .top
  | .func f => .c (.fn (.func f) [] [])
  | .global g => match get g Lays.l with
    | some vs => .c (.ro false (vs.map C.v) 0)
    | none => .top
def iD (n : Int) : D := .c (.v (.int .i64 n))
def bD (b : Bool) : D := .c (.v (.bool b))
variable {N O0 : Nat → Prop} {w0 : World} {σ : St} {G : Gh} {a : Act} {w : World}
theorem Core.op [Lays] (h : Core N O0 w0 σ G a w) (x : Operand) : RepD w (Av N G σ.bx) G (σ.op x) (a.eval x) := by
  cases x with
  | tmp t =>
    simp only [St.op, Act.eval]
    cases ht : get t σ.tm with
    | none => trivial
    | some d =>
      obtain ⟨y, hy, hr⟩ := h.tm t d ht
      have : a.tmps.getD t undef = y := by rw [Array.getD_eq_getD_getElem?, hy]; rfl
      rw [this]; exact hr
  | const v =>
    simp only [St.op, Act.eval]
    split
    · rename_i h1; exact ⟨rfl, h1⟩
    · trivial
  | global g =>
    simp only [St.op, Act.eval]
    cases hg : get g Lays.l with
    | none => trivial
    | some vs =>
      have hm : (g, vs) ∈ Lays.l := by
        have key : ∀ (l : List (Nat × List Value)), get g l = some vs → (g, vs) ∈ l := by
          intro l
          induction l with
          | nil => intro h; cases h
          | cons p l ih =>
            intro h
            simp only [get] at h
            split at h
            · rename_i e; cases h; subst e; simp
            · simp [ih h]
        exact key _ hg
      obtain ⟨h1, h2, h3⟩ := h.laidA _ hm
      refine ⟨g, 0, rfl, h1, ?_, ?_⟩
      · rintro (h4 | h4)
        · exact h2 (.inr h4)
        · exact h2 (.inl h4.2)
      · dsimp only at h3
        have key : ∀ (vs : List Value) (o : Nat), (∀ j v, vs[j]? = some v → w.cell? ⟨g, o + j, none⟩ = some v ∧ v.oneCell' = true) → RepCs w (Av N G σ.bx) (vs.map C.v) g o := by
          intro vs
          induction vs with
          | nil => intro _ _; trivial
          | cons v vs ih =>
            intro o h
            have h0 := h 0 v rfl
            refine ⟨⟨v, by simpa using h0.1, rfl, h0.2⟩, ih (o + 1) (fun j v' hj => ?_)⟩
            have := h (j + 1) v' (by simpa using hj)
            rwa [show o + 1 + j = o + (j + 1) by omega]
        exact key vs 0 (fun j v hj => by rw [Nat.zero_add]; exact h3 j v hj)
  | func f => exact ⟨#[], #[], rfl, rfl, rfl⟩
theorem Core.ops [Lays] (h : Core N O0 w0 σ G a w) : ∀ (xs : List Operand), RepDs w (Av N G σ.bx) G (xs.map σ.op) (xs.map a.eval)
  | [] => rfl
  | x :: xs => ⟨_, _, rfl, h.op x, h.ops xs⟩
def andI (k : IntKind) (x y : Int) : Int := k.wrap (BitVec.ofInt k.bits x &&& BitVec.ofInt k.bits y).toNat
def orI (k : IntKind) (x y : Int) : Int := k.wrap (BitVec.ofInt k.bits x ||| BitVec.ofInt k.bits y).toNat
def xorI (k : IntKind) (x y : Int) : Int := k.wrap (BitVec.ofInt k.bits x ^^^ BitVec.ofInt k.bits y).toNat
def andNotI (k : IntKind) (x y : Int) : Int := k.wrap (BitVec.ofInt k.bits x &&& ~~~ BitVec.ofInt k.bits y).toNat
def shlI (k : IntKind) (x : Int) (n : Nat) : Int := k.wrap (x * 2 ^ (min n k.bits))
def shrI (k : IntKind) (x : Int) (n : Nat) : Int := x.fdiv (2 ^ (min n k.bits))
def intBin (op : BinOp) (k : IntKind) (x y : Int) : Option Value :=
  match op with
  | .add => some (.int k (k.wrap (x + y)))
  | .sub => some (.int k (k.wrap (x - y)))
  | .mul => some (.int k (k.wrap (x * y)))
  | .quo => if y = 0 then none else some (.int k (k.wrap (x.tdiv y)))
  | .rem => if y = 0 then none else some (.int k (x.tmod y))
  | .and => some (.int k (andI k x y))
  | .or => some (.int k (orI k x y))
  | .xor => some (.int k (xorI k x y))
  | .andNot => some (.int k (andNotI k x y))
  | .eql => some (.bool (x == y))
  | .neq => some (.bool (x != y))
  | .lss => some (.bool (decide (x < y)))
  | .leq => some (.bool (decide (x ≤ y)))
  | .gtr => some (.bool (decide (y < x)))
  | .geq => some (.bool (decide (y ≤ x)))
  | .shl | .shr => none
def shiftBin (op : BinOp) (k : IntKind) (x y : Int) : Option Value :=
  if y < 0 then none else
  match op with
  | .shl => some (.int k (shlI k x y.toNat))
  | .shr => some (.int k (shrI k x y.toNat))
  | _ => none
def isShift : BinOp → Bool
  | .shl | .shr => true
  | _ => false
mutual
def ET.eq : ET → List D → List D → Option Bool
  | .bl, xs, ys => match xs, ys with
    | [.c (.v (.bool a))], [.c (.v (.bool b))] => some (a == b)
    | _, _ => none
  | .it, xs, ys => match xs, ys with
    | [.c (.v (.int k a))], [.c (.v (.int k' b))] => if k = k' then some (a == b) else none
    | _, _ => none
  | .st fs, xs, ys => ETs.eq fs xs ys
def ETs.eq : List (Nat × Nat × ET) → List D → List D → Option Bool
  | [], _, _ => some true
  | f :: fs, xs, ys => match ET.eq f.2.2 ((xs.drop f.1).take f.2.1) ((ys.drop f.1).take f.2.1), ETs.eq fs xs ys with
    | some p, some q => some (p && q)
    | _, _ => none
end
def etFs (P : Program) (ev : TypeId → Option ET) : List Field → Option (List (Nat × Nat × ET))
  | [] => some []
  | f :: fs => if f.name = "_" then none else match tyI P f.type, ev f.type, etFs P ev fs with
    | some ti, some e, some es => some ((f.offset, ti.size, e) :: es)
    | _, _, _ => none
def etI (P : Program) : Nat → TypeId → Option ET
  | 0, _ => none
  | d + 1, t =>
    match P.underlying t with
    | some .bool => some .bl
    | some (.int _) => some .it
    | some (.struct fs) => if P.stoodInHeld t then none else (etFs P (etI P d) fs.toList).map .st
    | _ => none
def eqTy (P : Program) (t : TypeId) : Option ET :=
  if P.eqGuardType P.depth t then none else match tyI P t with
    | some ti => if ti.agg then etI P 10 t else none
    | none => none
def blI (P : Program) (t : TypeId) : Bool := match P.underlying t with | some .bool => true | _ => false
def binD (P : Program) (op : BinOp) (t : TypeId) (x y : D) : Option D :=
  match x, y with
  | .c (.v (.int k p)), .c (.v (.int k' q)) =>
    if isShift op then (shiftBin op k p q).map fun v => .c (.v v)
    else if k = k' then (intBin op k p q).map fun v => .c (.v v) else none
  | .c (.v (.bool p)), .c (.v (.bool q)) =>
    if blI P t then (match op with | .eql => some (bD (p == q)) | .neq => some (bD (p != q)) | _ => none) else none
  | .agg xs, .agg ys =>
    match eqTy P t with
    | some e => (match op with
      | .eql => (e.eq xs ys).map bD
      | .neq => (e.eq xs ys).map fun b => bD (!b)
      | _ => none)
    | none => none
  | .c (.sl _ _ (_ :: _)), .c (.v (.slice none _ _)) =>
    if (elemI P t).isSome then (match op with | .eql => some (bD false) | .neq => some (bD true) | _ => none) else none
  | .c (.v (.slice a _ _)), .c (.v (.slice none _ _)) =>
    if (elemI P t).isSome then (match op with | .eql => some (bD a.isNone) | .neq => some (bD (!a.isNone)) | _ => none) else none
  | _, _ => none
theorem intBin_run {P : Program} {op : BinOp} {k : IntKind} {x y : Int} {v : Value} (hs : isShift op = false) (h : intBin op k x y = some v) (w : World) (t : TypeId) :
    (binOp op t (.int k x) (.int k y)).run P w = .ok v w ∧ v.oneCell' = true := by
  cases op <;> simp only [intBin, isShift, Option.some.injEq, Bool.true_eq_false] at h hs <;>
    first
      | (subst h; refine ⟨?_, rfl⟩; simp [binOp, Op.intArith, Op.intBits, Op.intCmp, andI, orI, xorI, andNotI]; done)
      | skip
  · split at h
    · cases h
    · rename_i hy; cases h; refine ⟨?_, rfl⟩; simp [binOp, Op.intDiv, hy]
  · split at h
    · cases h
    · rename_i hy; cases h; refine ⟨?_, rfl⟩; simp [binOp, Op.intDiv, hy]
theorem shiftBin_run {P : Program} {op : BinOp} {k k' : IntKind} {x y : Int} {v : Value} (hs : isShift op = true) (h : shiftBin op k x y = some v) (w : World) (t : TypeId) :
    (binOp op t (.int k x) (.int k' y)).run P w = .ok v w ∧ v.oneCell' = true := by
  unfold shiftBin at h
  split at h
  · cases h
  · rename_i hy
    cases op <;> simp only [isShift, Bool.false_eq_true] at hs <;> simp only [Option.some.injEq] at h <;> subst h <;> refine ⟨?_, rfl⟩ <;> simp [binOp, Op.shift, hy, shlI, shrI]
end Go.Dw
end
