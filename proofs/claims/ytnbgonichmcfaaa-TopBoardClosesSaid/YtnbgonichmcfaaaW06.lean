/- Helpers of a proof. -/
import Derived.Test.YtnbgonichmcfaaaW05
set_option linter.unusedVariables false
set_option linter.unusedSimpArgs false
section
namespace Go.Dw
open Go.RowKit
def cellOK : D → Bool
  | .c _ => true
  | .box _ _ | .own _ | .elo _ _ _ _ | .win _ _ _ _ | .fn _ _ _ | .hd _ => true
  | _ => false
def cellsD : D → Option (List D)
  | .agg cs => some cs
  | d => if cellOK d then some [d] else none
def setAt (cs : List D) (off : Nat) (xs : List D) : List D := cs.take off ++ xs ++ cs.drop (off + xs.length)
def loadD (ti : TI) (cs : List D) (off : Nat) : Option D :=
  if ti.agg then (if off + ti.size ≤ cs.length then some (.agg ((cs.drop off).take ti.size)) else none) else cs[off]?
def Blk.unpin : Blk → Bool
  | .pmap _ _ _ => false
  | .pbox _ _ => false
  | _ => true
def Blk.pinB (l : Nat) : Blk → Bool
  | .pbox l' _ => decide (l' = l)
  | _ => false
def Blk.pinM (l : Nat) : Blk → Bool
  | .pmap l' _ _ => decide (l' = l)
  | _ => false
def pkey (f : Blk → Bool) : List (Nat × Blk) → Option Nat
  | [] => none
  | p :: r => if f p.2 then some p.1 else pkey f r
def pget (l : Nat) (bx : List (Nat × Blk)) : Option (Nat × List D) := match pkey (Blk.pinB l) bx with
  | some k => match get k bx with
    | some (.pbox l' cs) => if l' = l then some (k, cs) else none
    | _ => none
  | none => none
def mget (l : Nat) (bx : List (Nat × Blk)) : Option (Nat × List Value × List D) := match pkey (Blk.pinM l) bx with
  | some k => match get k bx with
    | some (.pmap l' ks ds) => if l' = l then some (k, ks, ds) else none
    | _ => none
  | none => none
theorem pget_spec {l k : Nat} {bx : List (Nat × Blk)} {cs : List D} (h : pget l bx = some (k, cs)) : get k bx = some (.pbox l cs) := by
  unfold pget at h
  split at h
  · split at h
    · split at h
      · rename_i e; cases h; subst e; assumption
      · cases h
    · cases h
  · cases h
theorem mget_spec {l k : Nat} {bx : List (Nat × Blk)} {ks : List Value} {cs : List D} (h : mget l bx = some (k, ks, cs)) : get k bx = some (.pmap l ks cs) := by
  unfold mget at h
  split at h
  · split at h
    · split at h
      · rename_i e; cases h; subst e; assumption
      · cases h
    · cases h
  · cases h
inductive KK where
  | int (k : IntKind)
  | bool
  | arr (k : IntKind) (n : Nat)
def isIntV (k : IntKind) : Value → Bool
  | .int k' _ => decide (k' = k)
  | _ => false
def KK.is : KK → Value → Bool
  | .int k, .int k' _ => decide (k' = k)
  | .bool, .bool _ => true
  | .arr k n, .agg cs => decide (cs.size = n) && cs.toList.all (isIntV k)
  | _, _ => false
def eqVs : List Value → List Value → Bool
  | [], [] => true
  | .int _ a :: l, .int _ b :: r => (a == b) && eqVs l r
  | _, _ => false
def keyEq : Value → Value → Bool
  | .int _ a, .int _ b => a == b
  | .bool a, .bool b => a == b
  | .agg a, .agg b => eqVs a.toList b.toList
  | _, _ => false
def valsC : List D → Option (List Value)
  | [] => some []
  | .c (.v x) :: l => (valsC l).map (x :: ·)
  | _ => none
def keyD : D → Option Value
  | .c (.v x) => some x
  | .agg ds => (valsC ds).map fun l => .agg l.toArray
  | _ => none
def findL (x : Value) : List Value → Nat → Option Nat
  | [], _ => none
  | k :: ks, i => if keyEq x k then some i else findL x ks (i + 1)
def kkI (P : Program) (t : TypeId) : Option KK := match P.underlying t with
  | some (.int k) => some (.int k)
  | some .bool => some .bool
  | some (.array n e) => match P.underlying e with
    | some (.int k) => if P.cellsOf e = 1 then some (.arr k n) else none
    | _ => none
  | _ => none
def zeroI (P : Program) (t : TypeId) : Option D := match (P.info? t).bind (·.zero) with
  | some (.agg cs) => if cs.toList.all (·.oneCell') then some (.agg (cs.toList.map fun v => .c (.v v))) else none
  | some z => if z.oneCell' then some (.c (.v z)) else none
  | none => none
def mapI (P : Program) (t : TypeId) : Option (D × KK) := match P.underlying t with
  | some (.map k e) => match kkI P k, zeroI P e with
    | some kk, some z => some (z, kk)
    | _, _ => none
  | _ => none
def commaD (ok has : Bool) (d : D) : D := if ok then .tup [d, .c (.v (.bool has))] else d
def lookIn (z : D) (ks : List Value) (ds : List D) (x : Value) (ok : Bool) : Option D := match findL x ks 0 with
  | some i => match ds[i]? with
    | some d => some (commaD ok true d)
    | none => none
  | none => some (commaD ok false z)
def keysOK (kk : KK) (x : Value) (ks : List Value) : Bool := kk.is x && ks.all kk.is
def mapAt (bx : List (Nat × Blk)) : D → Option (List Value × List D)
  | .c (.v (.map (some l))) => match mget l bx with
    | some (_, ks, ds) => some (ks, ds)
    | none => none
  | .hd k => match get k bx with
    | some (.map ks ds) => some (ks, ds)
    | _ => none
  | _ => none
def lookD (P : Program) (bx : List (Nat × Blk)) (t : TypeId) (m i : D) (ok : Bool) : Option D := match mapI P t, keyD i with
  | some (z, kk), some x => match mapAt bx m with
    | some (ks, ds) => if keysOK kk x ks then lookIn z ks ds x ok else none
    | none => none
  | _, _ => none
def addOff (n : Nat) : D → Option D
  | .box k off => some (.box k (off + n))
  | .elo k m i off => some (.elo k m i (off + n))
  | .c (.ro bw cs off) => some (.c (.ro bw cs (off + n)))
  | .c (.v (.pointer (some ⟨l, off, none⟩))) => some (.c (.v (.pointer (some ⟨l, off + n, none⟩))))
  | _ => none
def St.loadAt (σ : St) (ti : TI) : D → Option D
  | .box k off => match get k σ.bx with
    | some (.box cs) => loadD ti cs off
    | _ => none
  | .elo k n i off => match get k σ.bx with
    | some (.row n' es) => if n = n' then (match es[i]? with
      | some e => if off + ti.size ≤ n then loadD ti e off else none
      | none => none) else none
    | _ => none
  | .c (.ro _ cs off) => loadD ti (cs.map .c) off
  | .c (.v (.pointer (some ⟨l, off, none⟩))) => match pget l σ.bx with
    | some (_, cs) => loadD ti cs off
    | none => none
  | _ => none
def idxD (P : Program) (σ : St) (t : TypeId) (x i : D) : Option D :=
  match i with
  | .c (.v (.int _ n)) =>
    match elemI P t with
    | some e => match tyI P e with
      | some ti => match x with
        | .c (.sl bw m es) => if m = ti.size ∧ 0 ≤ n then (match es[n.toNat]? with
          | some e => some (.c (.ro bw e 0))
          | none => none) else none
        | .own k => match get k σ.bx with
          | some (.row m es) => if m = ti.size ∧ 0 ≤ n ∧ n.toNat < es.length then some (.elo k m n.toNat 0) else none
          | _ => none
        | .win k m' lo hi => match get k σ.bx with
          | some (.row m es) => if m' = m ∧ m = ti.size ∧ 0 ≤ n ∧ lo + n.toNat < hi ∧ hi ≤ es.length then some (.elo k m (lo + n.toNat) 0) else none
          | _ => none
        | .c (.v (.slice (some ⟨l, o, none⟩) len _)) => if 0 ≤ n ∧ n.toNat < len then some (.c (.v (.pointer (some ⟨l, o + n.toNat * ti.size, none⟩)))) else none
        | _ => none
      | none => none
    | none => match arrI P t with
      | some (len, e) => match tyI P e with
        | some ti => if 0 ≤ n ∧ n < (len : Int) then addOff (n.toNat * ti.size) x else none
        | none => none
      | none => none
  | _ => none
def fillD (place : Nat → Option (Nat × Nat)) (cells : List D) : List (Nat × D) → Option (List D)
  | [] => some cells
  | (i, d) :: rest => match place i, cellsD d with
    | some (off, size), some cs => if cs.length = size ∧ off + size ≤ cells.length then fillD place (setAt cells off cs) rest else none
    | _, _ => none
def zeroD (ti : TI) : List D := ti.zero.map fun v => .c (.v v)
def placesL (P : Program) : List Field → Option (List (Nat × Nat))
  | [] => some []
  | f :: fs => match tyI P f.type, placesL P fs with
    | some ti, some ps => some ((f.offset, ti.size) :: ps)
    | _, _ => none
def placesI (P : Program) (t : TypeId) : Option (List (Nat × Nat)) :=
  match P.underlying t with
  | some (.struct fs) => placesL P fs.toList
  | some (.array n e) => match tyI P e with
    | some ti => if n ≤ 64 then some ((List.range n).map fun i => (i * ti.size, ti.size)) else none
    | none => none
  | _ => none
def lenD (σ : St) : D → Option Int
  | .c (.sl _ _ es) => some es.length
  | .own k => match get k σ.bx with
    | some (.row _ es) => some es.length
    | _ => none
  | .c (.v (.slice _ n _)) => some n
  | .win _ _ lo hi => some (hi - lo : Nat)
  | _ => none
def boundD (d : Int) : Option D → Option Int
  | none => some d
  | some (.c (.v (.int _ n))) => some n
  | _ => none
def sliceC (σ : St) (n : Nat) (l h : Nat) : D → Option D
  | .c (.sl bw m es) => if m = n then some (.c (.sl bw m ((es.take h).drop l))) else none
  | .own k => match get k σ.bx with
    | some (.row m _) => if m = n then some (.win k m l h) else none
    | _ => none
  | .c (.v (.slice none 0 0)) => some (.c (.v (.slice none 0 0)))
  | _ => none
def sliceB (σ : St) (n : Nat) (x : D) (len : Int) : Option Int → Option Int → Option D
  | some l, some h => if 0 ≤ l ∧ l ≤ h ∧ h ≤ len then sliceC σ n l.toNat h.toNat x else none
  | _, _ => none
def sliceD (P : Program) (σ : St) (t : TypeId) (x : D) (lo hi : Option D) : Option D :=
  match elemI P t with
  | some e => match tyI P e with
    | some ti => match lenD σ x with
      | some len => sliceB σ ti.size x len (boundD 0 lo) (boundD len hi)
      | none => none
    | none => none
  | none => none
def slice3D (P : Program) (t : TypeId) (x : D) (lo hi : Option D) (mx : D) : Option D := match elemI P t, x, hi, mx with
  | some e, .c (.sl bw n es), some (.c (.v (.int _ h))), .c (.v (.int _ m)) => match tyI P e, boundD 0 lo with
    | some ti, some l => if n = ti.size ∧ 0 ≤ l ∧ l ≤ h ∧ h ≤ m ∧ m ≤ es.length then (if h = m then some (.c (.cl bw n ((es.take h.toNat).drop l.toNat))) else some (.c (.sl bw n ((es.take h.toNat).drop l.toNat)))) else none
    | _, _ => none
  | _, _, _, _ => none
def max2D : D → D → Option D
  | .c (.v (.int k x)), .c (.v (.int _ y)) => some (.c (.v (.int k (if y > x then y else x))))
  | _, _ => none
def min2D : D → D → Option D
  | .c (.v (.int k x)), .c (.v (.int _ y)) => some (.c (.v (.int k (if y < x then y else x))))
  | _, _ => none
def foldO (f : D → D → Option D) : D → List D → Option D
  | x, [] => some x
  | x, y :: l => match f x y with
    | some z => foldO f z l
    | none => none
def isSliceTy (P : Program) (t : TypeId) : Bool := (elemI P t).isSome
def evB [Lays] (P : Program) (σ : St) (b : Builtin) (args : List Operand) (argTypes : List TypeId) : Option D :=
  match b, args with
  | .len, x :: _ => match argTypes with
    | t :: _ => if isSliceTy P t then (lenD σ (σ.op x)).map fun n => .c (.v (.int .i64 n)) else
      match arrI P t with
      | some (n, _) => some (.c (.v (.int .i64 n)))
      | none => none
    | [] => none
  | .max, x :: l => foldO max2D (σ.op x) (l.map σ.op)
  | .min, x :: l => foldO min2D (σ.op x) (l.map σ.op)
  | _, _ => none
def nilD : D → Option D
  | .c (.v (.pointer (some a))) => some (.c (.v (.pointer (some a))))
  | .c (.ro b cs off) => some (.c (.ro b cs off))
  | .box k off => some (.box k off)
  | .elo k n i off => some (.elo k n i off)
  | _ => none
theorem nilD_same {d d' : D} (h : nilD d = some d') : d' = d := by
  unfold nilD at h
  split at h <;> cases h <;> rfl
def evP [Lays] (P : Program) (σ : St) : Op → Option D
  | .nilCheck x => nilD (σ.op x)
  | .move x | .assign x => some (σ.op x)
  | .pick c a b => match σ.op c with
    | .c (.v (.bool t)) => some (if t then σ.op a else σ.op b)
    | _ => none
  | .load t x => match tyI P t with
    | some ti => σ.loadAt ti (σ.op x)
    | none => none
  | .fieldAddr t x f => match fieldI P t f with
    | some (fo, _, _) => addOff fo (σ.op x)
    | none => none
  | .field t x f => match fieldI P t f, σ.op x with
    | some (fo, size, agg), .agg cs => loadD ⟨agg, size, [], 0⟩ cs fo
    | _, _ => none
  | .indexAddr t x i => idxD P σ t (σ.op x) (σ.op i)
  | .index t x i => match arrI P t, σ.op x, σ.op i with
    | some (len, e), .agg cs, .c (.v (.int _ n)) => match tyI P e with
      | some ti => if 0 ≤ n ∧ n < (len : Int) then loadD ti cs (n.toNat * ti.size) else none
      | none => none
    | _, _, _ => none
  | .extract t i => match σ.op t with
    | .tup ds => ds[i]?
    | _ => none
  | .makeFunc fn first caps => some (.fn fn (first.toList.map σ.op) (caps.toList.map σ.op))
  | .binOp op t x y _ => binD P op t (σ.op x) (σ.op y)
  | .unOp op _ x => match op, σ.op x with
    | .not, .c (.v (.bool b)) => some (bD (!b))
    | .neg, .c (.v (.int k n)) => some (.c (.v (.int k (k.wrap (0 - n)))))
    | _, _ => none
  | .convert s d x => match P.underlying s, intI P d, σ.op x with
    | some _, some k, .c (.v (.int _ n)) => some (.c (.v (.int k (k.wrap n))))
    | _, _, _ => none
  | .build t parts => match tyI P t, placesI P t with
    | some ti, some ps => (fillD (fun i => ps[i]?) (zeroD ti) (parts.toList.map fun p => (p.1, σ.op p.2))).map .agg
    | _, _ => none
  | .call c => match c.callee with
    | .builtin b => evB P σ b c.args.toList c.argTypes.toList
    | _ => none
  | .slice t x lo hi none => sliceD P σ t (σ.op x) (lo.map σ.op) (hi.map σ.op)
  | .slice t x lo hi (some m) => slice3D P t (σ.op x) (lo.map σ.op) (hi.map σ.op) (σ.op m)
  | .lookup t x i ok => lookD P σ.bx t (σ.op x) (σ.op i) ok
  | _ => none
section sound
variable {P : Program} {w : World} {A : Bool → Nat → Prop} {G : Gh}
theorem Addr.add_mk (b o n : Nat) : (⟨b, o, none⟩ : Addr).add n = ⟨b, o + n, none⟩ := by
  unfold Addr.add; split <;> simp_all
theorem run_loadVar_D [Lays] {t : TypeId} {ti : TI} (ht : tyI P t = some ti) {cs : List D} {ys : List Value} (hr : RepDs w A G cs ys) {b o : Nat} (hc : ∀ j v, ys[j]? = some v → w.cell? ⟨b, o + j, none⟩ = some v)
    {off : Nat} {d : D} (h : loadD ti cs off = some d) : ∃ v, (loadVar t ⟨b, o + off, none⟩).run P w = .ok v w ∧ RepD w A G d v := by
  unfold loadD at h
  cases ha : ti.agg with
  | true =>
    simp only [ha, if_true] at h
    split at h
    · rename_i hl
      cases h
      have hlen : ((ys.drop off).take ti.size).length = ti.size := by
        have := hr.length
        simp; omega
      have := run_loadCells_list (P := P) w ⟨b, o + off, none⟩ ((ys.drop off).take ti.size) (fun j v hv => by
        rw [Addr.add_mk, Nat.add_assoc]
        refine hc _ _ ?_
        rw [List.getElem?_take] at hv
        split at hv
        · rw [List.getElem?_drop] at hv; exact hv
        · cases hv)
      rw [hlen] at this
      refine ⟨.agg ((ys.drop off).take ti.size).toArray, ?_, ⟨_, rfl, by simpa using (hr.drop off).take ti.size⟩⟩
      simp only [loadVar, Sem.run_bind, run_isAgg_D ht w, Result.andThen_ok, ha, if_true, run_sizeOf_D ht w, this, Sem.run_pure]
    · cases h
  | false =>
    simp only [ha, Bool.false_eq_true, if_false] at h
    obtain ⟨y, hy, hd⟩ := hr.get h
    refine ⟨y, ?_, hd⟩
    have := hc off y hy
    simp only [loadVar, Sem.run_bind, run_isAgg_D ht w, Result.andThen_ok, ha, Bool.false_eq_true, if_false, run_load, this]
theorem flatten_at {α : Type} {n : Nat} : ∀ {es : List (List α)} {i : Nat} {e : List α}, (∀ e ∈ es, e.length = n) → es[i]? = some e → (es.flatten.drop (i * n)).take n = e
  | [], i, e, _, h => by simp at h
  | e0 :: es, 0, e, hl, h => by
    simp at h; subst h
    have := hl e0 (by simp)
    simp [← this]
  | e0 :: es, i + 1, e, hl, h => by
    have h0 := hl e0 (by simp)
    have ih := flatten_at (es := es) (i := i) (e := e) (fun x hx => hl x (by simp [hx])) (by simpa using h)
    rw [List.flatten_cons, show (i + 1) * n = e0.length + i * n by rw [Nat.add_mul]; omega, ← List.drop_drop, List.drop_left]
    exact ih
theorem take_drop_take {α : Type} (l : List α) (m o n : Nat) (h : o + n ≤ m) : ((l.take m).drop o).take n = (l.drop o).take n := by
  rw [List.drop_take, List.take_take, Nat.min_eq_left (by omega)]
theorem row_elem [Lays] {arr : Array Value} {n : Nat} {es : List (List D)} (hn : ∀ e ∈ es, e.length = n) (hr : RepDs w A G es.flatten (arr.toList.take (es.length * n))) {i : Nat} {e : List D} (hi : es[i]? = some e) :
    RepDs w A G e ((arr.toList.drop (i * n)).take n) := by
  have h1 := (hr.drop (i * n)).take n
  rw [flatten_at hn hi] at h1
  have hlt : i < es.length := by
    rcases Nat.lt_or_ge i es.length with h | h
    · exact h
    · rw [List.getElem?_eq_none h] at hi; cases hi
  rwa [take_drop_take _ _ _ _ (by
    calc i * n + n = (i + 1) * n := by rw [Nat.add_mul]; omega
      _ ≤ es.length * n := Nat.mul_le_mul_right n hlt)] at h1
theorem addOff_sound {n : Nat} {x d : D} {X : Value} (h : addOff n x = some d) (hx : RepD w A G x X) : ∃ b o, X = .pointer (some ⟨b, o, none⟩) ∧ RepD w A G d (.pointer (some ⟨b, o + n, none⟩)) := by
  unfold addOff at h
  split at h <;> first | (cases h; done) | skip
  · cases h
    obtain ⟨b, hb, rfl⟩ := hx
    exact ⟨b, _, rfl, b, hb, rfl⟩
  · cases h
    obtain ⟨b, hb, rfl⟩ := hx
    exact ⟨b, _, rfl, b, hb, by rw [Nat.add_assoc]⟩
  · cases h
    obtain ⟨b, o, rfl, h1, h2, h3⟩ := hx
    exact ⟨b, _, rfl, b, o, by rw [Nat.add_assoc], h1, h2, h3⟩
  · cases h
    obtain ⟨rfl, _⟩ := hx
    exact ⟨_, _, rfl, rfl, rfl⟩
theorem cellsD_sound {d : D} {cs : List D} {y : Value} (h : cellsD d = some cs) (hd : RepD w A G d y) : RepDs w A G cs y.cells.toList := by
  unfold cellsD at h
  split at h
  · cases h
    obtain ⟨ys, rfl, hr⟩ := hd
    exact hr
  · rename_i d hna
    split at h
    · rename_i hok
      cases h
      have key : y.cells = #[y] := by
        unfold cellOK at hok
        split at hok
        · rename_i c
          cases c with
          | v x => obtain ⟨rfl, hx⟩ := hd; cases y <;> simp_all [Value.cells, Value.oneCell']
          | sl bw n es => obtain ⟨_, _, rfl, _⟩ := hd; rfl
          | cl bw n es => obtain ⟨_, rfl, _⟩ := hd; rfl
          | ro bw cs off => obtain ⟨_, _, rfl, _⟩ := hd; rfl
          | fn f fs caps => obtain ⟨_, _, rfl, _⟩ := hd; rfl
        · obtain ⟨_, _, rfl⟩ := hd; rfl
        · obtain ⟨_, _, _, _, rfl⟩ := hd; rfl
        · obtain ⟨_, _, rfl⟩ := hd; rfl
        · obtain ⟨_, _, _, _, _, _, rfl⟩ := hd; rfl
        · obtain ⟨_, _, rfl, _⟩ := hd; rfl
        · obtain ⟨_, _, rfl⟩ := hd; rfl
        · cases hok
      rw [key]
      exact ⟨y, [], rfl, hd, rfl⟩
    · cases h
theorem cellOK_one {d : D} {y : Value} (h : cellOK d = true) (hd : RepD w A G d y) : y.oneCell' = true := by
  unfold cellOK at h
  split at h
  · rename_i c
    cases c with
    | v x => obtain ⟨rfl, hx⟩ := hd; exact hx
    | sl bw n es => obtain ⟨_, _, rfl, _⟩ := hd; rfl
    | cl bw n es => obtain ⟨_, rfl, _⟩ := hd; rfl
    | ro bw cs off => obtain ⟨_, _, rfl, _⟩ := hd; rfl
    | fn f fs caps => obtain ⟨_, _, rfl, _⟩ := hd; rfl
  · obtain ⟨_, _, rfl⟩ := hd; rfl
  · obtain ⟨_, _, _, _, rfl⟩ := hd; rfl
  · obtain ⟨_, _, rfl⟩ := hd; rfl
  · obtain ⟨_, _, _, _, _, _, rfl⟩ := hd; rfl
  · obtain ⟨_, _, rfl, _⟩ := hd; rfl
  · obtain ⟨_, _, rfl⟩ := hd; rfl
  · cases h
theorem cellsOK_one [Lays] : ∀ {ds : List D} {ys : List Value}, ds.all cellOK = true → RepDs w A G ds ys → ∀ v ∈ ys, v.oneCell' = true
  | [], _, _, h, v, hv => by rw [show _ = [] from h] at hv; cases hv
  | d :: ds, _, hok, h, v, hv => by
    obtain ⟨y, ys, rfl, h1, h2⟩ := h
    simp only [List.all_cons, Bool.and_eq_true] at hok
    rcases List.mem_cons.1 hv with rfl | hv
    · exact cellOK_one hok.1 h1
    · exact cellsOK_one hok.2 h2 v hv
theorem foldl_set : ∀ (xs : List Value) (off k : Nat) (arr : Array Value), off + k + xs.length ≤ arr.size →
    ((xs.zipIdx k).foldl (fun cs (p : Value × Nat) => cs.setIfInBounds (off + p.2) p.1) arr).toList = arr.toList.take (off + k) ++ xs ++ arr.toList.drop (off + k + xs.length) := by
  intro xs
  induction xs with
  | nil => intro off k arr _; simp
  | cons x xs ih =>
    intro off k arr h
    simp only [List.length_cons] at h
    simp only [List.zipIdx_cons, List.foldl_cons]
    rw [ih off (k + 1) _ (by simp; omega)]
    simp only [Array.toList_setIfInBounds, List.length_cons]
    rw [show off + (k + 1) = off + k + 1 by omega]
    have h1 : (arr.toList.set (off + k) x).take (off + k + 1) = arr.toList.take (off + k) ++ [x] := by
      have hl : (arr.toList.take (off + k)).length = off + k := by simp; omega
      rw [List.take_set, List.take_succ_eq_append_getElem (by simp; omega)]
      rw [List.set_append_right _ _ (by omega), hl, Nat.sub_self]
      rfl
    have h2 : (arr.toList.set (off + k) x).drop (off + k + 1 + xs.length) = arr.toList.drop (off + k + (xs.length + 1)) := by
      rw [List.drop_set]
      rw [if_pos (by omega)]
      congr 1
      omega
    rw [h1, h2]
    simp
theorem setAt_sound [Lays] {cs xs : List D} {ys zs : List Value} {off : Nat} (h1 : RepDs w A G cs ys) (h2 : RepDs w A G xs zs) : RepDs w A G (setAt cs off xs) (ys.take off ++ zs ++ ys.drop (off + zs.length)) := by
  unfold setAt
  rw [h2.length]
  exact ((h1.take off).append h2).append (h1.drop _)
theorem setAt_length {cs xs : List D} {off : Nat} (h : off + xs.length ≤ cs.length) : (setAt cs off xs).length = cs.length := by
  simp [setAt]; omega
theorem fillD_sound [Lays] {place : Nat → Option (Nat × Nat)} : ∀ {ps : List (Nat × D)} {cells : List D} {arr : Array Value} {vs : List (Nat × Value)} {r : List D},
    fillD place cells ps = some r → RepDs w A G cells arr.toList → ps.map (·.1) = vs.map (·.1) → RepDs w A G (ps.map (·.2)) (vs.map (·.2)) →
    ∃ arr', Instr.fill place arr vs = some arr' ∧ RepDs w A G r arr'.toList ∧ arr'.size = arr.size
  | [], cells, arr, vs, r, h, hc, hi, hv => by
    cases h
    have : vs = [] := by simpa using hi.symm
    subst this
    exact ⟨arr, rfl, hc, rfl⟩
  | (i, d) :: ps, cells, arr, vs, r, h, hc, hi, hv => by
    cases vs with
    | nil => simp at hi
    | cons v0 vs =>
      obtain ⟨j, v⟩ := v0
      simp only [List.map_cons, List.cons.injEq] at hi
      obtain ⟨rfl, hi⟩ := hi
      obtain ⟨y, ys, e, hd, hv⟩ := hv
      simp only [List.map_cons, List.cons.injEq] at e
      obtain ⟨rfl, rfl⟩ := e
      simp only [fillD] at h
      split at h
      · rename_i off size cs hp hcs
        split at h
        · rename_i hl
          have hcv := cellsD_sound hcs hd
          have e1 : v.cells.size = size := by have := hcv.length; simp at this; omega
          have e2 : arr.size = cells.length := by have := hc.length; simpa using this
          have hset := setAt_sound (off := off) hc hcv
          have hfold := foldl_set v.cells.toList off 0 arr (by simp; omega)
          obtain ⟨arr2, ha2⟩ : ∃ arr2, arr2 = v.cells.zipIdx.foldl (fun cs (p : Value × Nat) => cs.setIfInBounds (off + p.2) p.1) arr := ⟨_, rfl⟩
          have hfe : arr2.toList = arr.toList.take off ++ v.cells.toList ++ arr.toList.drop (off + v.cells.toList.length) := by
            rw [ha2, ← Array.foldl_toList]
            simpa using hfold
          have hsz : arr2.size = arr.size := by
            have := congrArg List.length hfe
            simp at this; omega
          have := fillD_sound (place := place) (arr := arr2) h (by rw [hfe]; exact hset) hi hv
          obtain ⟨arr', h1, h2, h3⟩ := this
          refine ⟨arr', ?_, h2, by rw [h3, hsz]⟩
          simp only [Instr.fill, hp]
          rw [if_neg (by simp; omega)]
          rw [ha2] at h1
          exact h1
        · cases h
      · cases h
end sound
end Go.Dw
end
