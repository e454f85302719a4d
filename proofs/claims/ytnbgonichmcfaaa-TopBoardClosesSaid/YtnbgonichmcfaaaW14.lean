/- Helpers of a proof. -/
import Derived.Test.YtnbgonichmcfaaaW13
set_option linter.unusedVariables false
set_option linter.unusedSimpArgs false
section
namespace Go.Dw
open Go.RowKit
variable {P : Program} {σ σ' : St}
structure SO where
  dst : Option Tmp
  op : Op
  guard : Option (Tmp × Bool)
def SO.of (ops : List Oper) (o : Oper) : SO := match o.guard with
  | none => ⟨o.dst, o.op, none⟩
  | some (g, want) => match (ops[g]?).bind (·.dst) with
    | some t => ⟨o.dst, o.op, some (t, want)⟩
    | none => ⟨o.dst, .ready 0, none⟩
def SO.up (s : SO) : Oper := { dst := s.dst, op := s.op, type := 0, pos := "", after := #[], guard := none }
def quietK : Op → Bool
  | .move _ | .assign _ | .pick .. | .slice .. | .alloc _ | .box .. | .build .. | .buildSlice .. | .load .. | .fieldAddr .. | .field .. | .indexAddr .. | .index .. | .unOp .. | .binOp .. | .convert .. | .makeFunc .. | .extract .. | .makeMap .. | .makeSlice .. | .lookup .. | .nilCheck _ => true
  | .call { callee := .value _, .. } => true
  | .call { callee := .builtin .len, .. } => true
  | .call { callee := .builtin .max, .. } => true
  | .call { callee := .builtin .min, .. } => true
  | _ => false
def quietO (o : Oper) : Bool := quietK o.op && o.dst.isSome
def isNil : Op → Bool
  | .nilCheck _ => true
  | _ => false
def isCall : Op → Bool
  | .call { callee := .value _, .. } => true
  | _ => false
def midO (ops : Array Oper) (o : Oper) : Bool := (ops.toList.filter fun x => isCall x.op).getLast?.any fun x => x.dst == o.dst && x.dst.isSome && (ops.toList.any fun x => isNil x.op || (match x.op with | .call { callee := .builtin .append, .. } => true | _ => false)) && (match ops.toList.findIdx? (fun y => y.dst == o.dst) with
  | some i => (List.range ops.size).all fun j => j == i || ((Region.before ops).getD j 0).testBit i || ((Region.before ops).getD i 0).testBit j
  | none => false)
def loudC : Op → Bool
  | .call { callee := .value (.func f), .. } => loudCalls.contains f
  | _ => false
def loudO (ops : Array Oper) (o : Oper) : Bool := isCall o.op && ((o.guard.isSome && ops.any fun x => isNil x.op) || (o.guard.isNone && decide (16 < ops.size) && midO ops o) || (o.guard.isNone && loudC o.op))
def commO (ops : Array Oper) (o : Oper) : Bool := quietO o && !loudO ops o
def freeD (ops : Array Oper) (bf : Array Nat) (listed : Array Bool) (i : Nat) : Bool :=
  match ops[i]? with
  | none => false
  | some oi => (List.range ops.size).all fun j =>
    match ops[j]? with
    | none => true
    | some oj => j == i || listed.getD j true || (bf.getD j 0).testBit i || (commO ops oi && commO ops oj && oi.apart ops oj)
def lexFromD (ops : Array Oper) (bf : Array Nat) : Nat → Nat → Array Bool → Bool
  | 0, _, listed => (Region.ready .any ops listed).isEmpty
  | fuel + 1, k, listed => (Region.ready .any ops listed).contains k && freeD ops bf listed k && lexFromD ops bf fuel (k + 1) (listed.setIfInBounds k true)
def lexD (ops : Array Oper) : Bool := lexFromD ops (Region.before ops) ops.size 0 (Array.replicate ops.size false)
inductive OT where
  | done
  | op (s : SO) (t : OT)
  | alt (a b : OT)
  | app (s : SO) (xs ds : List Tmp) (t : OT)
  | lop (s : SO) (t : OT)
inductive SC where
  | skip
  | ret
  | bad
  | exit (id : Nat)
  | reg (dr : Bool) (ops : List SO)
  | regL (pre : List SO) (s : SO) (post : List SO)
  | ord (t : OT)
  | seq (a b : SC)
  | cond (c : Operand) (a b : SC)
  | block (id : Nat) (a : SC)
  | loop (a : SC)
  | rng (f : Operand) (ps : List Tmp) (assign body : SC)
def altsOf : List (Option OT) → Option OT
  | [] => none
  | [x] => x
  | x :: l => match x, altsOf l with
    | some a, some b => some (.alt a b)
    | _, _ => none
def isApp (o : Oper) : Bool := match o.op with
  | .call { callee := .builtin .append, args, argTypes, .. } => args.size == 2 && argTypes.size == 2 && o.dst.isSome && o.guard.isNone
  | _ => false
def othersA (ops : Array Oper) (bf : Array Nat) (listed : Array Bool) (j : Nat) : List Oper := (List.range ops.size).filterMap fun i => match ops[i]? with
  | none => none
  | some oi => if i == j || listed.getD i true || (bf.getD i 0).testBit j then none else some oi
def tmpOf : Operand → Option Tmp
  | .tmp t => some t
  | _ => none
def freeAO (ops : Array Oper) (bf : Array Nat) (listed : Array Bool) (j : Nat) : Option (List Tmp × List Tmp) := match ops[j]? with
  | none => none
  | some oj => if isApp oj && decide (2 ≤ (ops.toList.filter isApp).length ∨ 16 < ops.size) && (othersA ops bf listed j).all (fun oi => commO ops oi && oi.apart ops oj && oi.guard.isNone) then
      some ((othersA ops bf listed j).flatMap (fun oi => oi.op.operands.toList.filterMap tmpOf), (othersA ops bf listed j).filterMap (·.dst)) else none
def isSto (o : Oper) : Bool := match o.op with
  | .store .. => o.guard.isNone
  | _ => false
def freeSO (ops : Array Oper) (bf : Array Nat) (listed : Array Bool) (j : Nat) : Option (List Tmp × List Tmp) := match ops[j]? with
  | none => none
  | some oj => if isSto oj && decide (15 < ops.size) && (othersA ops bf listed j).all (fun oi => (commO ops oi || (isSto oi && !loudO ops oi)) && oi.apart ops oj && oi.guard.isNone) then
      some ((othersA ops bf listed j).flatMap (fun oi => oi.op.operands.toList.filterMap tmpOf), (othersA ops bf listed j).filterMap (·.dst)) else none
def freeXO (ops : Array Oper) (bf : Array Nat) (listed : Array Bool) (j : Nat) : Option (List Tmp × List Tmp) := match freeAO ops bf listed j with
  | some r => some r
  | none => freeSO ops bf listed j
def otOp (ops : Array Oper) (o : Oper) (t : OT) : OT := if loudO ops o then .lop (SO.of ops.toList o) t else .op (SO.of ops.toList o) t
def ordT (ops : Array Oper) (bf : Array Nat) : Nat → Nat → Array Bool → Option OT
  | 0, _, listed => if (Region.ready .any ops listed).isEmpty then some .done else none
  | fuel + 1, br, listed => match Region.ready .any ops listed with
    | [] => some .done
    | r :: rs => match (r :: rs).find? (fun i => freeD ops bf listed i) with
      | some i => match ops[i]? with
        | some o => (ordT ops bf fuel br (listed.setIfInBounds i true)).map (otOp ops o)
        | none => none
      | none => match (r :: rs).find? (fun j => (freeXO ops bf listed j).isSome) with
        | some j => match ops[j]?, freeXO ops bf listed j with
          | some o, some (xs, ds) => (ordT ops bf fuel br (listed.setIfInBounds j true)).map (.app (SO.of ops.toList o) xs ds)
          | _, _ => none
        | none => match br with
          | 0 => none
          | br + 1 => altsOf ((r :: rs).map fun i => match ops[i]? with
            | some o => (ordT ops bf fuel br (listed.setIfInBounds i true)).map (otOp ops o)
            | none => none)
def ordD (ops : Array Oper) : Option OT := ordT ops (Region.before ops) ops.size 10 (Array.replicate ops.size false)
def splitL (ops : List Oper) : List Oper → List Oper → Option (List Oper × Oper × List Oper)
  | _, [] => none
  | pre, o :: l => if loudO ops.toArray o then (if l.any (loudO ops.toArray) then none else some (pre, o, l)) else splitL ops (pre ++ [o]) l
def toS : Code → SC
  | .skip => .skip
  | .region _ ops draw => if draw && ops.any (loudO ops) then (if lexD ops then (match splitL ops.toList [] ops.toList with | some (a, o, b) => .regL (a.map (SO.of ops.toList)) (SO.of ops.toList o) (b.map (SO.of ops.toList)) | none => (match ordD ops with | some t => .ord t | none => .bad)) else (match ordD ops with | some t => .ord t | none => .bad)) else if draw && !lexD ops then (match ordD ops with | some t => .ord t | none => .bad) else .reg draw (ops.toList.map (SO.of ops.toList))
  | .seq a b => .seq (toS a) (toS b)
  | .cond c a b => .cond c (toS a) (toS b)
  | .block id a => .block id (toS a)
  | .loop a => .loop (toS a)
  | .rangeFunc f ps a b => .rng f ps.toList (toS a) (toS b)
  | .exit id => .exit id
  | .ret => .ret
  | _ => .bad
structure SF where
  nt : Nat
  res : List ResultVar
  body : SC
def sfOf (fn : Func) : Option SF := fn.body.map fun c => ⟨fn.ntmps, fn.results.toList, toS c⟩
def WF (σ : St) : Prop := ∀ k, get k σ.bx = none → σ.men k = false
mutual
def D.keysIn (bx : List (Nat × Blk)) : D → Bool
  | .top => true
  | .c _ => true
  | .agg cs => D.keysIns bx cs
  | .tup cs => D.keysIns bx cs
  | .box k _ => (get k bx).isSome
  | .own k => (get k bx).isSome
  | .elo k _ _ _ => (get k bx).isSome
  | .win k _ _ _ => (get k bx).isSome
  | .hd k => (get k bx).isSome
  | .fn _ fs caps => D.keysIns bx fs && D.keysIns bx caps
def D.keysIns (bx : List (Nat × Blk)) : List D → Bool
  | [] => true
  | d :: ds => D.keysIn bx d && D.keysIns bx ds
end
def Blk.keysIn (bx : List (Nat × Blk)) : Blk → Bool
  | .box cs => D.keysIns bx cs
  | .row _ es => es.all (D.keysIns bx)
  | .lp _ _ tm => tm.all fun p => p.2.keysIn bx
  | .map _ ds => D.keysIns bx ds
  | .pmap _ _ ds => D.keysIns bx ds
  | .pbox _ ds => D.keysIns bx ds
def wfB (tm : List (Nat × D)) (bx : List (Nat × Blk)) : Bool := tm.all (fun p => p.2.keysIn bx) && bx.all (fun p => p.2.keysIn bx)
mutual
theorem keysIn_men {bx : List (Nat × Blk)} {k : Nat} (hk : get k bx = none) : ∀ d : D, d.keysIn bx = true → d.men k = false
  | .top, _ => rfl
  | .c _, _ => rfl
  | .agg cs, h => keysIns_men hk cs h
  | .tup cs, h => keysIns_men hk cs h
  | .box j _, h => by
    simp only [D.keysIn] at h
    simp only [D.men, beq_eq_false_iff_ne]
    rintro rfl; rw [hk] at h; cases h
  | .own j, h => by
    simp only [D.keysIn] at h
    simp only [D.men, beq_eq_false_iff_ne]
    rintro rfl; rw [hk] at h; cases h
  | .elo j _ _ _, h => by
    simp only [D.keysIn] at h
    simp only [D.men, beq_eq_false_iff_ne]
    rintro rfl; rw [hk] at h; cases h
  | .win j _ _ _, h => by
    simp only [D.keysIn] at h
    simp only [D.men, beq_eq_false_iff_ne]
    rintro rfl; rw [hk] at h; cases h
  | .hd j, h => by
    simp only [D.keysIn] at h
    simp only [D.men, beq_eq_false_iff_ne]
    rintro rfl; rw [hk] at h; cases h
  | .fn _ fs caps, h => by
    simp only [D.keysIn, Bool.and_eq_true] at h
    simp only [D.men, keysIns_men hk fs h.1, keysIns_men hk caps h.2, Bool.or_self]
theorem keysIns_men {bx : List (Nat × Blk)} {k : Nat} (hk : get k bx = none) : ∀ ds : List D, D.keysIns bx ds = true → D.mens k ds = false
  | [], _ => rfl
  | d :: ds, h => by
    simp only [D.keysIns, Bool.and_eq_true] at h
    simp only [D.mens, keysIn_men hk d h.1, keysIns_men hk ds h.2, Bool.or_self]
end
theorem WF.of [Lays] {nt : Nat} {tm : List (Nat × D)} {bx : List (Nat × Blk)} (h : wfB tm bx = true) : WF ⟨nt, tm, bx⟩ := by
  intro k hk
  simp only [wfB, Bool.and_eq_true, List.all_eq_true] at h
  simp only [St.men, Bool.or_eq_false_iff, List.any_eq_false]
  refine ⟨fun p hp => by rw [keysIn_men hk p.2 (h.1 p hp)]; simp, fun p hp => ?_⟩
  have := h.2 p hp
  obtain ⟨j, x⟩ := p
  cases x with
  | box cs => simp only [Blk.keysIn] at this; simp [Blk.men, keysIns_men hk cs this]
  | map ks cs => simp only [Blk.keysIn] at this; simp [Blk.men, keysIns_men hk cs this]
  | pmap l ks cs => simp only [Blk.keysIn] at this; simp [Blk.men, keysIns_men hk cs this]
  | pbox l cs => simp only [Blk.keysIn] at this; simp [Blk.men, keysIns_men hk cs this]
  | lp o v tm =>
    simp only [Blk.keysIn, List.all_eq_true] at this
    simp only [Blk.men, List.any_eq_true, not_exists, not_and]
    intro p hp
    rw [keysIn_men hk p.2 (this p hp)]
    simp
  | row n es =>
    simp only [Blk.keysIn, List.all_eq_true] at this
    simp only [Blk.men, List.any_eq_true, not_exists, not_and]
    intro e he
    rw [keysIns_men hk e (this e he)]
    simp
def wfS (σ : St) : Prop := wfB σ.tm σ.bx = true
theorem WF.ofS [Lays] {σ : St} (h : wfS σ) : WF σ := WF.of h
def quietS (s : SO) : Bool := quietK s.op && s.dst.isSome
def opsS [Lays] (P : Program) (dr : Bool) (Q : St → Prop) : List SO → St → Prop
  | [], σ => Q σ
  | s :: l, σ => match s.guard with
    | none => ∃ σ', OpTo P dr s.up σ σ' ∧ (dr = false ∨ quietS s = true ∨ wfS σ') ∧ opsS P dr Q l σ'
    | some (t, want) => match guardV (get t σ.tm) with
      | some y => if y = some want then ∃ σ', OpTo P dr s.up σ σ' ∧ (dr = false ∨ quietS s = true ∨ wfS σ') ∧ opsS P dr Q l σ' else (∀ t, s.dst = some t → t < σ.nt) ∧ (dr = false ∨ quietS s = true ∨ wfS (σ.putO s.dst (.tup []))) ∧ opsS P dr Q l (σ.putO s.dst (.tup []))
      | none => False
theorem opsQ_slim [Lays] {ops : List Oper} {Q : St → Prop} : ∀ (l : List Oper) (σ : St), opsS P false Q (l.map (SO.of ops)) σ → opsQ P ops Q l σ
  | [], _, h => h
  | o :: l, σ, h => by
    simp only [List.map_cons, opsS] at h
    show (match o.guard with | none => _ | some (g, want) => _)
    cases hgo : o.guard with
    | none =>
      have hof : SO.of ops o = ⟨o.dst, o.op, none⟩ := by simp only [SO.of, hgo]
      rw [hof] at h
      obtain ⟨σ', h1, _, h2⟩ := h
      exact ⟨σ', h1, opsQ_slim l σ' h2⟩
    | some gw =>
      obtain ⟨g, want⟩ := gw
      dsimp only
      unfold guardD
      cases ht : (ops[g]?).bind (·.dst) with
      | none =>
        have hof : SO.of ops o = ⟨o.dst, .ready 0, none⟩ := by simp only [SO.of, hgo, ht]
        rw [hof] at h
        obtain ⟨σ', ⟨_, d, hd, _⟩, _⟩ := h
        simp [SO.up, evP] at hd
      | some t =>
        have hof : SO.of ops o = ⟨o.dst, o.op, some (t, want)⟩ := by simp only [SO.of, hgo, ht]
        rw [hof] at h
        dsimp only at h ⊢
        split at h
        · rename_i b hb
          rw [hb]
          dsimp only
          by_cases e2 : b = some want
          · rw [if_pos e2] at h ⊢
            obtain ⟨σ', h1, _, h2⟩ := h
            exact ⟨σ', h1, opsQ_slim l σ' h2⟩
          · rw [if_neg e2] at h ⊢
            exact ⟨h.1, opsQ_slim l _ h.2.2⟩
        · cases h
def DW [Lays] (P : Program) (s : SC) (Q : Exit → St → Prop) (σ : St) : Prop := ∀ c, toS c = s → W P c Q σ
theorem DW.ent [Lays] {s : SC} {Q : Exit → St → Prop} (h : Ent σ σ') (hw : DW P s Q σ') : DW P s Q σ := fun c hc => W.ent h (hw c hc)
theorem DW.mono [Lays] {s : SC} {Q Q' : Exit → St → Prop} (hw : DW P s Q σ) (h : ∀ e σ', Q e σ' → Q' e σ') : DW P s Q' σ := fun c hc => W.mono (hw c hc) h
theorem toS_reg {dr : Bool} {ops : List SO} {c : Code} (h : toS c = .reg dr ops) : ∃ (id : Nat) (l : List Oper), c = .region id l.toArray dr ∧ ops = l.map (SO.of l) ∧ (dr = true → lexD l.toArray = true ∧ l.any (loudO l.toArray) = false) := by
  cases c <;> simp only [toS, reduceCtorEq] at h
  rename_i id o d
  split at h
  · (repeat' (split at h)) <;> cases h
  · rename_i hnl
    split at h
    · split at h <;> cases h
    · rename_i hl
      cases h
      refine ⟨id, o.toList, by simp, rfl, fun e => ?_⟩
      subst e
      simp only [Bool.true_and, Bool.not_eq_true, Bool.not_eq_true', Bool.not_eq_false] at hnl hl
      exact ⟨by simpa using hl, by simpa using hnl⟩
theorem toS_regL {pre : List SO} {s : SO} {post : List SO} {c : Code} (h : toS c = .regL pre s post) : ∃ (id : Nat) (l a : List Oper) (o : Oper) (b : List Oper), c = .region id l.toArray true ∧ lexD l.toArray = true ∧ splitL l [] l = some (a, o, b) ∧ pre = a.map (SO.of l) ∧ s = SO.of l o ∧ post = b.map (SO.of l) := by
  cases c <;> simp only [toS, reduceCtorEq] at h
  rename_i id ops d
  split at h
  · rename_i hd
    simp only [Bool.and_eq_true] at hd
    obtain ⟨rfl, _⟩ := hd
    split at h
    · rename_i hl
      split at h
      · rename_i a o b hs
        cases h
        exact ⟨id, ops.toList, a, o, b, by simp, by simpa using hl, hs, rfl, rfl, rfl⟩
      · split at h <;> cases h
    · split at h <;> cases h
  · split at h
    · split at h <;> cases h
    · cases h
theorem splitL_spec {ops : List Oper} : ∀ {l pre : List Oper} {a : List Oper} {o : Oper} {b : List Oper}, pre.any (loudO ops.toArray) = false → splitL ops pre l = some (a, o, b) → pre ++ l = a ++ o :: b ∧ a.any (loudO ops.toArray) = false ∧ loudO ops.toArray o = true ∧ b.any (loudO ops.toArray) = false
  | [], _, _, _, _, _, h => by cases h
  | x :: l, pre, a, o, b, hp, h => by
    simp only [splitL] at h
    split at h
    · rename_i hx
      split at h
      · cases h
      · rename_i hb
        cases h
        exact ⟨rfl, hp, hx, by simpa using hb⟩
    · rename_i hx
      have := splitL_spec (l := l) (pre := pre ++ [x]) (by simp only [List.any_append, hp, List.any_cons, List.any_nil, Bool.or_false, Bool.false_or]; simpa using hx) h
      refine ⟨?_, this.2⟩
      rw [← this.1]; simp
theorem DW.skip [Lays] {Q : Exit → St → Prop} (h : Q .normal σ) : DW P .skip Q σ := fun c hc => by
  cases c <;> simp only [toS, reduceCtorEq] at hc
  · exact W.skip h
  · (repeat' (split at hc)) <;> cases hc
theorem DW.ret [Lays] {Q : Exit → St → Prop} (h : Q .ret σ) : DW P .ret Q σ := fun c hc => by
  cases c <;> simp only [toS, reduceCtorEq] at hc
  · (repeat' (split at hc)) <;> cases hc
  · exact W.ret h
theorem DW.exit [Lays] {Q : Exit → St → Prop} {id : Nat} (h : Q (.exit id) σ) : DW P (.exit id) Q σ := fun c hc => by
  cases c <;> simp only [toS, reduceCtorEq, SC.exit.injEq] at hc
  · (repeat' (split at hc)) <;> cases hc
  · subst hc; exact W.exit h
def thenS [Lays] (P : Program) (y : SC) (Q : Exit → St → Prop) : Exit → St → Prop := fun e σ => match e with
  | .normal => DW P y Q σ
  | e => Q e σ
theorem DW.seq [Lays] {x y : SC} {Q : Exit → St → Prop} (h : DW P x (thenS P y Q) σ) : DW P (.seq x y) Q σ := fun c hc => by
  cases c <;> simp only [toS, reduceCtorEq, SC.seq.injEq] at hc
  · (repeat' (split at hc)) <;> cases hc
  · obtain ⟨hx, hy⟩ := hc
    refine W.seq (W.mono (h _ hx) ?_)
    intro e σ' q
    cases e <;> first | exact q | exact q _ hy
theorem DW.block [Lays] {id : Nat} {x : SC} {Q : Exit → St → Prop} (h : DW P x (blockQ id Q) σ) : DW P (.block id x) Q σ := fun c hc => by
  cases c <;> simp only [toS, reduceCtorEq, SC.block.injEq] at hc
  · (repeat' (split at hc)) <;> cases hc
  · obtain ⟨rfl, hx⟩ := hc
    exact W.block (h _ hx)
theorem DW.cond [Lays] {o : Operand} {x y : SC} {Q : Exit → St → Prop} {b : Bool} (hc : σ.op o = bD b) (hx : b = true → DW P x Q σ) (hy : b = false → DW P y Q σ) : DW P (.cond o x y) Q σ := fun c hcc => by
  cases c <;> simp only [toS, reduceCtorEq, SC.cond.injEq] at hcc
  · (repeat' (split at hcc)) <;> cases hcc
  · obtain ⟨rfl, h1, h2⟩ := hcc
    exact W.cond hc (fun h => hx h _ h1) (fun h => hy h _ h2)
theorem DW.loop [Lays] {x : SC} {Q : Exit → St → Prop} {ι : Type} (mk : ι → St) (m : ι → Nat) (i0 : ι) (h0 : Ent σ (mk i0)) (h : ∀ i, DW P x (loopQ mk m Q i) (mk i)) : DW P (.loop x) Q σ := fun c hc => by
  cases c <;> simp only [toS, reduceCtorEq, SC.loop.injEq] at hc
  · (repeat' (split at hc)) <;> cases hc
  · exact W.loop mk m i0 h0 (fun i => h i _ hc)
theorem DW.reg [Lays] {ops : List SO} {Q : Exit → St → Prop} (h : opsS P false (Q .normal) ops σ) : DW P (.reg false ops) Q σ := fun c hc => by
  obtain ⟨id, l, rfl, rfl, _⟩ := toS_reg hc
  exact W.region (opsQ_slim l σ h)
def retS [Lays] (P : Program) (res : List ResultVar) (r : D) (bo : List (Nat × Blk)) : Exit → St → Prop := fun e σ =>
  (e = .ret ∨ e = .normal) ∧ ∃ σ' ds, Ent σ σ' ∧ resD P σ' res = some ds ∧ Wk (oneD ds) r ∧ r.nb = true ∧ (∀ k x, get k bo = some x → get k σ'.bx = some x ∧ x.nb = true)
theorem DCall.of [Lays] {f : FuncId} {fn : Func} {sf : SF} {as : List D} {bi : List (Nat × Blk)} {r : D} {bo : List (Nat × Blk)} (hf : P.funcs[f]? = some fn) (hs : sfOf fn = some sf) (hbd : hasBody P f = true) (hn : as.length ≤ sf.nt) (hok : okRes r bo)
    (h : DW P sf.body (retS P sf.res r bo) { nt := sf.nt, tm := idxs 0 as, bx := bi }) : DCall P f as bi r bo := by
  unfold sfOf at hs
  simp only [Option.map_eq_some_iff] at hs
  obtain ⟨c, hb, rfl⟩ := hs
  exact DCall.intro hf hb hbd hn hok (h c rfl)
end Go.Dw
end
