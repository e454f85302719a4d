/- Helpers of a proof. -/
import Derived.Test.YtnbgonichmcfaaaW07
import Derived.Laws.MakeOwn
set_option linter.unusedVariables false
set_option linter.unusedSimpArgs false
section
namespace Go.Dw
open Go.RowKit
variable {P : Program} {N O0 : Nat → Prop} {w0 : World} {σ : St} {G : Gh} {a : Act} {w : World}
def chunk {α : Type} (n : Nat) : Nat → List α → List (List α)
  | 0, _ => []
  | m + 1, l => l.take n :: chunk n m (l.drop n)
theorem chunk_spec {α : Type} (n : Nat) : ∀ (m : Nat) (l : List α), l.length = m * n → (chunk n m l).flatten = l ∧ (∀ e ∈ chunk n m l, e.length = n) ∧ (chunk n m l).length = m
  | 0, l, h => by
    have : l = [] := List.length_eq_zero_iff.1 (by simpa using h)
    subst this
    exact ⟨rfl, by simp [chunk], rfl⟩
  | m + 1, l, h => by
    have e : (m + 1) * n = m * n + n := by rw [Nat.add_mul]; omega
    rw [e] at h
    obtain ⟨h1, h2, h3⟩ := chunk_spec n m (l.drop n) (by simp; omega)
    refine ⟨by simp [chunk, h1], ?_, by simp [chunk, h3]⟩
    intro x hx
    simp only [chunk, List.mem_cons] at hx
    rcases hx with rfl | hx
    · simp; omega
    · exact h2 x hx
def fewB (n : Nat) : Bool := decide (n ≤ 262144)
def evA [Lays] (P : Program) (σ : St) (k : Nat) : Op → Option (D × Blk)
  | .alloc t => match tyI P t with
    | some ti => some (.box k 0, .box (zeroD ti))
    | none => none
  | .box _ x => match cellsD (σ.op x) with
    | some cs => some (.box k 0, .box cs)
    | none => none
  | .buildSlice t len parts => match elemI P t with
    | some e => match tyI P e with
      | some ti => if len * ti.size ≤ 2 ^ 24 then
          match fillD (fun i => some (i * ti.size, ti.size)) (List.replicate len (zeroD ti)).flatten (parts.toList.map fun p => (p.1, σ.op p.2)) with
          | some cs => if cs.length = len * ti.size then some (.own k, .row ti.size (chunk ti.size len cs)) else none
          | none => none
        else none
      | none => none
    | none => none
  | .makeSlice t l c => match elemI P t with
    | some e => match tyI P e with
      | some ti => match σ.op l, σ.op c with
        | .c (.v (.int _ n)), .c (.v (.int _ m)) => if n = m ∧ 0 ≤ n ∧ fewB n.toNat = true ∧ ti.size ≤ 64 ∧ ti.bytes ≤ 1024 then
            some (.own k, .row ti.size ((List.replicate n.toNat (ti.zero.map C.v)).map (·.map D.c))) else none
        | _, _ => none
      | none => none
    | none => none
  | .makeMap t none => match mapI P t with
    | some _ => some (.hd k, .map [] [])
    | none => none
  | _ => none
theorem zeros_list {zero : Array Value} : ∀ (len : Nat), ((Array.range (len * zero.size)).map (fun i => zero[i % zero.size]!)).toList = (List.replicate len zero.toList).flatten := by
  intro len
  have : ∀ len, (List.range (len * zero.size)).map (fun i => zero[i % zero.size]!) = (List.replicate len zero.toList).flatten := by
    intro len
    induction len with
    | zero => simp
    | succ len ih =>
      rw [show (len + 1) * zero.size = zero.size + len * zero.size by rw [Nat.add_mul]; omega, List.range_add, List.map_append, List.replicate_succ, List.flatten_cons]
      congr 1
      · apply List.ext_getElem
        · simp
        · intro i h1 h2
          simp at h1
          simp [Nat.mod_eq_of_lt h1, h1]
      · rw [List.map_map, ← ih]
        apply List.map_congr_left
        intro i _
        simp [Function.comp]
  simpa using this len
theorem evA_sound [Lays] (h : Core N O0 w0 σ G a w) {o : Oper} {k : Nat} (hk : k < σ.nt) (hf : get k σ.bx = none) (hm : σ.men k = false) {d : D} {x : Blk} (hxm : x.men k = false) (he : evA P σ k o.op = some (d, x)) :
    ∃ v w' G', (execOp a.eval o).run P w = .ok (.value v) w' ∧ Core N O0 w0 ((σ.putB k x).put k d) G' (a.put (some k) v) w' := by
  have one : ∀ (s : Sem Value) (v : Value) (w' : World), s.run P w = .ok v w' → (do pure (Next.value (← s)) : Sem Next).run P w = .ok (.value v) w' := fun s v w' hs => by simp [hs]
  obtain ⟨dst, op, ty, pos, after, guard⟩ := o
  dsimp only at he
  cases op <;> simp only [evA, reduceCtorEq] at he
  case alloc t =>
    split at he
    · rename_i ti hti
      cases he
      obtain ⟨z, hz, hzl, _, hz1⟩ := run_zero_D hti w
      obtain ⟨G', hc⟩ := h.allocBox hk hf hm z.cells t (zeroD ti) (by simpa [Blk.men] using hxm) (by rw [hzl]; exact RepDs.ofVals _ hz1)
      refine ⟨_, _, G', one _ _ _ ?_, hc⟩
      simp only [Instr.alloc, Sem.run_bind, hz, Result.andThen_ok]
      simp [newVar, newRow]
    · cases he
  case box t x =>
    split at he
    · rename_i cs hcs
      cases he
      obtain ⟨G', hc⟩ := h.allocBox hk hf hm (a.eval x).cells t cs (by simpa [Blk.men] using hxm) (cellsD_sound hcs (h.op x))
      refine ⟨_, _, G', one _ _ _ ?_, hc⟩
      simp [Instr.box, newVar, newRow]
    · cases he
  case makeMap t r =>
    cases r with
    | some r => cases he
    | none =>
      dsimp only at he
      split at he
      · cases he
        obtain ⟨G', hc⟩ := h.allocMap hk hf hm
        exact ⟨_, _, G', one _ _ _ rfl, hc⟩
      · cases he
  case buildSlice t len parts =>
    split at he
    · rename_i e hel
      split at he
      · rename_i ti hti
        split at he
        · rename_i hle
          split at he
          · rename_i cs hcs
            split at he
            · rename_i hlen
              cases he
              have hu := elemI_spec hel
              obtain ⟨c1, c2, c3⟩ := chunk_spec ti.size len cs hlen
              obtain ⟨z, hz, hzl, hzs, hz1⟩ := run_zero_D hti w
              have hzsize : z.cells.size = ti.size := by rw [← hzs, ← hzl]; simp
              have hzero : ((Array.range (len * ti.size)).map (fun i => z.cells[i % z.cells.size]!)).toList = (List.replicate len ti.zero).flatten := by
                rw [← hzl, ← hzsize]; exact zeros_list len
              have hrep : RepDs w (Av N G σ.bx) G (List.replicate len (zeroD ti)).flatten ((Array.range (len * ti.size)).map (fun i => z.cells[i % z.cells.size]!)).toList := by
                rw [hzero]
                have : (List.replicate len (zeroD ti)).flatten = ((List.replicate len ti.zero).flatten).map fun v => D.c (.v v) := by
                  rw [List.map_flatten, List.map_replicate]; rfl
                rw [this]
                exact RepDs.ofVals _ (by
                  simp only [List.all_eq_true, List.mem_flatten, List.mem_replicate] at hz1 ⊢
                  rintro v ⟨l, ⟨_, rfl⟩, hv⟩
                  exact hz1 v hv)
              obtain ⟨arr', hfill, hr, hsz⟩ := fillD_sound (w := w) (vs := (parts.toList.map fun p => (p.1, a.eval p.2))) hcs hrep (by simp)
                (by have := h.ops (parts.toList.map (·.2)); simp only [List.map_map] at this ⊢; exact this)
              have hasz : arr'.size = len * ti.size := by rw [hsz]; simp
              have hrow := h.allocRow hk hf hm arr' e ti.size len (chunk ti.size len cs) (by
                  rw [c1]
                  have := hxm
                  simp only [Blk.men, List.any_eq_false] at this
                  have key : ∀ l : List (List D), (∀ x ∈ l, ¬ D.mens k x = true) → D.mens k l.flatten = false := by
                    intro l
                    induction l with
                    | nil => intro _; rfl
                    | cons e l ih =>
                      intro hl
                      have app : ∀ a b : List D, D.mens k a = false → D.mens k b = false → D.mens k (a ++ b) = false := by
                        intro a b ha hb'
                        induction a with
                        | nil => exact hb'
                        | cons d ds ih =>
                          simp only [D.mens, Bool.or_eq_false_iff] at ha
                          simp only [List.cons_append, D.mens, Bool.or_eq_false_iff]
                          exact ⟨ha.1, ih ha.2⟩
                      exact app e _ (by simpa using hl e (by simp)) (ih (fun x hx => hl x (by simp [hx])))
                  have := key _ this
                  rwa [c1] at this) c2 (by omega) hasz
                (by rw [c1, c3, List.take_of_length_le (by simp [hasz])]; exact hr)
              obtain ⟨G', hc⟩ := hrow
              rw [c3] at hc
              refine ⟨_, _, G', one _ _ _ ?_, hc⟩
              simp only [Instr.buildSlice, Sem.run_bind, run_underlying hu, Result.andThen_ok, run_sizeOf_D hti]
              rw [if_neg (by omega)]
              have e1 : (parts.map fun (i, x) => (i, a.eval x)).toList = parts.toList.map fun p => (p.1, a.eval p.2) := by simp
              by_cases h0 : len * ti.size = 0
              · simp only [h0, if_true, Sem.run_pure, Result.andThen_ok, Sem.run_bind]
                have e2 : ((Array.range 0).map fun i => (#[] : Array Value)[i % (#[] : Array Value).size]!) = (Array.range (len * ti.size)).map (fun i => z.cells[i % z.cells.size]!) := by
                  rw [h0]; simp
                rw [e1, e2, hfill]
                simp [newRow]
              · simp only [h0, if_false, Sem.run_bind, hz, Result.andThen_ok, Sem.run_pure]
                rw [e1, hfill]
                simp [newRow]
            · cases he
          · cases he
        · cases he
      · cases he
    · cases he
  case makeSlice t l c =>
    split at he
    · rename_i e hel
      split at he
      · rename_i ti hti
        split at he
        · rename_i kl n kc m hl hc
          split at he
          · rename_i hcond
            obtain ⟨rfl, hn0, hfew, hs64, hb1024⟩ := hcond
            cases he
            have hu := elemI_spec hel
            obtain ⟨i, u, z, hi, hud, hz, rfl, hzl, hz1⟩ := tyI_spec hti
            have hfew : n.toNat ≤ 262144 := by simpa [fewB] using hfew
            have hb : i.bytes ≤ 1024 := hb1024
            have hbn : (i.bytes : Int) * n ≤ 281474976710656 := by
              have h1 : i.bytes * n.toNat ≤ 1024 * 262144 := Nat.mul_le_mul hb hfew
              have h2 : ((i.bytes * n.toNat : Nat) : Int) = (i.bytes : Int) * n := by
                rw [Int.natCast_mul, Int.toNat_of_nonneg hn0]
              omega
            have hL := h.op l
            have hC := h.op c
            rw [hl] at hL
            rw [hc] at hC
            have hrun := run_make w t e i z hu hi hz kl kc n n hn0 (Int.le_refl _) hbn (by omega)
            have hzsize : z.cells.size = i.size := by rw [← hzl]; simp
            have hcells : (madeCells z.cells (n.toNat * i.size)).toList = (List.replicate n.toNat z.cells.toList).flatten := by
              rw [← hzsize]; exact zeros_list n.toNat
            have hflat : ((List.replicate n.toNat (z.cells.toList.map C.v)).map (·.map D.c)).flatten = ((List.replicate n.toNat z.cells.toList).flatten).map fun v => D.c (.v v) := by
              rw [List.map_flatten, List.map_replicate, List.map_replicate, List.map_map]; rfl
            have hrow := h.allocRow hk hf hm (madeCells z.cells (n.toNat * i.size)) e i.size n.toNat ((List.replicate n.toNat (z.cells.toList.map C.v)).map (·.map D.c)) (by
                rw [hflat]
                have : ∀ l : List Value, D.mens k (l.map fun v => D.c (.v v)) = false := by
                  intro l
                  induction l with
                  | nil => rfl
                  | cons v l ih => simp only [List.map_cons, D.mens, D.men, Bool.false_or]; exact ih
                exact this _)
              (by
                intro e' he'
                rw [List.map_replicate] at he'
                rw [List.eq_of_mem_replicate he']
                simpa using hzl)
              (by simp) (by rw [size_madeCells])
              (by
                rw [hflat]
                have : (madeCells z.cells (n.toNat * i.size)).toList.take (((List.replicate n.toNat (z.cells.toList.map C.v)).map (·.map D.c)).length * i.size) = (List.replicate n.toNat z.cells.toList).flatten := by
                  rw [hcells]
                  refine List.take_of_length_le ?_
                  have : (madeCells z.cells (n.toNat * i.size)).toList.length = n.toNat * i.size := by
                    rw [Array.length_toList, size_madeCells]
                  rw [hcells] at this
                  rw [this]; simp
                rw [this]
                refine RepDs.ofVals _ ?_
                simp only [List.all_eq_true, List.mem_flatten, List.mem_replicate] at hz1 ⊢
                rintro v ⟨l, ⟨_, rfl⟩, hv⟩
                exact hz1 v hv)
            obtain ⟨G', hcore⟩ := hrow
            refine ⟨_, _, G', one _ _ _ ?_, hcore⟩
            rw [show a.eval l = .int kl n from hL.1, show a.eval c = .int kc n from hC.1, hrun]
            simp
          · cases he
        · cases he
      · cases he
    · cases he
def storeAt (σ : St) (x : D) (xs : List D) : Option St :=
  if xs.all cellOK then
    match x with
    | .box k off => match get k σ.bx with
      | some (.box cs) => if off + xs.length ≤ cs.length then some (σ.putB k (.box (setAt cs off xs))) else none
      | _ => none
    | .elo k n i off => match get k σ.bx with
      | some (.row n' es) => if n = n' ∧ off + xs.length ≤ n then (match es[i]? with
        | some e => some (σ.putB k (.row n (es.set i (setAt e off xs))))
        | none => none) else none
      | _ => none
    | .c (.v (.pointer (some ⟨l, off, none⟩))) => match pget l σ.bx with
      | some (k, cs) => if off + xs.length ≤ cs.length then some (σ.putB k (.pbox l (setAt cs off xs))) else none
      | none => none
    | _ => none
  else none
def evS [Lays] (P : Program) (σ : St) (t : TypeId) (x y : Operand) : Option St :=
  match tyI P t, cellsD (σ.op y) with
  | some ti, some xs => if xs.length = ti.size then storeAt σ (σ.op x) xs else none
  | _, _ => none
theorem setRow_other (w : World) (g : Nat) (cs : Array Value) {b : Nat} (h : b ≠ g) : (w.setRow g cs).heap[b]? = w.heap[b]? := by
  simp only [World.setRow, Array.getElem?_modify]
  rw [if_neg (fun e => h e.symm)]
theorem owned_same [Lays] {G : Gh} {bx : List (Nat × Blk)} {k : Nat} {x x' : Blk} (hk : get k bx = some x) {b : Nat} : owned G (ins k x' bx) b ↔ owned G bx b := by
  constructor
  · rintro ⟨j, z, hj, hb⟩
    rw [get_ins] at hj
    split at hj
    · rename_i e; subst e; exact ⟨_, x, hk, hb⟩
    · exact ⟨j, z, hj, hb⟩
  · rintro ⟨j, z, hj, hb⟩
    by_cases e : j = k
    · subst e; exact ⟨_, x', by rw [get_ins, if_pos rfl], hb⟩
    · exact ⟨j, z, by rw [get_ins, if_neg e]; exact hj, hb⟩
theorem Av_same [Lays] {G : Gh} {bx : List (Nat × Blk)} {k : Nat} {x x' : Blk} (hk : get k bx = some x) : Av N G (ins k x' bx) = Av N G bx := by
  funext bw b
  simp only [Av, owned_same hk]
theorem _root_.List.map_modify_of_set {α β : Type} {f : α → α} {g : α → β} {c : β} (h : ∀ x, g (f x) = c) : ∀ {l : List α} {i : Nat}, (l.modify i f).map g = (l.map g).set i c
  | [], i => by cases i <;> rfl
  | x :: l, 0 => by simp [h]
  | x :: l, i + 1 => by simp [List.map_modify_of_set h]
theorem Core.write [Lays] (h : Core N O0 w0 σ G a w) {k : Nat} {x x' : Blk} (hk : get k σ.bx = some x) {b : Nat} (hb : G.β k = some b) {arr : Array Value} {E : TypeId} (hh : w.heap[b]? = some (.cells arr E (0, 0))) (arr' : Array Value)
    (hx : RepB (w.setRow b arr') (Av N G σ.bx) G k x') : Core N O0 w0 (σ.putB k x') G a (w.setRow b arr') := by
  have hown : owned G σ.bx b := ⟨k, x, hk, hb⟩
  have hsz : (w.setRow b arr').heap.size = w.heap.size := by simp [World.setRow]
  have hkeep : Keeps w (w.setRow b arr') (Av N G σ.bx) (Av N G (ins k x' σ.bx)) := by
    rw [Av_same hk]
    exact ⟨Nat.le_of_eq hsz.symm, fun _ _ _ h => h, fun bw b' hb' hA o => cell?_of_heap (setRow_other w b arr' (fun e => hA (.inl (by rw [e]; exact hown)))) o⟩
  exact {
    rep := fun j z hj => by
      simp only [St.putB, get_ins] at hj
      split at hj
      · rename_i e; subst e; cases hj
        show RepB _ (Av N G (ins _ _ σ.bx)) G _ _
        rw [Av_same hk]; exact hx
      · rename_i e
        refine RepB.mono hkeep (fun _ => False) (fun _ _ => ⟨rfl, rfl⟩) z (fun h => h) (fun b' hb' => ?_) (fun _ h => h.elim) (h.rep j z hj)
        refine setRow_other w b arr' (fun e2 => e ?_)
        subst e2
        exact h.inj j k z x b' hj hk hb' hb
    inj := fun i j x1 x2 b1 hi hj hb1 hb2 => by
      simp only [St.putB, get_ins] at hi hj
      have : ∀ i x1, (if i = k then some x' else get i σ.bx) = some x1 → ∃ z, get i σ.bx = some z := by
        intro i x1 hi
        split at hi
        · rename_i e; subst e; exact ⟨x, hk⟩
        · exact ⟨_, hi⟩
      obtain ⟨z1, h1⟩ := this i x1 hi
      obtain ⟨z2, h2⟩ := this j x2 hj
      exact h.inj i j z1 z2 b1 h1 h2 hb1 hb2
    own := fun b1 hb1 => by
      have := h.own b1 ((owned_same hk).1 hb1)
      exact ⟨by rw [hsz]; exact this.1, this.2⟩
    tm := fun t d ht => by
      obtain ⟨y, hy, hr⟩ := h.tm t d ht
      exact ⟨y, hy, RepD.keep hkeep d y hr⟩
    nt := h.nt
    df := by
      obtain ⟨rs, h1, h2, h3⟩ := h.df
      refine ⟨rs, h1, h2, fun r hr => ⟨?_, (h3 r hr).2⟩⟩
      rw [setRow_other]
      · exact (h3 r hr).1
      · intro e; have := (h3 r hr).1; rw [e, hh] at this; cases this
    fr := ⟨h.fr.os, h.fr.tape, h.fr.output, by rw [hsz]; exact h.fr.size, fun b1 hb1 hO => by
      have hne : b1 ≠ b := fun e => by
        subst e
        rcases (h.own b1 hown).2 with h1 | h1
        · exact hO h1
        · omega
      rw [setRow_other w b arr' hne]; exact h.fr.keep b1 hb1 hO⟩
    nlt := h.nlt
    odis := h.odis
    laid := h.laid }
theorem Core.skip [Lays] (h : Core N O0 w0 σ G a w) : Core N O0 w0 σ G (a.put none undef) w := h
theorem setAt_row [Lays] {w : World} {A : Bool → Nat → Prop} {arr : Array Value} {n : Nat} {es : List (List D)} (hn : ∀ e ∈ es, e.length = n) (hr : RepDs w A G es.flatten (arr.toList.take (es.length * n))) {i off : Nat} {e : List D} (hi : es[i]? = some e)
    {xs : List D} {zs : List Value} (hz : RepDs w A G xs zs) (hle : off + xs.length ≤ n) (hs : es.length * n ≤ arr.size) :
    RepDs w A G (es.set i (setAt e off xs)).flatten ((arr.toList.take (i * n + off) ++ zs ++ arr.toList.drop (i * n + off + zs.length)).take (es.length * n)) := by
  have hlt : i < es.length := by
    rcases Nat.lt_or_ge i es.length with h | h
    · exact h
    · rw [List.getElem?_eq_none h] at hi; cases hi
  have hzl := hz.length
  have hin : i * n + n ≤ es.length * n := by
    calc i * n + n = (i + 1) * n := by rw [Nat.add_mul]; omega
      _ ≤ es.length * n := Nat.mul_le_mul_right n hlt
  have key : ∀ (es : List (List D)) (i : Nat) (e : List D), (∀ e ∈ es, e.length = n) → es[i]? = some e → (es.set i (setAt e off xs)).flatten = setAt es.flatten (i * n + off) xs := by
    intro es
    induction es with
    | nil => intro i e _ h; simp at h
    | cons e0 es ih =>
      intro i e hl hi
      have h0 := hl e0 (by simp)
      cases i with
      | zero =>
        simp at hi; subst hi
        simp only [List.set_cons_zero, List.flatten_cons, Nat.zero_mul, Nat.zero_add, setAt]
        rw [List.take_append_of_le_length (by omega), List.drop_append_of_le_length (by omega)]
        simp
      | succ i =>
        have := ih i e (fun x hx => hl x (by simp [hx])) (by simpa using hi)
        rw [List.set_cons_succ, List.flatten_cons, List.flatten_cons, this]
        unfold setAt
        have e1 : (i + 1) * n + off = e0.length + (i * n + off) := by rw [Nat.add_mul]; omega
        rw [e1, List.take_length_add_append, show e0.length + (i * n + off) + xs.length = e0.length + (i * n + off + xs.length) by omega, List.drop_length_add_append]
        simp
  rw [key es i e hn hi]
  have h1 := setAt_sound (off := i * n + off) hr hz
  have h2 : (arr.toList.take (es.length * n)).take (i * n + off) ++ zs ++ (arr.toList.take (es.length * n)).drop (i * n + off + zs.length) =
      (arr.toList.take (i * n + off) ++ zs ++ arr.toList.drop (i * n + off + zs.length)).take (es.length * n) := by
    have ha : (arr.toList.take (i * n + off) ++ zs).length = i * n + off + zs.length := by simp; omega
    rw [List.take_take, Nat.min_eq_left (by omega), List.take_append, ha, List.take_of_length_le (l := arr.toList.take (i * n + off) ++ zs) (by omega), List.drop_take]
  rw [← h2]; exact h1
theorem storeAt_sound [Lays] (h : Core N O0 w0 σ G a w) {x : D} {X : Value} {xs : List D} {zs : List Value} {σ' : St} (hx : RepD w (Av N G σ.bx) G x X) (hz : RepDs w (Av N G σ.bx) G xs zs) (he : storeAt σ x xs = some σ') :
    ∃ ad w', X = .pointer (some ad) ∧ (storeCells ad zs 0).run P w = .ok () w' ∧ Core N O0 w0 σ' G a w' := by
  unfold storeAt at he
  split at he
  · rename_i hok
    have hone := cellsOK_one hok hz
    have hzl := hz.length
    split at he
    · rename_i k off
      split at he
      · rename_i cs hk
        split at he
        · rename_i hle
          cases he
          obtain ⟨b, hb, rfl⟩ := hx
          obtain ⟨b', arr, E, hb', hh, hr⟩ := h.rep k _ hk
          rw [hb] at hb'; cases hb'
          have hal := hr.length
          simp only [Array.length_toList] at hal
          have hrun := run_storeCells_at (P := P) b off E zs 0 arr w hh (by omega) hone
          rw [Nat.add_zero] at hrun
          refine ⟨_, _, rfl, hrun, h.write hk hb hh _ ?_⟩
          have hkp : Keeps w (w.setRow b (arr.toList.take off ++ zs ++ arr.toList.drop (off + zs.length)).toArray) (Av N G σ.bx) (Av N G σ.bx) :=
            ⟨by simp [World.setRow], fun _ _ _ h => h, fun bw b' hb' hA o => cell?_of_heap (setRow_other w b _ (fun e => hA (.inl (by rw [e]; exact ⟨k, _, hk, hb⟩)))) o⟩
          refine ⟨b, _, E, hb, setRow_heap w b arr _ E (0, 0) hh, ?_⟩
          simpa using RepDs.keep hkp _ _ (setAt_sound (off := off) hr hz)
        · cases he
      · cases he
    · rename_i k n i off
      split at he
      · rename_i n' es hk
        split at he
        · rename_i hle
          obtain ⟨rfl, hle⟩ := hle
          split at he
          · rename_i e hi
            cases he
            obtain ⟨b, hb, rfl⟩ := hx
            obtain ⟨hlen, ⟨hnil, _⟩ | ⟨b', arr, E, cap, hb', hh, hγ, hc, hs, hr⟩⟩ := h.rep k _ hk
            · subst hnil; simp at hi
            · rw [hb] at hb'; cases hb'
              have hlt : i < es.length := by
                rcases Nat.lt_or_ge i es.length with h | h
                · exact h
                · rw [List.getElem?_eq_none h] at hi; cases hi
              have hsz : es.length * n ≤ arr.size := by rw [hs]; exact Nat.mul_le_mul_right n hc
              have hin : i * n + n ≤ es.length * n := by
                calc i * n + n = (i + 1) * n := by rw [Nat.add_mul]; omega
                  _ ≤ es.length * n := Nat.mul_le_mul_right n hlt
              have hrun := run_storeCells_at (P := P) b (i * n + off) E zs 0 arr w hh (by omega) hone
              rw [Nat.add_zero] at hrun
              refine ⟨_, _, rfl, hrun, h.write hk hb hh _ ?_⟩
              have hkp : Keeps w (w.setRow b (arr.toList.take (i * n + off) ++ zs ++ arr.toList.drop (i * n + off + zs.length)).toArray) (Av N G σ.bx) (Av N G σ.bx) :=
                ⟨by simp [World.setRow], fun _ _ _ h => h, fun bw b' hb' hA o => cell?_of_heap (setRow_other w b _ (fun e => hA (.inl (by rw [e]; exact ⟨k, _, hk, hb⟩)))) o⟩
              refine ⟨?_, .inr ⟨b, _, E, cap, hb, setRow_heap w b arr _ E (0, 0) hh, by simpa using hγ, by simpa using hc, ?_, ?_⟩⟩
              · intro e' he'
                rcases List.mem_or_eq_of_mem_set he' with h | rfl
                · exact hlen _ h
                · have hel := hlen e (List.mem_of_getElem? hi)
                  rw [setAt_length (by omega), hel]
              · simp; omega
              · have := setAt_row hlen hr hi hz hle hsz
                simpa using RepDs.keep hkp _ _ this
          · cases he
        · cases he
      · cases he
    · rename_i l off
      split at he
      · rename_i k cs hk
        split at he
        · rename_i hle
          cases he
          have hk := pget_spec hk
          obtain ⟨rfl, _⟩ := hx
          obtain ⟨b, arr, E, ⟨hb, rfl⟩, hh, hr⟩ := h.rep k _ hk
          have hal := hr.length
          simp only [Array.length_toList] at hal
          have hrun := run_storeCells_at (P := P) b off E zs 0 arr w hh (by omega) hone
          rw [Nat.add_zero] at hrun
          refine ⟨_, _, rfl, hrun, h.write hk hb hh _ ?_⟩
          have hkp : Keeps w (w.setRow b (arr.toList.take off ++ zs ++ arr.toList.drop (off + zs.length)).toArray) (Av N G σ.bx) (Av N G σ.bx) :=
            ⟨by simp [World.setRow], fun _ _ _ h => h, fun bw b' hb' hA o => cell?_of_heap (setRow_other w b _ (fun e => hA (.inl (by rw [e]; exact ⟨k, _, hk, hb⟩)))) o⟩
          refine ⟨b, _, E, ⟨hb, rfl⟩, setRow_heap w b arr _ E (0, 0) hh, ?_⟩
          simpa using RepDs.keep hkp _ _ (setAt_sound (off := off) hr hz)
        · cases he
      · cases he
    · cases he
  · cases he
def updK (ks : List Value) (ds : List D) (x : Value) (d : D) : List Value × List D := match findL x ks 0 with
  | some i => (ks.set i x, ds.set i d)
  | none => (ks ++ [x], ds ++ [d])
def updAt (σ : St) (m : D) (x : Value) (d : D) : Option St := match m with
  | .c (.v (.map (some l))) => match mget l σ.bx with
    | some (k, ks, ds) => some (σ.putB k (.pmap l (updK ks ds x d).1 (updK ks ds x d).2))
    | none => none
  | .hd k => match get k σ.bx with
    | some (.map ks ds) => some (σ.putB k (.map (updK ks ds x d).1 (updK ks ds x d).2))
    | _ => none
  | _ => none
def evM [Lays] (P : Program) (σ : St) (t : TypeId) (m k v : Operand) : Option St := match mapI P t, keyD (σ.op k) with
  | some (_, kk), some x => match mapAt σ.bx (σ.op m) with
    | some (ks, _) => if keysOK kk x ks then updAt σ (σ.op m) x (σ.op v) else none
    | none => none
  | _, _ => none
theorem putObj_other (w : World) (r : Nat) (o : Obj) {b : Nat} (h : b ≠ r) : (w.putObj r o).heap[b]? = w.heap[b]? := by
  simp only [World.putObj]; rw [Array.getElem?_setIfInBounds_ne (Ne.symm h)]
theorem cell?_map {w : World} {b : Nat} {es : Array MapEntry} {clk : Nat} (h : w.heap[b]? = some (.map es clk)) (o : Nat) : w.cell? ⟨b, o, none⟩ = none := by
  unfold World.cell?; rw [h]
theorem Core.writeM [Lays] (h : Core N O0 w0 σ G a w) {k : Nat} {x x' : Blk} (hk : get k σ.bx = some x) {b : Nat} (hb : G.β k = some b) {es : Array MapEntry} {clk : Nat} (hh : w.heap[b]? = some (.map es clk)) (es' : Array MapEntry) (clk' : Nat)
    (hx : Keeps w (w.putObj b (.map es' clk')) (Av N G σ.bx) (Av N G σ.bx) → RepB (w.putObj b (.map es' clk')) (Av N G σ.bx) G k x') : Core N O0 w0 (σ.putB k x') G a (w.putObj b (.map es' clk')) := by
  have hown : owned G σ.bx b := ⟨k, x, hk, hb⟩
  have hsz : (w.putObj b (.map es' clk')).heap.size = w.heap.size := by simp [World.putObj]
  have hkeep0 : Keeps w (w.putObj b (.map es' clk')) (Av N G σ.bx) (Av N G σ.bx) :=
    ⟨Nat.le_of_eq hsz.symm, fun _ _ _ h => h, fun bw b' hb' hA o => cell?_of_heap (putObj_other w b _ (fun e => hA (.inl (by rw [e]; exact hown)))) o⟩
  have hkeep : Keeps w (w.putObj b (.map es' clk')) (Av N G σ.bx) (Av N G (ins k x' σ.bx)) := by
    rw [Av_same hk]; exact hkeep0
  exact {
    rep := fun j z hj => by
      simp only [St.putB, get_ins] at hj
      split at hj
      · rename_i e; subst e; cases hj
        show RepB _ (Av N G (ins _ _ σ.bx)) G _ _
        rw [Av_same hk]; exact hx hkeep0
      · rename_i e
        refine RepB.mono hkeep (fun _ => False) (fun _ _ => ⟨rfl, rfl⟩) z (fun h => h) (fun b' hb' => ?_) (fun _ h => h.elim) (h.rep j z hj)
        refine putObj_other w b _ (fun e2 => e ?_)
        subst e2
        exact h.inj j k z x b' hj hk hb' hb
    inj := fun i j x1 x2 b1 hi hj hb1 hb2 => by
      simp only [St.putB, get_ins] at hi hj
      have : ∀ i x1, (if i = k then some x' else get i σ.bx) = some x1 → ∃ z, get i σ.bx = some z := by
        intro i x1 hi
        split at hi
        · rename_i e; subst e; exact ⟨x, hk⟩
        · exact ⟨_, hi⟩
      obtain ⟨z1, h1⟩ := this i x1 hi
      obtain ⟨z2, h2⟩ := this j x2 hj
      exact h.inj i j z1 z2 b1 h1 h2 hb1 hb2
    own := fun b1 hb1 => by
      have := h.own b1 ((owned_same hk).1 hb1)
      exact ⟨by rw [hsz]; exact this.1, this.2⟩
    tm := fun t d ht => by
      obtain ⟨y, hy, hr⟩ := h.tm t d ht
      exact ⟨y, hy, RepD.keep hkeep d y hr⟩
    nt := h.nt
    df := by
      obtain ⟨rs, h1, h2, h3⟩ := h.df
      refine ⟨rs, h1, h2, fun r hr => ⟨?_, (h3 r hr).2⟩⟩
      rw [putObj_other]
      · exact (h3 r hr).1
      · intro e; have := (h3 r hr).1; rw [e, hh] at this; cases this
    fr := ⟨h.fr.os, h.fr.tape, h.fr.output, by rw [hsz]; exact h.fr.size, fun b1 hb1 hO => by
      have hne : b1 ≠ b := fun e => by
        subst e
        rcases (h.own b1 hown).2 with h1 | h1
        · exact hO h1
        · omega
      rw [putObj_other w b _ hne]; exact h.fr.keep b1 hb1 hO⟩
    nlt := h.nlt
    odis := h.odis
    laid := h.laid }
theorem RepDs.setV {A : Bool → Nat → Prop} : ∀ {ds : List D} {ys : List Value} {i : Nat} {d : D} {y : Value}, RepDs w A G ds ys → RepD w A G d y → RepDs w A G (ds.set i d) (ys.set i y)
  | [], ys, i, d, y, h, _ => by rw [show ys = [] from h]; exact rfl
  | d0 :: ds, ys, i, d, y, h, hd => by
    obtain ⟨y0, ys', rfl, h1, h2⟩ := h
    cases i with
    | zero => exact ⟨y, ys', rfl, hd, h2⟩
    | succ i => exact ⟨y0, ys'.set i y, rfl, h1, RepDs.setV h2 hd⟩
theorem sameBits_key {kk : KK} {x : Value} (h : kk.is x = true) : Instr.sameBits 10000 x x = true := by
  cases kk with
  | arr k n =>
    cases x <;> simp_all only [KK.is, Bool.false_eq_true]
    rename_i a
    simp only [Bool.and_eq_true] at h
    rw [show (10000 : Nat) = 9999 + 1 from rfl, Instr.sameBits]
    have h2 := h.2
    simp only [beq_self_eq_true, Bool.true_and]
    generalize a.toList = l at h2
    induction l with
    | nil => rfl
    | cons v l ih =>
      simp only [List.all_cons, Bool.and_eq_true] at h2
      obtain ⟨u, rfl⟩ := isIntV_spec h2.1
      simp only [List.zip_cons_cons, List.all_cons, ih h2.2, Bool.and_true, Instr.sameBits, beq_self_eq_true]
  | _ => cases x <;> simp_all [KK.is, Instr.sameBits]
theorem upd_run [Lays] {kt et t : TypeId} {kk : KK} (hu : P.underlying t = some (.map kt et)) (huk : kk.fits P kt) {x v : Value} {r : Nat} {ents : Array MapEntry} {clk : Nat} (hh : w.heap[r]? = some (.map ents clk))
    (hok : keysOK kk x (ents.toList.map (·.key)) = true) {ds : List D} {d : D} {A : Bool → Nat → Prop} (hr : RepDs w A G ds (ents.toList.map (·.val))) (hv : RepD w A G d v) :
    ∃ ents' clk', (Instr.mapUpdate t (.map (some r)) x v).run P w = .ok () (w.putObj r (.map ents' clk')) ∧ ents'.toList.map (·.key) = (updK (ents.toList.map (·.key)) ds x d).1 ∧ RepDs w A G (updK (ents.toList.map (·.key)) ds x d).2 (ents'.toList.map (·.val)) := by
  have hkey : kk.is x = true := by simp only [keysOK, Bool.and_eq_true] at hok; exact hok.1
  have hck : (Instr.checkKey false 10000 kt x).run P w = .ok () w := run_check huk hkey false w
  unfold updK
  rcases find_run huk hok w with ⟨h1, h2⟩ | ⟨j, e, h1, h2, h3, h4⟩
  · rw [h1]
    refine ⟨ents.push { key := x, val := v, born := clk }, clk + 1, ?_, ?_, ?_⟩
    · simp only [Instr.mapUpdate, Sem.run_bind, run_underlying hu, Result.andThen_ok, MapKept.run_getObj_map hh, hck, h2, MapKept.run_setObj_map _ hh]
      rfl
    · simp
    · simpa using hr.append (RepDs.cons hv RepDs.nil)
  · rw [h1]
    have he : ents[j]? = some e := by simpa using h2
    have hjl : j < ents.size := (Array.getElem?_eq_some_iff.1 he).1
    refine ⟨ents.modify j fun e => { e with key := x, val := v }, clk, ?_, ?_, ?_⟩
    · simp only [Instr.mapUpdate, Sem.run_bind, run_underlying hu, Result.andThen_ok, MapKept.run_getObj_map hh, hck, h4, he, Option.map_some, Option.getD_some, h3, Instr.keyThatStays, sameBits_key hkey, if_true, Sem.run_pure, MapKept.run_setObj_map _ hh]
      rfl
    · rw [Array.toList_modify, List.map_modify_of_set (f := fun e : MapEntry => { e with key := x, val := v }) (g := (·.key)) (c := x) (fun _ => rfl)]
    · rw [Array.toList_modify, List.map_modify_of_set (f := fun e : MapEntry => { e with key := x, val := v }) (g := (·.val)) (c := v) (fun _ => rfl)]
      exact hr.setV hv
theorem evM_sound [Lays] (h : Core N O0 w0 σ G a w) {t : TypeId} {m k v : Operand} {σ' : St} (he : evM P σ t m k v = some σ') :
    ∃ w', (Instr.mapUpdate t (a.eval m) (a.eval k) (a.eval v)).run P w = .ok () w' ∧ Core N O0 w0 σ' G a w' := by
  unfold evM at he
  split at he
  · rename_i z kk x ht hkx
    obtain ⟨kt, et, hu, huk, _⟩ := mapI_spec ht
    have hx := h.op k
    have hxe := keyD_spec hkx hx
    rw [hxe]
    split at he
    · rename_i ks ds0 hma
      split at he
      · rename_i hok
        have hm := h.op m
        have hv := h.op v
        generalize σ.op m = dm at *
        generalize σ.op v = dv at *
        generalize a.eval m = M at *
        generalize a.eval v = V at *
        unfold updAt at he
        split at he
        · rename_i l
          split at he
          · rename_i k ks' ds hg
            cases he
            have e1 : mapAt σ.bx (.c (.v (.map (some l)))) = some (ks', ds) := by simp [mapAt, hg]
            rw [e1] at hma; cases hma
            have hgk := mget_spec hg
            obtain ⟨rfl, _⟩ := hm
            obtain ⟨b, ents, clk, ⟨hb, rfl⟩, hh, rfl, hr⟩ := h.rep k _ hgk
            obtain ⟨ents', clk', hrun, hk', hr'⟩ := upd_run hu huk hh hok hr hv
            exact ⟨_, hrun, h.writeM hgk hb hh ents' clk' (fun hkp => ⟨b, ents', clk', ⟨hb, rfl⟩, (MapKept.heap_set hh).1, hk', RepDs.keep hkp _ _ hr'⟩)⟩
          · cases he
        · rename_i k
          split at he
          · rename_i ks' ds hg
            cases he
            have e1 : mapAt σ.bx (.hd k) = some (ks', ds) := by simp [mapAt, hg]
            rw [e1] at hma; cases hma
            obtain ⟨b, hb, rfl⟩ := hm
            obtain ⟨b', ents, clk, hb', hh, rfl, hr⟩ := h.rep k _ hg
            rw [hb] at hb'; cases hb'
            obtain ⟨ents', clk', hrun, hk', hr'⟩ := upd_run hu huk hh hok hr hv
            exact ⟨_, hrun, h.writeM hg hb hh ents' clk' (fun hkp => ⟨b, ents', clk', hb, (MapKept.heap_set hh).1, hk', RepDs.keep hkp _ _ hr'⟩)⟩
          · cases he
        · cases he
      · cases he
    · cases he
  · cases he
def evClear (P : Program) (σ : St) (t : TypeId) (x : D) : Option St :=
  match elemI P t with
  | some e => match tyI P e with
    | some ti => match x with
      | .win k n lo hi => match get k σ.bx with
        | some (.row m es) => if n = m ∧ m = ti.size ∧ lo ≤ hi ∧ hi ≤ es.length then some (σ.putB k (.row m (es.take lo ++ List.replicate (hi - lo) (zeroD ti) ++ es.drop hi))) else none
        | _ => none
      | _ => none
    | none => none
  | none => none
theorem take_flatten {α : Type} {n : Nat} : ∀ (es : List (List α)) (i : Nat), (∀ e ∈ es, e.length = n) → (es.take i).flatten = es.flatten.take (i * n)
  | [], i, _ => by simp
  | e :: es, 0, _ => by simp
  | e :: es, i + 1, h => by
    have h0 := h e (by simp)
    simp only [List.take_succ_cons, List.flatten_cons]
    rw [take_flatten es i (fun x hx => h x (by simp [hx])), show (i + 1) * n = e.length + i * n by rw [Nat.add_mul]; omega, List.take_length_add_append]
theorem drop_flatten {α : Type} {n : Nat} : ∀ (es : List (List α)) (i : Nat), (∀ e ∈ es, e.length = n) → (es.drop i).flatten = es.flatten.drop (i * n)
  | [], i, _ => by simp
  | e :: es, 0, _ => by simp
  | e :: es, i + 1, h => by
    have h0 := h e (by simp)
    simp only [List.drop_succ_cons, List.flatten_cons]
    rw [drop_flatten es i (fun x hx => h x (by simp [hx])), show (i + 1) * n = e.length + i * n by rw [Nat.add_mul]; omega, List.drop_length_add_append]
theorem flatten_len {α : Type} {n : Nat} : ∀ (es : List (List α)), (∀ e ∈ es, e.length = n) → es.flatten.length = es.length * n
  | [], _ => by simp
  | e :: es, h => by
    rw [List.flatten_cons, List.length_append, h e (by simp), flatten_len es (fun x hx => h x (by simp [hx])), List.length_cons, Nat.add_mul]; omega
theorem clear_sound [Lays] (h : Core N O0 w0 σ G a w) {t : TypeId} {x : D} {X : Value} {σ' : St} (hx : RepD w (Av N G σ.bx) G x X) (he : evClear P σ t x = some σ') (ty : TypeId) :
    ∃ w', (Builtin.clear_ #[t] ty #[X]).run P w = .ok (.tuple #[]) w' ∧ Core N O0 w0 σ' G a w' := by
  unfold evClear at he
  split at he
  · rename_i e hel
    have hu := elemI_spec hel
    split at he
    · rename_i ti hti
      split at he
      · rename_i k n lo hi
        split at he
        · rename_i m es hk
          split at he
          · rename_i hc
            obtain ⟨rfl, hmt, h1, h2⟩ := hc
            cases he
            obtain ⟨a0, l, c, hγ0, _, _, rfl⟩ := hx
            obtain ⟨z, hz, hzl, hzs, hz1⟩ := run_zero_D hti w
            by_cases hlh : hi = lo
            · subst hlh
              have hes : es.take hi ++ List.replicate (hi - hi) (zeroD ti) ++ es.drop hi = es := by simp
              rw [hes]
              refine ⟨w, ?_, ?_⟩
              · simp [Builtin.clear_, run_underlying hu]
                split <;> simp_all
              · have hid : σ.putB k (.row n es) = { σ with bx := ins k (.row n es) σ.bx } := rfl
                have hkp : Keeps w w (Av N G σ.bx) (Av N G (ins k (.row n es) σ.bx)) := by rw [Av_same hk]; exact Keeps.refl _ _
                have hg : ∀ j z, get j (ins k (.row n es) σ.bx) = some z → get j σ.bx = some z := fun j z hj => by
                  rw [get_ins] at hj; split at hj
                  · rename_i e; subst e; cases hj; exact hk
                  · exact hj
                exact {
                  rep := fun j z hj => RepB.mono hkp (fun _ => False) (fun _ _ => ⟨rfl, rfl⟩) z (fun h => h) (fun _ _ => rfl) (fun _ h => h.elim) (h.rep j z (hg j z hj))
                  inj := fun i j x1 x2 b hi hj => h.inj i j x1 x2 b (hg i x1 hi) (hg j x2 hj)
                  own := fun b hb => h.own b ((owned_same hk).1 hb)
                  tm := fun t d ht => let ⟨y, hy, hr⟩ := h.tm t d ht; ⟨y, hy, RepD.keep hkp d y hr⟩
                  nt := h.nt
                  df := h.df
                  fr := h.fr
                  nlt := h.nlt
                  odis := h.odis
                  laid := h.laid }
            · obtain ⟨hlen, ⟨hnil, _⟩ | ⟨b, arr, E, cap, hb, hh, hγ, hcp, hs, hr⟩⟩ := h.rep k _ hk
              · subst hnil; simp at h2; omega
              · rw [hγ] at hγ0; cases hγ0
                have hsz : es.length * n ≤ arr.size := by rw [hs]; exact Nat.mul_le_mul_right n hcp
                have hzeros : (Builtin.zeroCells z.cells (hi - lo)).toList = (List.replicate (hi - lo) ti.zero).flatten := by
                  rw [← hzl]; exact zeros_list (zero := z.cells) (hi - lo)
                have hzn : (List.replicate (hi - lo) ti.zero).flatten.length = (hi - lo) * n := by
                  rw [flatten_len _ (fun e he => by rw [(List.mem_replicate.1 he).2, hzs])]; simp [hmt]
                have hmul : lo * n + (hi - lo) * n = hi * n := by rw [← Nat.add_mul]; congr 1; omega
                have hhn : hi * n ≤ es.length * n := Nat.mul_le_mul_right n h2
                have hone : ∀ v ∈ (List.replicate (hi - lo) ti.zero).flatten, v.oneCell' = true := by
                  intro v hv
                  obtain ⟨l, hl, hv⟩ := List.mem_flatten.1 hv
                  rw [(List.mem_replicate.1 hl).2] at hv
                  exact (List.all_eq_true.1 hz1) v hv
                have hrun := run_storeCells_at (P := P) b (lo * n) E (List.replicate (hi - lo) ti.zero).flatten 0 arr w hh (by rw [hzn]; omega) hone
                rw [Nat.add_zero] at hrun
                obtain ⟨arr2, harr2⟩ : ∃ arr2, arr2 = (arr.toList.take (lo * n) ++ (List.replicate (hi - lo) ti.zero).flatten ++ arr.toList.drop (lo * n + (List.replicate (hi - lo) ti.zero).flatten.length)).toArray := ⟨_, rfl⟩
                rw [← harr2] at hrun
                refine ⟨w.setRow b arr2, ?_, h.write hk hb hh arr2 ?_⟩
                · have hclo : ¬ c = lo := by omega
                  obtain ⟨k', hk'⟩ : ∃ k', hi - lo = k' + 1 := ⟨hi - lo - 1, by omega⟩
                  rw [hk'] at hrun hzeros ⊢
                  simp only [Builtin.clear_, hclo, if_false, Option.map_some, Addr.add_mk, Nat.zero_add]
                  simp [run_underlying hu, hz, hzeros, hrun]
                · have hkp : Keeps w (w.setRow b arr2) (Av N G σ.bx) (Av N G σ.bx) :=
                    ⟨by simp [World.setRow], fun _ _ _ h => h, fun bw b' hb' hA o => cell?_of_heap (setRow_other w b _ (fun e => hA (.inl (by rw [e]; exact ⟨k, _, hk, hb⟩)))) o⟩
                  have hle : (es.take lo ++ List.replicate (hi - lo) (zeroD ti) ++ es.drop hi).length = es.length := by simp; omega
                  refine ⟨?_, .inr ⟨b, arr2, E, c, hb, setRow_heap w b arr _ E (0, 0) hh, by rw [hle]; exact hγ, by rw [hle]; exact hcp, ?_, ?_⟩⟩
                  · intro e' he'
                    simp only [List.append_assoc, List.mem_append] at he'
                    rcases he' with he' | he' | he'
                    · exact hlen _ (List.mem_of_mem_take he')
                    · rw [(List.mem_replicate.1 he').2]; simp [zeroD, hzs, hmt]
                    · exact hlen _ (List.mem_of_mem_drop he')
                  · rw [harr2]; simp only [List.length_append, List.size_toArray, List.length_take, List.length_drop, Array.length_toList, hzn]; omega
                  · rw [hle]
                    have hzr : RepDs w (Av N G σ.bx) G (List.replicate (hi - lo) (zeroD ti)).flatten (List.replicate (hi - lo) ti.zero).flatten := by
                      have : ∀ j, RepDs w (Av N G σ.bx) G (List.replicate j (zeroD ti)).flatten (List.replicate j ti.zero).flatten := by
                        intro j
                        induction j with
                        | zero => exact RepDs.nil
                        | succ j ih =>
                          simp only [List.replicate_succ, List.flatten_cons]
                          exact (RepDs.ofVals _ hz1).append ih
                      exact this _
                    have hset := setAt_sound (off := lo * n) hr hzr
                    have e1 : (es.take lo ++ List.replicate (hi - lo) (zeroD ti) ++ es.drop hi).flatten = setAt es.flatten (lo * n) (List.replicate (hi - lo) (zeroD ti)).flatten := by
                      simp only [List.flatten_append, setAt, take_flatten es lo hlen, drop_flatten es hi hlen]
                      congr 2
                      rw [flatten_len (n := n) _ (fun e he => by rw [(List.mem_replicate.1 he).2]; simp [zeroD, hzs, hmt])]
                      simp; omega
                    rw [e1]
                    have e2 : ((arr.toList.take (es.length * n)).take (lo * n) ++ (List.replicate (hi - lo) ti.zero).flatten ++ (arr.toList.take (es.length * n)).drop (lo * n + (List.replicate (hi - lo) ti.zero).flatten.length)) =
                        (arr.toList.take (lo * n) ++ (List.replicate (hi - lo) ti.zero).flatten ++ arr.toList.drop (lo * n + (List.replicate (hi - lo) ti.zero).flatten.length)).take (es.length * n) := by
                      have ha : (arr.toList.take (lo * n) ++ (List.replicate (hi - lo) ti.zero).flatten).length = lo * n + (hi - lo) * n := by simp only [List.length_append, List.length_take, Array.length_toList, hzn]; omega
                      rw [List.take_take, Nat.min_eq_left (by omega), List.take_append, ha, List.take_of_length_le (l := arr.toList.take (lo * n) ++ _) (by omega), List.drop_take, hzn]
                    rw [e2] at hset
                    rw [harr2] at hkp ⊢
                    simpa using RepDs.keep hkp _ _ hset
          · cases he
        · cases he
      · cases he
    · cases he
  · cases he
theorem evS_sound [Lays] (h : Core N O0 w0 σ G a w) {o : Oper} {t : TypeId} {x y : Operand} (ho : o.op = .store t x y) {σ' : St} (he : evS P σ t x y = some σ') :
    ∃ w', (execOp a.eval o).run P w = .ok .skip w' ∧ Core N O0 w0 σ' G a w' := by
  unfold evS at he
  split at he
  · rename_i ti xs hti hxs
    split at he
    · rename_i hl
      have hz := cellsD_sound hxs (h.op y)
      obtain ⟨ad, w', hX, hrun, hc⟩ := storeAt_sound (P := P) h (h.op x) hz he
      refine ⟨w', ?_, hc⟩
      have hzl := hz.length
      simp only [Array.length_toList] at hzl
      simp only [execOp, ho, hX, Instr.storeAt, Instr.sureAddr, Sem.run_bind, Sem.run_pure, Result.andThen_ok, storeVar, run_sizeOf_D hti]
      rw [if_neg (by omega)]
      rw [hrun]
      rfl
    · cases he
  · cases he
end Go.Dw
end
