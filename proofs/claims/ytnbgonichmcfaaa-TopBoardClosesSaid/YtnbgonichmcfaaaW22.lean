/- Helpers of a proof. -/
import Derived.Test.YtnbgonichmcfaaaW21
set_option linter.unusedVariables false
set_option linter.unusedSimpArgs false
section
namespace Go.Dw
open Go.RowKit
variable {P : Program} {dr : Bool} {σ σ' : St} {Q : St → Prop} {l : List SO} {nt : Nat} {tm : List (Nat × D)} {bx : List (Nat × Blk)}
def opsV [Lays] (P : Program) (dr : Bool) (Q : St → Prop) (l : List SO) (d nt : Nat) (tm : List (Nat × D)) (bx : List (Nat × Blk)) (o : Option D) : Prop := ∃ v, o = some v ∧ opsS P dr Q l ⟨nt, ins d v tm, bx⟩
def opsW [Lays] (P : Program) (dr : Bool) (Q : St → Prop) (l : List SO) (d nt : Nat) (tm : List (Nat × D)) (bx : List (Nat × Blk)) (o : Option (D × Blk)) : Prop := ∃ r, o = some r ∧ r.2.men d = false ∧ opsS P dr Q l ⟨nt, ins d r.1 tm, ins d r.2 bx⟩
def opsE [Lays] (P : Program) (dr : Bool) (Q : St → Prop) (l : List SO) (o : Option St) : Prop := ∃ σ', o = some σ' ∧ (dr = false ∨ wfS σ') ∧ opsS P dr Q l σ'
def opsA [Lays] (P : Program) (dr : Bool) (Q : St → Prop) (l : List SO) (o : Option (St × Nat × Nat)) : Prop := ∃ r, o = some r ∧ r.2.1 * r.2.2 ≤ 2 ^ 44 ∧ r.2.1 ≤ 2 ^ 44 ∧ (dr = false ∨ wfS r.1) ∧ opsS P dr Q l r.1
def opsG [Lays] (P : Program) (dr : Bool) (Q : St → Prop) (s : SO) (want : Bool) (l : List SO) (σ : St) (g : Option D) : Prop := match guardV g with
  | some y => if y = some want then opsS P dr Q (s :: l) σ else (∀ t, s.dst = some t → t < σ.nt) ∧ (dr = false ∨ quietS s = true ∨ wfS (σ.putO s.dst (.tup []))) ∧ opsS P dr Q l (σ.putO s.dst (.tup []))
  | none => False
theorem v_some [Lays] {d : Nat} {v : D} : opsV P dr Q l d nt tm bx (some v) = opsS P dr Q l ⟨nt, ins d v tm, bx⟩ := propext ⟨fun ⟨_, e, h⟩ => by cases e; exact h, fun h => ⟨_, rfl, h⟩⟩
theorem w_some [Lays] {d : Nat} {r : D × Blk} : opsW P dr Q l d nt tm bx (some r) = (r.2.men d = false ∧ opsS P dr Q l ⟨nt, ins d r.1 tm, ins d r.2 bx⟩) := propext ⟨fun ⟨_, e, h⟩ => by cases e; exact h, fun h => ⟨_, rfl, h⟩⟩
theorem e_some [Lays] : opsE P dr Q l (some σ') = ((dr = false ∨ wfS σ') ∧ opsS P dr Q l σ') := propext ⟨fun ⟨_, e, h⟩ => by cases e; exact h, fun h => ⟨_, rfl, h⟩⟩
def small (len bytes : Nat) : Prop := len * bytes ≤ 2 ^ 44 ∧ len ≤ 2 ^ 44
theorem small_true {len bytes : Nat} (h : len ≤ 274877906944 ∧ bytes ≤ 64) : small len bytes = True := eq_true (by
  have : len * bytes ≤ 274877906944 * 64 := Nat.mul_le_mul h.1 h.2
  exact ⟨by omega, by omega⟩)
theorem a_some [Lays] {len bytes : Nat} : opsA P dr Q l (some (σ', len, bytes)) = (small len bytes ∧ (dr = false ∨ wfS σ') ∧ opsS P dr Q l σ') := propext ⟨fun ⟨_, e, h⟩ => by cases e; exact ⟨⟨h.1, h.2.1⟩, h.2.2⟩, fun h => ⟨_, rfl, h.1.1, h.1.2, h.2⟩⟩
theorem s_store [Lays] {t : TypeId} {x y : Operand} : opsS P dr Q (⟨none, .store t x y, none⟩ :: l) σ = opsE P dr Q l (evS P σ t x y) := o_store
theorem s_update [Lays] {t : TypeId} {x y z : Operand} : opsS P dr Q (⟨none, .mapUpdate t x y z, none⟩ :: l) σ = opsE P dr Q l (evM P σ t x y z) := o_update
theorem s_lookup [Lays] {d : Tmp} {t : TypeId} {x y : Operand} {ok : Bool} : opsS P dr Q (⟨some d, .lookup t x y ok, none⟩ :: l) ⟨nt, tm, bx⟩ = (d < nt ∧ opsV P dr Q l d nt tm bx (evP P ⟨nt, tm, bx⟩ (.lookup t x y ok))) := o_pure rfl
theorem s_makeMap [Lays] {d : Tmp} {t : TypeId} {r : Option Operand} : opsS P dr Q (⟨some d, .makeMap t r, none⟩ :: l) ⟨nt, tm, bx⟩ = (d < nt ∧ get d bx = none ∧ menS d tm bx = false ∧ opsW P dr Q l d nt tm bx (evA P ⟨nt, tm, bx⟩ d (.makeMap t r))) := o_alloc rfl
theorem s_append [Lays] {d : Tmp} {s x : Operand} {st xt : TypeId} : opsS P dr Q (⟨some d, .call { callee := .builtin .append, args := #[s, x], argTypes := #[st, xt] }, none⟩ :: l) σ =
    (d < σ.nt ∧ opsA P dr Q l (appD P σ d st xt (σ.op s) (σ.op x))) := o_append
theorem s_guard [Lays] {dst : Option Tmp} {op : Op} {t : Tmp} {want : Bool} : opsS P dr Q (⟨dst, op, some (t, want)⟩ :: l) ⟨nt, tm, bx⟩ = opsG P dr Q ⟨dst, op, none⟩ want l ⟨nt, tm, bx⟩ (get t tm) := rfl
theorem g_tt [Lays] {s : SO} : opsG P dr Q s true l σ (some (.c (.v (.bool true)))) = opsS P dr Q (s :: l) σ := rfl
theorem g_ff [Lays] {s : SO} : opsG P dr Q s false l σ (some (.c (.v (.bool false)))) = opsS P dr Q (s :: l) σ := rfl
theorem g_tf [Lays] {s : SO} : opsG P dr Q s true l σ (some (.c (.v (.bool false)))) = ((∀ t, s.dst = some t → t < σ.nt) ∧ (dr = false ∨ quietS s = true ∨ wfS (σ.putO s.dst (.tup []))) ∧ opsS P dr Q l (σ.putO s.dst (.tup []))) := rfl
theorem g_ft [Lays] {s : SO} : opsG P dr Q s false l σ (some (.c (.v (.bool true)))) = ((∀ t, s.dst = some t → t < σ.nt) ∧ (dr = false ∨ quietS s = true ∨ wfS (σ.putO s.dst (.tup []))) ∧ opsS P dr Q l (σ.putO s.dst (.tup []))) := rfl
theorem g_u [Lays] {s : SO} {want : Bool} : opsG P dr Q s want l σ (some (.tup [])) = ((∀ t, s.dst = some t → t < σ.nt) ∧ (dr = false ∨ quietS s = true ∨ wfS (σ.putO s.dst (.tup []))) ∧ opsS P dr Q l (σ.putO s.dst (.tup []))) := rfl
theorem g_split [Lays] {s : SO} {want b : Bool} (ht : b = true → opsG P dr Q s want l σ (some (bD true))) (hf : b = false → opsG P dr Q s want l σ (some (bD false))) : opsG P dr Q s want l σ (some (.c (.v (.bool b)))) := by
  cases b
  · exact hf rfl
  · exact ht rfl
theorem s_make [Lays] {d : Tmp} {t : TypeId} {x y : Operand} : opsS P dr Q (⟨some d, .makeSlice t x y, none⟩ :: l) ⟨nt, tm, bx⟩ = (d < nt ∧ get d bx = none ∧ menS d tm bx = false ∧ opsW P dr Q l d nt tm bx (evA P ⟨nt, tm, bx⟩ d (.makeSlice t x y))) := o_alloc rfl
theorem few_true {n : Nat} (h : n ≤ 262144) : fewB n = true := by simp [fewB, h]
theorem s_move [Lays] {d : Tmp} {x : Operand} : opsS P dr Q (⟨some d, .move x, none⟩ :: l) ⟨nt, tm, bx⟩ = (d < nt ∧ opsV P dr Q l d nt tm bx (evP P ⟨nt, tm, bx⟩ (.move x))) := o_pure rfl
theorem s_assign [Lays] {d : Tmp} {x : Operand} : opsS P dr Q (⟨some d, .assign x, none⟩ :: l) ⟨nt, tm, bx⟩ = (d < nt ∧ opsV P dr Q l d nt tm bx (evP P ⟨nt, tm, bx⟩ (.assign x))) := o_pure rfl
theorem s_pick [Lays] {d : Tmp} {x y z : Operand} : opsS P dr Q (⟨some d, .pick x y z, none⟩ :: l) ⟨nt, tm, bx⟩ = (d < nt ∧ opsV P dr Q l d nt tm bx (evP P ⟨nt, tm, bx⟩ (.pick x y z))) := o_pure rfl
theorem s_build [Lays] {d : Tmp} {t : TypeId} {ps : Array (Nat × Operand)} : opsS P dr Q (⟨some d, .build t ps, none⟩ :: l) ⟨nt, tm, bx⟩ = (d < nt ∧ opsV P dr Q l d nt tm bx (evP P ⟨nt, tm, bx⟩ (.build t ps))) := o_pure rfl
theorem s_load [Lays] {d : Tmp} {t : TypeId} {x : Operand} : opsS P dr Q (⟨some d, .load t x, none⟩ :: l) ⟨nt, tm, bx⟩ = (d < nt ∧ opsV P dr Q l d nt tm bx (evP P ⟨nt, tm, bx⟩ (.load t x))) := o_pure rfl
theorem s_fieldAddr [Lays] {d : Tmp} {t : TypeId} {x : Operand} {f : Nat} : opsS P dr Q (⟨some d, .fieldAddr t x f, none⟩ :: l) ⟨nt, tm, bx⟩ = (d < nt ∧ opsV P dr Q l d nt tm bx (evP P ⟨nt, tm, bx⟩ (.fieldAddr t x f))) := o_pure rfl
theorem s_field [Lays] {d : Tmp} {t : TypeId} {x : Operand} {f : Nat} : opsS P dr Q (⟨some d, .field t x f, none⟩ :: l) ⟨nt, tm, bx⟩ = (d < nt ∧ opsV P dr Q l d nt tm bx (evP P ⟨nt, tm, bx⟩ (.field t x f))) := o_pure rfl
theorem s_indexAddr [Lays] {d : Tmp} {t : TypeId} {x y : Operand} : opsS P dr Q (⟨some d, .indexAddr t x y, none⟩ :: l) ⟨nt, tm, bx⟩ = (d < nt ∧ opsV P dr Q l d nt tm bx (evP P ⟨nt, tm, bx⟩ (.indexAddr t x y))) := o_pure rfl
theorem s_index [Lays] {d : Tmp} {t : TypeId} {x y : Operand} : opsS P dr Q (⟨some d, .index t x y, none⟩ :: l) ⟨nt, tm, bx⟩ = (d < nt ∧ opsV P dr Q l d nt tm bx (evP P ⟨nt, tm, bx⟩ (.index t x y))) := o_pure rfl
theorem s_unOp [Lays] {d : Tmp} {o : UnOp} {t : TypeId} {x : Operand} : opsS P dr Q (⟨some d, .unOp o t x, none⟩ :: l) ⟨nt, tm, bx⟩ = (d < nt ∧ opsV P dr Q l d nt tm bx (evP P ⟨nt, tm, bx⟩ (.unOp o t x))) := o_pure rfl
theorem s_binOp [Lays] {d : Tmp} {o : BinOp} {t u : TypeId} {x y : Operand} : opsS P dr Q (⟨some d, .binOp o t x y u, none⟩ :: l) ⟨nt, tm, bx⟩ = (d < nt ∧ opsV P dr Q l d nt tm bx (evP P ⟨nt, tm, bx⟩ (.binOp o t x y u))) := o_pure rfl
theorem s_convert [Lays] {d : Tmp} {s t : TypeId} {x : Operand} : opsS P dr Q (⟨some d, .convert s t x, none⟩ :: l) ⟨nt, tm, bx⟩ = (d < nt ∧ opsV P dr Q l d nt tm bx (evP P ⟨nt, tm, bx⟩ (.convert s t x))) := o_pure rfl
theorem s_makeFunc [Lays] {d : Tmp} {f : Fn} {x y : Array Operand} : opsS P dr Q (⟨some d, .makeFunc f x y, none⟩ :: l) ⟨nt, tm, bx⟩ = (d < nt ∧ opsV P dr Q l d nt tm bx (evP P ⟨nt, tm, bx⟩ (.makeFunc f x y))) := o_pure rfl
theorem s_extract [Lays] {d : Tmp} {x : Operand} {i : Nat} : opsS P dr Q (⟨some d, .extract x i, none⟩ :: l) ⟨nt, tm, bx⟩ = (d < nt ∧ opsV P dr Q l d nt tm bx (evP P ⟨nt, tm, bx⟩ (.extract x i))) := o_pure rfl
theorem s_len [Lays] {d : Tmp} {x : Array Operand} {y : Array TypeId} : opsS P dr Q (⟨some d, .call { callee := .builtin .len, args := x, argTypes := y }, none⟩ :: l) ⟨nt, tm, bx⟩ = (d < nt ∧ opsV P dr Q l d nt tm bx (evP P ⟨nt, tm, bx⟩ (.call { callee := .builtin .len, args := x, argTypes := y }))) := o_pure rfl
theorem s_max [Lays] {d : Tmp} {x : Array Operand} {y : Array TypeId} : opsS P dr Q (⟨some d, .call { callee := .builtin .max, args := x, argTypes := y }, none⟩ :: l) ⟨nt, tm, bx⟩ = (d < nt ∧ opsV P dr Q l d nt tm bx (evP P ⟨nt, tm, bx⟩ (.call { callee := .builtin .max, args := x, argTypes := y }))) := o_pure rfl
theorem s_min [Lays] {d : Tmp} {x : Array Operand} {y : Array TypeId} : opsS P dr Q (⟨some d, .call { callee := .builtin .min, args := x, argTypes := y }, none⟩ :: l) ⟨nt, tm, bx⟩ = (d < nt ∧ opsV P dr Q l d nt tm bx (evP P ⟨nt, tm, bx⟩ (.call { callee := .builtin .min, args := x, argTypes := y }))) := o_pure rfl
theorem s_alloc0 [Lays] {d : Tmp} {t : TypeId} : opsS P dr Q (⟨some d, .alloc t, none⟩ :: l) ⟨nt, tm, bx⟩ = (d < nt ∧ get d bx = none ∧ menS d tm bx = false ∧ opsW P dr Q l d nt tm bx (evA P ⟨nt, tm, bx⟩ d (.alloc t))) := o_alloc rfl
theorem s_box [Lays] {d : Tmp} {t : TypeId} {x : Operand} : opsS P dr Q (⟨some d, .box t x, none⟩ :: l) ⟨nt, tm, bx⟩ = (d < nt ∧ get d bx = none ∧ menS d tm bx = false ∧ opsW P dr Q l d nt tm bx (evA P ⟨nt, tm, bx⟩ d (.box t x))) := o_alloc rfl
theorem s_buildSlice [Lays] {d : Tmp} {t : TypeId} {n : Nat} {ps : Array (Nat × Operand)} : opsS P dr Q (⟨some d, .buildSlice t n ps, none⟩ :: l) ⟨nt, tm, bx⟩ = (d < nt ∧ get d bx = none ∧ menS d tm bx = false ∧ opsW P dr Q l d nt tm bx (evA P ⟨nt, tm, bx⟩ d (.buildSlice t n ps))) := o_alloc rfl
theorem s_slice [Lays] {d : Tmp} {t : TypeId} {x : Operand} {lo hi : Option Operand} : opsS P dr Q (⟨some d, .slice t x lo hi none, none⟩ :: l) ⟨nt, tm, bx⟩ = (d < nt ∧ opsV P dr Q l d nt tm bx (evP P ⟨nt, tm, bx⟩ (.slice t x lo hi none))) := o_pure rfl
theorem s_clear [Lays] {x : Operand} {t : TypeId} : opsS P dr Q (⟨none, .call { callee := .builtin .clear, args := #[x], argTypes := #[t] }, none⟩ :: l) σ = opsE P dr Q l (evClear P σ t (σ.op x)) := propext (by
  constructor
  · rintro ⟨σ', ⟨_, _, x', t', h1, h2, h3⟩, h4, h5⟩
    cases h1; cases h2
    exact ⟨σ', h3, h4.imp id (fun h => h.resolve_left (by simp [quietS])), h5⟩
  · rintro ⟨σ', h3, h4, h5⟩
    exact ⟨σ', ⟨fun t ht => (by cases ht), rfl, x, t, rfl, rfl, h3⟩, h4.imp id .inr, h5⟩)
def opsY [Lays] (P : Program) (dr : Bool) (Q : St → Prop) (l : List SO) (d : Nat) (o : Option (St × Nat)) : Prop := ∃ r, o = some r ∧ (dr = false ∨ wfS (r.1.put d (.c (.v (.int .i64 r.2))))) ∧ opsS P dr Q l (r.1.put d (.c (.v (.int .i64 r.2))))
theorem y_some [Lays] {d m : Nat} : opsY P dr Q l d (some (σ', m)) = ((dr = false ∨ wfS (σ'.put d (.c (.v (.int .i64 m))))) ∧ opsS P dr Q l (σ'.put d (.c (.v (.int .i64 m))))) := propext ⟨fun ⟨_, e, h⟩ => by cases e; exact h, fun h => ⟨_, rfl, h⟩⟩
theorem s_copy [Lays] {d : Tmp} {s x : Operand} {st xt : TypeId} : opsS P dr Q (⟨some d, .call { callee := .builtin .copy, args := #[s, x], argTypes := #[st, xt] }, none⟩ :: l) σ =
    (d < σ.nt ∧ opsY P dr Q l d (copyD P σ st (σ.op s) (σ.op x))) := o_copy
theorem ot_done [Lays] : otS P Q .done σ = Q σ := rfl
theorem ot_op [Lays] {s : SO} {t : OT} : otS P Q (.op s t) σ = opsS P true (otS P Q t) [s] σ := rfl
theorem app_own {k : Nat} {xs ds : List Tmp} : appKO bx tm xs ds (.own k) = ((bx.all (fun p => !p.2.men k) && xs.all (fun t => !((get t tm).getD .top).men k) && ds.all (fun d => !(d == k))) = true) := rfl
theorem app_cl {bw : Bool} {n : Nat} {es : List (List C)} {xs ds : List Tmp} : appKO bx tm xs ds (.c (.cl bw n es)) = True := rfl
theorem sto_box {k off : Nat} {xs ds : List Tmp} : stoKO bx tm xs ds (.box k off) = ((bx.all (fun p => !p.2.men k) && xs.all (fun t => !((get t tm).getD .top).men k) && ds.all (fun d => !(d == k))) = true) := rfl
theorem ot_sto [Lays] {ty : TypeId} {x y : Operand} {xs ds : List Tmp} {t : OT} : otS P Q (.app ⟨none, .store ty x y, none⟩ xs ds t) ⟨nt, tm, bx⟩ = (stoKO bx tm xs ds (St.op ⟨nt, tm, bx⟩ x) ∧ opsS P true (otS P Q t) [⟨none, .store ty x y, none⟩] ⟨nt, tm, bx⟩) := rfl
theorem ot_app [Lays] {d : Tmp} {s x : Operand} {st xt : TypeId} {xs ds : List Tmp} {t : OT} : otS P Q (.app ⟨some d, .call { callee := .builtin .append, args := #[s, x], argTypes := #[st, xt] }, none⟩ xs ds t) ⟨nt, tm, bx⟩ = (appKO bx tm xs ds (St.op ⟨nt, tm, bx⟩ s) ∧ opsS P true (otS P Q t) [⟨some d, .call { callee := .builtin .append, args := #[s, x], argTypes := #[st, xt] }, none⟩] ⟨nt, tm, bx⟩) := rfl
theorem ot_lop [Lays] {s : SO} {t : OT} : otS P Q (.lop s t) σ = opsS P false (fun σ' => wfS σ' ∧ otS P Q t σ') [s] σ := rfl
theorem ot_alt [Lays] {a b : OT} : otS P Q (.alt a b) σ = (otS P Q a σ ∧ otS P Q b σ) := rfl
end Go.Dw
end
