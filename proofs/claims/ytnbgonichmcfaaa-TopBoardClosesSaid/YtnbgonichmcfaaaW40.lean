/- Helpers of a proof. -/
import Derived.Test.YtnbgonichmcfaaaW39
set_option linter.unusedVariables false
set_option linter.unusedSimpArgs false
section
set_option linter.unusedSimpArgs false
namespace Go.Dw
open Go.RowKit
variable {P : Program} {nt : Nat} {tm : List (Nat × D)} {bx : List (Nat × Blk)}
mutual
def pinD (k l : Nat) : D → D
  | .top => .top
  | .c c => .c c
  | .agg cs => .agg (pinDs k l cs)
  | .tup cs => .tup (pinDs k l cs)
  | .box j off => if j = k then .c (.v (.pointer (some ⟨l, off, none⟩))) else .box j off
  | .own j => .own j
  | .elo j n i off => .elo j n i off
  | .hd j => if j = k then .c (.v (.map (some l))) else .hd j
  | .win j n lo hi => .win j n lo hi
  | .fn f fs caps => .fn f (pinDs k l fs) (pinDs k l caps)
def pinDs (k l : Nat) : List D → List D
  | [] => []
  | d :: ds => pinD k l d :: pinDs k l ds
end
def pinB (k l : Nat) : Blk → Blk
  | .box cs => .box (pinDs k l cs)
  | .row n es => .row n (es.map (pinDs k l))
  | .lp o v tm => .lp o v (tm.map fun p => (p.1, pinD k l p.2))
  | .map ks ds => .map ks (pinDs k l ds)
  | .pmap l' ks ds => .pmap l' ks (pinDs k l ds)
  | .pbox l' ds => .pbox l' (pinDs k l ds)
def pinO (l : Nat) : Blk → Blk
  | .box cs => .pbox l cs
  | .map ks ds => .pmap l ks ds
  | x => x
def pinT (k l : Nat) : List (Nat × D) → List (Nat × D)
  | [] => []
  | p :: r => (p.1, pinD k l p.2) :: pinT k l r
def pinX (k l : Nat) : List (Nat × Blk) → List (Nat × Blk)
  | [] => []
  | p :: r => (p.1, if p.1 = k then pinO l (pinB k l p.2) else pinB k l p.2) :: pinX k l r
theorem get_pinT {k l t : Nat} : ∀ {r : List (Nat × D)}, get t (pinT k l r) = (get t r).map (pinD k l)
  | [] => rfl
  | p :: r => by
    simp only [pinT, get]
    split
    · rfl
    · exact get_pinT
theorem get_pinX {k l t : Nat} : ∀ {r : List (Nat × Blk)}, get t (pinX k l r) = (get t r).map fun x => if t = k then pinO l (pinB k l x) else pinB k l x
  | [] => rfl
  | p :: r => by
    simp only [pinX, get]
    split
    · rename_i e; subst e; rfl
    · exact get_pinX
theorem pinDs_map (k l : Nat) : ∀ ds : List D, pinDs k l ds = ds.map (pinD k l)
  | [] => rfl
  | d :: ds => by simp [pinDs, pinDs_map k l ds]
section
variable {N O0 : Nat → Prop} {w0 w : World} {G : Gh} {a : Act} {A : Bool → Nat → Prop}
theorem pinDs_flat (k l : Nat) (es : List (List D)) : (es.map (pinDs k l)).flatten = pinDs k l es.flatten := by
  rw [pinDs_map, List.map_flatten]
  congr 1
  exact List.map_congr_left fun e _ => pinDs_map k l e
end
def pinned : Blk → Bool
  | .box _ => true
  | .map _ _ => true
  | _ => false
def apartB (own h : List (Nat × Blk)) : Bool := own.all fun p => (get p.1 h).isNone
theorem apartB_spec {own h : List (Nat × Blk)} (hb : apartB own h = true) : ∀ k x, get k own = some x → get k h = none := fun k x hk => by
  have := List.all_eq_true.1 hb _ (get_mem hk)
  simpa using this
theorem call_h [Lays] {Q : St → Prop} {l : List SO} {d : Tmp} {f : Operand} {args : Array Operand} {tys : Array TypeId} {g : FuncId} {fs caps as : List D} {r : D} {o : Option (FuncId × List D)} {tm0 : List (Nat × D)} {own h h' : List (Nat × Blk)}
    (hc : DCall P g as h r h') (he : Ent ⟨nt, tm, bx⟩ ⟨nt, tm0, h ++ own⟩) (hce : calleeD (St.op ⟨nt, tm0, h ++ own⟩ f) = some (g, fs, caps)) (hcl : closeDs ⟨nt, tm0, own⟩ none (fs ++ args.toList.map (St.op ⟨nt, tm0, h ++ own⟩) ++ caps) = some as)
    (hap : apartB own h = true) (hap' : h'.all (fun p => (get p.1 own).isNone && !(menS p.1 tm0 own)) = true) (hd : d < nt) (hQ : opsS P false Q l ⟨nt, ins d r tm0, h' ++ own⟩) : opsC P false Q l d f args tys ⟨nt, tm, bx⟩ o := fun _ => by
  refine ⟨_, ⟨fun t ht => (by cases ht; exact hd), .inr ⟨rfl, .inr (.inl ⟨_, he, rfl, g, fs, caps, as, own, h, r, h', hce, hcl, hc, rfl, apartB_spec hap, fun k x hk => ?_, rfl⟩)⟩⟩, .inl rfl, hQ⟩
  have := List.all_eq_true.1 hap' _ (get_mem hk)
  simp only [Bool.and_eq_true, Option.isNone_iff_eq_none, Bool.not_eq_true'] at this
  exact this
theorem s_nilCheck [Lays] {Q : St → Prop} {dr : Bool} {l : List SO} {d : Tmp} {x : Operand} : opsS P dr Q (⟨some d, .nilCheck x, none⟩ :: l) ⟨nt, tm, bx⟩ = (d < nt ∧ opsV P dr Q l d nt tm bx (evP P ⟨nt, tm, bx⟩ (.nilCheck x))) := o_pure rfl
theorem nilD_ptr (a : Addr) : nilD (.c (.v (.pointer (some a)))) = some (.c (.v (.pointer (some a)))) := rfl
theorem nilD_ro (b : Bool) (cs : List C) (off : Nat) : nilD (.c (.ro b cs off)) = some (.c (.ro b cs off)) := rfl
theorem nilD_box (k off : Nat) : nilD (.box k off) = some (.box k off) := rfl
theorem nilD_elo (k n i off : Nat) : nilD (.elo k n i off) = some (.elo k n i off) := rfl
attribute [go_sem] s_nilCheck nilD_ptr nilD_ro nilD_box nilD_elo s_lookup s_update s_makeMap pget mget pkey Blk.pinB Blk.pinM mapAt lookD evM updAt keyD valsC
end Go.Dw
end
