/- Helpers of a proof. -/
import Derived.Test.YtmkkedldhafjfaaDoorW27
set_option linter.unusedVariables false
set_option linter.unusedSimpArgs false
section
set_option linter.unusedSimpArgs false
namespace Go.Dw
open Go.RowKit
variable {P : Program} {α ε : Type}
theorem Ent.toT [Lays] {nt : Nat} {tm tm' : List (Nat × D)} {bx : List (Nat × Blk)} (ht : wkT tm tm') : Ent ⟨nt, tm, bx⟩ ⟨nt, tm', bx⟩ :=
  Ent.weak (fun _ _ h => wkT_mem ht _ (get_mem h)) (fun _ x h => ⟨x, h, .refl x⟩)
theorem DW.rngB [Lays] {g : Operand} {ps : List Tmp} {assign body : SC} {Q : Exit → St → Prop} {nt : Nat} {tm : List (Nat × D)} {bx0 : List (Nat × Blk)} {f : FuncId} {fs caps : List C}
    (hid : α → List (Nat × Blk)) (a0 : α) (step : α → ε → Option Exit × α) (en : ε → List D) (seq : List ε) (hit : ItC P f fs caps en seq)
    (hg : calleeD (St.op ⟨nt, tm, bx0⟩ g) = some (f, fs.map D.c, caps.map D.c)) (hb0 : hid a0 = bx0) (hps : ∀ p ∈ ps, p < nt) (hlen : ∀ e ∈ seq, ps.length = (en e).length)
    (hcl : ∀ e ∈ seq, ∀ k, D.mens k (en e) = false) (nd : (tm.map (·.1)).Nodup) (h9 : ∀ a, get 999 (hid a) = none) (hwf : ∀ a, wfB tm (hid a) = true)
    (hnb : ∀ a, (hid a).all (fun p => p.2.nb) = true) (hnt : tm.all (fun p => p.2.nb) = true) (hoj : ∀ a e, okJ (step a e).1 = true)
    (hbody : ∀ a, ∀ e ∈ seq, ∀ v, DW P assign (fun x σ' => x = .normal ∧ DW P body (roundQ nt v tm (step a e).1 (hid (step a e).2)) σ') ⟨nt, insPs ps (en e) tm, hid a ++ [capB v tm]⟩)
    (hend : Q ((runIt step a0 seq).1.getD .normal) ⟨nt, tm, hid (runIt step a0 seq).2⟩) : DW P (.rng g ps assign body) Q ⟨nt, tm, bx0⟩ := by
  refine DW.rng hg hid a0 hb0 step en seq hit hps hlen hcl nd h9 ?_ ?_ ?_ hoj hbody hend
  · intro a k hk
    have h := WF.of (nt := nt) (hwf a) k hk
    simp only [St.men, Bool.or_eq_false_iff, List.any_eq_false] at h
    refine ⟨fun j x hj => ?_, fun p hp => ?_⟩
    · have := h.2 _ (get_mem hj)
      simpa using this
    · have := h.1 p hp
      simpa using this
  · intro a j x hj
    exact List.all_eq_true.1 (hnb a) _ (get_mem hj)
  · intro p hp
    exact List.all_eq_true.1 hnt p hp
theorem round_end [Lays] {nt : Nat} {v : Nat → Value} {tm : List (Nat × D)} {o : Option Exit} {bx : List (Nat × Blk)} {e : Exit} {σ : St} (h1 : e = o.getD .normal) (h2 : okJ o = true) (h3 : Ent σ ⟨nt, [], bx ++ [capB v tm]⟩) : roundQ nt v tm o bx e σ := ⟨h1, h2, h3⟩
attribute [go_sem] insPs capB List.cons_append List.nil_append
end Go.Dw
end
