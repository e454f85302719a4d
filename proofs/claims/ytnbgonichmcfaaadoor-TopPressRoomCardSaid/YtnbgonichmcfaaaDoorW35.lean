/- Helpers of a proof. -/
import Derived.Test.YtnbgonichmcfaaaDoorW34
import Derived.Carry
import Derived.RowKit3
import Derived.ChangeArms
set_option linter.unusedVariables false
set_option linter.unusedSimpArgs false
section
namespace Go.Dw
open Go.RowKit Go.ChangeShapes
def A0 : Bool → Nat → Prop := fun _ _ => False
theorem Av_none (G : Gh) : Av (fun _ => False) G [] = A0 := by
  funext bw b
  apply propext
  constructor
  · rintro (⟨k, x, h, _⟩ | ⟨_, h⟩)
    · cases h
    · exact h
  · exact fun h => h.elim
section
variable {H : Type} {enc : TypeId × Value → H} {P : Program} {w : World} {base : Nat} {spare : Nat → Bool} {held : Bool} {fuel : Nat} {cs : List Value} {x : DataW H × List MemPlace}
theorem rd_int {t : TypeId} {k : IntKind} (ht : P.underlying t = some (.int k)) (h : DataW.trod enc P w base spare held fuel t cs = some x) : ∃ n : Int, cs = [.int k n] ∧ (Lit.int k n).wf = true := by
  obtain ⟨n, h1, _, h2⟩ := DataW.trod_int ht h
  exact ⟨n, h1, h2⟩
end
theorem DCall.calls [Lays] {P : Program} {f : FuncId} {as : List D} {r : D} (h : DCall P f as [] r []) {W : World} {vs : List Value} (hl : LaidA (fun _ => False) W) (hvs : ∀ G : Gh, RepDs W A0 G as vs) :
    Calls P f vs.toArray W (fun e w' => ∃ v, e = .returned v ∧ (∃ G' A', RepD w' A' G' r v) ∧ Below W.heap.size W w') := by
  let G : Gh := ⟨fun _ => none, fun _ => default⟩
  have := h.2.2 (fun _ => False) G W vs (fun b hb => hb.elim) (fun b hb _ => by obtain ⟨k, x, hk, _⟩ := hb; cases hk) {
    rep := fun k x hk => by cases hk
    inj := fun k k' x x' b hk => by cases hk
    lt := fun b hb => by obtain ⟨k, x, hk, _⟩ := hb; cases hk
    laid := hl.sub (fun b hb => by rw [Av_none] at hb; exact hb) } (by rw [Av_none]; exact hvs G)
  refine Calls.mono this ?_
  rintro e w' ⟨G', v, rfl, _, hr, hfr, _⟩
  exact ⟨v, rfl, ⟨G', _, hr⟩, ⟨hfr.os, hfr.tape, hfr.output, hfr.size, fun k hk => hfr.keep k hk (fun ho => by obtain ⟨j, x, hj, _⟩ := ho; cases hj)⟩⟩
theorem kept_of_below {W W' : World} (h : Below W.heap.size W W') (may : MemPlace → Prop) : W.keptBut W' may := by
  refine ⟨h.os, h.output, fun i hi => ?_⟩
  rw [h.block i hi]
  split
  · rename_i h1 h2
    rw [h1] at h2; cases h2
    exact ⟨rfl, rfl, rfl, fun _ _ => rfl⟩
  · rename_i h1 h2
    rw [h1] at h2; cases h2
    exact .inr ⟨rfl, rfl⟩
  · rfl
theorem trodAll_below {H : Type} {enc : TypeId × Value → H} {P : Program} (hl : laidOutB P = true) {W W' : World} (hb : Below W.heap.size W W') :
    ∀ {ts : List TypeId} {vs : List Value} {ds : List (DataW H)} {ps : List MemPlace}, (∀ t ∈ ts, P.readableRec t = true ∧ t < P.types.size) → (∀ x ∈ ps, x.block < W.heap.size) →
      DataW.TrodAll enc P W 0 (fun _ => true) true ts vs ds ps → DataW.TrodAll enc P W' 0 (fun b => decide (b < W.heap.size)) true ts vs ds ps
  | [], vs, ds, ps, _, _, h => by
    obtain ⟨rfl, rfl, rfl⟩ := trodAll_nil h
    exact trodAll_mk0
  | t :: ts, vs, ds, ps, ht, hp, h => by
    obtain ⟨v, vs', d, ds', p, q, rfl, rfl, rfl, h1, h2⟩ := trodAll_cons h
    have h3 := ht t (by simp)
    exact ⟨p, q, Below.trod hl h3.1 h3.2 h1 hb (fun x hx => hp x (by simp [hx])), trodAll_below hl hb (fun u hu => ht u (by simp [hu])) (fun x hx => hp x (by simp [hx])) h2, rfl⟩
theorem post_true {H : Type} {enc : TypeId × Value → H} {P : Program} {f : Func} {s : ChangeSpec} {W W' : World} {args : Array Value} {ds gs : List (DataW H)} {before : List MemPlace}
    (hl : laidOutB P = true) (hrd : ∀ t ∈ f.params.toList, P.readableRec t = true ∧ t < P.types.size) (hW : DataW.Whole enc P f.params.toList s.vars false W args.toList ds gs before)
    (hbe : Below W.heap.size W W') (hv : s.vars = []) {tb : TypeId} (hr : f.resultTypes = #[tb]) (hu : P.underlying tb = some .bool)
    (hf1 : (s.fn H (ds ++ gs)).results = [.lit (.bool true)]) (hf2 : (s.fn H (ds ++ gs)).args = ds) (hf3 : (s.fn H (ds ++ gs)).vars = []) :
    s.post enc P f false true false false W args (.bool true) W' := by
  have hlt : ∀ p ∈ before, p.block < W.heap.size := fun p hp => hW.lt p hp
  have hW' := hW
  obtain ⟨p, q, h1, h2, h3, _, _⟩ := hW
  rw [hv] at h2
  obtain ⟨rfl, rfl⟩ := trodVars_none h2
  rw [List.append_nil] at h3
  subst h3
  refine ⟨ds, [], before, [], before, [], hW', ?_, ?_, ?_, kept_of_below hbe _, fun h => by cases h⟩
  · rw [hr, hf1]
    exact trodAll_mk1 (shut_bool hu _)
  · rw [hf2]
    exact trodAll_below hl hbe hrd hlt h1
  · rw [hf3, hv]; rfl
end Go.Dw
end
