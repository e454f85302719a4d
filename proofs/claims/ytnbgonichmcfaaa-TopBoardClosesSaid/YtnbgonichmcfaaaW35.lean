/- Helpers of a proof. -/
import Derived.Test.YtnbgonichmcfaaaW34
import Derived.Carry
import Derived.RowKit3
import Derived.ChangeArms
set_option linter.unusedVariables false
set_option linter.unusedSimpArgs false
section
namespace Go.Dw
open Go.RowKit Go.ChangeShapes
def A0 : Bool → Nat → Prop := fun _ _ => False
theorem Av_none (G : Gh) : Av (fun _ => False) G [] = A0 := by
  funext bw b
  apply propext
  constructor
  · rintro (⟨k, x, h, _⟩ | ⟨_, h⟩)
    · cases h
    · exact h
  · exact fun h => h.elim
section
variable {H : Type} {enc : TypeId × Value → H} {P : Program} {w : World} {base : Nat} {spare : Nat → Bool} {held : Bool} {fuel : Nat} {cs : List Value} {x : DataW H × List MemPlace}
theorem repCs_of {b : Nat} : ∀ {cs : List C} {ys : List Value} {o : Nat}, RepVs w A0 cs ys → (∀ j v, ys[j]? = some v → w.cell? ⟨b, o + j, none⟩ = some v) → RepCs w A0 cs b o
  | [], _, _, _, _ => trivial
  | c :: cs, ys, o, h, hc => by
    obtain ⟨y, ys', rfl, h1, h2⟩ := h
    refine ⟨⟨y, by have := hc 0 y rfl; simpa using this, h1⟩, repCs_of h2 (fun j v hj => ?_)⟩
    have := hc (j + 1) v (by simpa using hj)
    rwa [show o + 1 + j = o + (j + 1) by omega]
theorem cell_at {a : Addr} {i : Nat} {v : Value} (h : w.cell? (a.add i) = some v) : w.cell? ⟨a.block, a.off + i, none⟩ = some v ∧ a.block < w.heap.size ∧ (i = 0 → a.spot = none) := by
  have hb : (a.add i).block = a.block := by unfold Addr.add; split <;> rfl
  have ho : (a.add i).off = a.off + i := by
    unfold Addr.add; split
    · rename_i h0; rw [h0]; rfl
    · rfl
  unfold World.cell? at h
  rw [hb, ho] at h
  split at h
  · rename_i c t fr hh
    split at h
    · cases h
    · rename_i hs
      refine ⟨?_, (Array.getElem?_eq_some_iff.1 hh).1, fun h0 => ?_⟩
      · unfold World.cell?
        simp only [hh]
        exact h
      · rw [h0] at hs
        have : a.add 0 = a := by unfold Addr.add; rw [if_pos rfl]
        rw [this] at hs
        cases hsp : a.spot with
        | none => rfl
        | some s => rw [hsp] at hs; exact absurd rfl hs
  · cases h
theorem cells_at {a : Addr} {n : Nat} {cs : List Value} (h : w.cells? base a n = some cs) : cs.length = n ∧ ∀ i v, cs[i]? = some v → w.cell? (a.add i) = some v := by
  unfold World.cells? at h
  split at h
  · have hl : cs.length = n := by simpa using mapM_some_length h
    refine ⟨hl, fun i v hv => ?_⟩
    have hi : i < n := by rw [← hl]; exact (List.getElem?_eq_some_iff.1 hv).1
    rw [mapM_some_get h i i (by simp [hi])]; exact hv
  · cases h
theorem repEs_of {α : Type} {f : α → List C} {n b : Nat} (hf : ∀ a, (f a).length = n) : ∀ {l : List α} {o : Nat}, (∀ i a, l[i]? = some a → RepCs w A0 (f a) b (o + i * n)) → RepEs w A0 n (rows f l) b o
  | [], _, _ => trivial
  | a :: l, o, h => by
    refine ⟨hf a, by have := h 0 a rfl; simpa using this, repEs_of hf (l := l) (fun i x hx => ?_)⟩
    have := h (i + 1) x (by simpa using hx)
    rwa [show o + n + i * n = o + (i + 1) * n by rw [Nat.succ_mul]; omega]
def szW : DataW H → Nat
  | .slice E _ => E.length
  | _ => 0
theorem rd_int {t : TypeId} {k : IntKind} (ht : P.underlying t = some (.int k)) (h : DataW.trod enc P w base spare held fuel t cs = some x) : ∃ n : Int, cs = [.int k n] ∧ (Lit.int k n).wf = true := by
  obtain ⟨n, h1, _, h2⟩ := DataW.trod_int ht h
  exact ⟨n, h1, h2⟩
theorem rd_slice {α : Type} {t e : TypeId} {n : Nat} {f : α → List C} (ht : P.underlying t = some (.slice e)) (hn : P.cellsOf e = n) (hpos : 0 < n) (hf : ∀ a, (f a).length = n)
    (hrd : ∀ m cs x, DataW.trod enc P w base spare held m e cs = some x → ∃ a, RepVs w A0 (f a) cs) (h : DataW.trod enc P w base spare held fuel t cs = some x) :
    ∃ (l : List α) (v : Value), cs = [v] ∧ RepC w A0 (.sl false n (rows f l)) v ∧ l.length ≤ maxLen ∧ szW x.1 = l.length := by
  rcases DataW.trod_slice ht h with ⟨rfl, rfl⟩ | ⟨a, len, cap, elems, rest, m, rfl, rfl, rfl, _, hlc, hcm, hel, hr, _, _⟩
  · exact ⟨[], _, rfl, ⟨none, 0, rfl, Nat.le_refl _, .inl rfl⟩, Nat.zero_le _, rfl⟩
  · have key : ∀ k, k ≤ len → ∃ l : List α, l.length = k ∧ ∀ i a', l[i]? = some a' → ∃ ci, w.cells? base (a.add (i * n)) n = some ci ∧ RepVs w A0 (f a') ci := by
      intro k
      induction k with
      | zero => exact fun _ => ⟨[], rfl, fun i a' h => by simp at h⟩
      | succ k ih =>
        intro hk
        obtain ⟨l, hl, hi⟩ := ih (by omega)
        have h1 := hr k (by omega)
        obtain ⟨y, hy⟩ : ∃ y, elems[k]? = some y := ⟨elems[k]'(by omega), by simp⟩
        rw [hy, hn] at h1
        obtain ⟨ci, hci, htr⟩ := Option.bind_eq_some_iff.1 h1
        obtain ⟨a', ha'⟩ := hrd _ _ _ htr
        refine ⟨l ++ [a'], by simp [hl], fun i b hb => ?_⟩
        rcases Nat.lt_or_ge i k with h2 | h2
        · rw [List.getElem?_append_left (by omega)] at hb
          exact hi i b hb
        · have h3 : i < (l ++ [a']).length := (List.getElem?_eq_some_iff.1 hb).1
          have h4 : i = k := by simp [hl] at h3; omega
          subst h4
          rw [List.getElem?_append_right (by omega), hl, Nat.sub_self] at hb
          cases hb
          exact ⟨ci, hci, ha'⟩
    obtain ⟨l, hl, hi⟩ := key len (Nat.le_refl _)
    refine ⟨l, _, rfl, ?_, by omega, by simp [szW, hel, hl]⟩
    cases hc : l with
    | nil =>
      subst hc
      have : len = 0 := by rw [← hl]; rfl
      subst this
      exact ⟨some a, cap, rfl, Nat.zero_le _, .inl rfl⟩
    | cons a0 l0 =>
      rw [← hc]
      obtain ⟨c0, hc0, hr0⟩ := hi 0 a0 (by rw [hc]; rfl)
      have hz : a.add (0 * n) = a := by rw [Nat.zero_mul]; unfold Addr.add; rw [if_pos rfl]
      rw [hz] at hc0
      obtain ⟨hl0, hg0⟩ := cells_at hc0
      obtain ⟨v0, hv0⟩ : ∃ v0, c0[0]? = some v0 := ⟨c0[0]'(by omega), by simp⟩
      obtain ⟨_, hlt, hsp⟩ := cell_at (hg0 0 v0 hv0)
      have ha : a = ⟨a.block, a.off, none⟩ := by
        have := hsp rfl
        cases a; simp_all
      refine ⟨some a, cap, by simp [rows, hl], by simp [rows]; omega, .inr ⟨a.block, a.off, by rw [← ha], hlt, fun h => h, ?_⟩⟩
      refine repEs_of hf (fun i a' ha' => ?_)
      obtain ⟨ci, hci, hri⟩ := hi i a' ha'
      obtain ⟨hli, hgi⟩ := cells_at hci
      refine repCs_of hri (fun j v hj => ?_)
      have h1 := hgi j v hj
      have h2 := (cell_at h1).1
      have hb : (a.add (i * n)).block = a.block := by unfold Addr.add; split <;> rfl
      have ho : (a.add (i * n)).off = a.off + i * n := by
        unfold Addr.add; split
        · rename_i h0; rw [h0]; rfl
        · rfl
      rw [hb, ho] at h2
      exact h2
def structIs (P : Program) (t : TypeId) (l : List (Nat × Nat)) : Bool := match P.underlying t with
  | some (.struct fs) => decide (fs.toList.map (fun f => (f.type, f.offset)) = l)
  | _ => false
theorem structIs_spec {P : Program} {t : TypeId} {l : List (Nat × Nat)} (h : structIs P t l = true) : ∃ fs : Array Field, P.underlying t = some (.struct fs) ∧ fs.toList.map (fun f => (f.type, f.offset)) = l := by
  unfold structIs at h
  split at h
  · rename_i fs hu
    exact ⟨fs, hu, of_decide_eq_true h⟩
  · cases h
theorem rd_struct {t : TypeId} {l : List (Nat × Nat)} (hs : structIs P t l = true) (h : DataW.trod enc P w base spare held fuel t cs = some x) :
    cs.length = P.cellsOf t ∧ ∃ m, ∀ (i tt o : Nat), l[i]? = some (tt, o) → ∃ y, DataW.trod enc P w base spare held m tt ((cs.drop o).take (P.cellsOf tt)) = some y := by
  obtain ⟨fs, hu, hl⟩ := structIs_spec hs
  obtain ⟨xs, n, _, _, hcs, hlen, hf⟩ := DataW.trod_struct hu h
  refine ⟨hcs, n, fun i tt o hi => ?_⟩
  rw [← hl, List.getElem?_map] at hi
  obtain ⟨f, hfi, he⟩ := Option.map_eq_some_iff.1 hi
  cases he
  have hfi' : fs[i]? = some f := by simpa using hfi
  have h1 := hf i f hfi'
  have hlt : i < xs.length := by rw [hlen]; exact (Array.getElem?_eq_some_iff.1 hfi').1
  exact ⟨xs[i], by rw [h1]; simp⟩
end
theorem DCall.calls [Lays] {P : Program} {f : FuncId} {as : List D} {r : D} (h : DCall P f as [] r []) {W : World} {vs : List Value} (hl : LaidA (fun _ => False) W) (hvs : ∀ G : Gh, RepDs W A0 G as vs) :
    Calls P f vs.toArray W (fun e w' => ∃ v, e = .returned v ∧ (∃ G' A', RepD w' A' G' r v) ∧ Below W.heap.size W w') := by
  let G : Gh := ⟨fun _ => none, fun _ => default⟩
  have := h.2.2 (fun _ => False) G W vs (fun b hb => hb.elim) (fun b hb _ => by obtain ⟨k, x, hk, _⟩ := hb; cases hk) {
    rep := fun k x hk => by cases hk
    inj := fun k k' x x' b hk => by cases hk
    lt := fun b hb => by obtain ⟨k, x, hk, _⟩ := hb; cases hk
    laid := hl.sub (fun b hb => by rw [Av_none] at hb; exact hb) } (by rw [Av_none]; exact hvs G)
  refine Calls.mono this ?_
  rintro e w' ⟨G', v, rfl, _, hr, hfr, _⟩
  exact ⟨v, rfl, ⟨G', _, hr⟩, ⟨hfr.os, hfr.tape, hfr.output, hfr.size, fun k hk => hfr.keep k hk (fun ho => by obtain ⟨j, x, hj, _⟩ := ho; cases hj)⟩⟩
theorem kept_of_below {W W' : World} (h : Below W.heap.size W W') (may : MemPlace → Prop) : W.keptBut W' may := by
  refine ⟨h.os, h.output, fun i hi => ?_⟩
  rw [h.block i hi]
  split
  · rename_i h1 h2
    rw [h1] at h2; cases h2
    exact ⟨rfl, rfl, rfl, fun _ _ => rfl⟩
  · rename_i h1 h2
    rw [h1] at h2; cases h2
    exact .inr ⟨rfl, rfl⟩
  · rfl
theorem trodAll_below {H : Type} {enc : TypeId × Value → H} {P : Program} (hl : laidOutB P = true) {W W' : World} (hb : Below W.heap.size W W') :
    ∀ {ts : List TypeId} {vs : List Value} {ds : List (DataW H)} {ps : List MemPlace}, (∀ t ∈ ts, P.readableRec t = true ∧ t < P.types.size) → (∀ x ∈ ps, x.block < W.heap.size) →
      DataW.TrodAll enc P W 0 (fun _ => true) true ts vs ds ps → DataW.TrodAll enc P W' 0 (fun b => decide (b < W.heap.size)) true ts vs ds ps
  | [], vs, ds, ps, _, _, h => by
    obtain ⟨rfl, rfl, rfl⟩ := trodAll_nil h
    exact trodAll_mk0
  | t :: ts, vs, ds, ps, ht, hp, h => by
    obtain ⟨v, vs', d, ds', p, q, rfl, rfl, rfl, h1, h2⟩ := trodAll_cons h
    have h3 := ht t (by simp)
    exact ⟨p, q, Below.trod hl h3.1 h3.2 h1 hb (fun x hx => hp x (by simp [hx])), trodAll_below hl hb (fun u hu => ht u (by simp [hu])) (fun x hx => hp x (by simp [hx])) h2, rfl⟩
theorem post_true {H : Type} {enc : TypeId × Value → H} {P : Program} {f : Func} {s : ChangeSpec} {W W' : World} {args : Array Value} {ds gs : List (DataW H)} {before : List MemPlace}
    (hl : laidOutB P = true) (hrd : ∀ t ∈ f.params.toList, P.readableRec t = true ∧ t < P.types.size) (hW : DataW.Whole enc P f.params.toList s.vars false W args.toList ds gs before)
    (hbe : Below W.heap.size W W') (hv : s.vars = []) {tb : TypeId} (hr : f.resultTypes = #[tb]) (hu : P.underlying tb = some .bool)
    (hf1 : (s.fn H (ds ++ gs)).results = [.lit (.bool true)]) (hf2 : (s.fn H (ds ++ gs)).args = ds) (hf3 : (s.fn H (ds ++ gs)).vars = []) :
    s.post enc P f false true false false W args (.bool true) W' := by
  have hlt : ∀ p ∈ before, p.block < W.heap.size := fun p hp => hW.lt p hp
  have hW' := hW
  obtain ⟨p, q, h1, h2, h3, _, _⟩ := hW
  rw [hv] at h2
  obtain ⟨rfl, rfl⟩ := trodVars_none h2
  rw [List.append_nil] at h3
  subst h3
  refine ⟨ds, [], before, [], before, [], hW', ?_, ?_, ?_, kept_of_below hbe _, fun h => by cases h⟩
  · rw [hr, hf1]
    exact trodAll_mk1 (shut_bool hu _)
  · rw [hf2]
    exact trodAll_below hl hbe hrd hlt h1
  · rw [hf3, hv]; rfl
end Go.Dw
end
