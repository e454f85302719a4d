/- Helpers of a proof. -/
import Derived.Test.YtkhicfkfdmldkaaW27
set_option linter.unusedVariables false
set_option linter.unusedSimpArgs false
section
namespace Go.Dw
open Go.RowKit
variable {P : Program}
theorem owned_one {G : Gh} {k : Nat} {x : Blk} {b : Nat} : owned G [(k, x)] b ↔ G.β k = some b := by
  constructor
  · rintro ⟨j, y, hj, hb⟩
    simp only [get] at hj
    split at hj
    · rename_i e; subst e; exact hb
    · cases hj
  · intro h
    exact ⟨k, x, by simp [get], h⟩
theorem DCall.rekey [Lays] {f : FuncId} {as : List D} {n k0 : Nat} {es : List (List C)} {r : D} {bo : List (Nat × Blk)} (h : DCall P f (.own k0 :: as) [(k0, .row n (rowC es))] r bo) (has : ∀ k, D.mens k as = false) (j : Nat) :
    DCall P f (.own j :: as) [(j, .row n (rowC es))] r bo := by
  refine ⟨h.1, h.2.1, fun N G w vs hN hd hh hvs => ?_⟩
  let G2 : Gh := G.set k0 (G.β j) (G.γ j)
  have hown : owned G2 [(k0, .row n (rowC es))] = owned G [(j, .row n (rowC es))] := by
    funext b
    apply propext
    rw [owned_one, owned_one]
    simp [G2, Gh.set]
  have hA : Av N G2 [(k0, .row n (rowC es))] = Av N G [(j, .row n (rowC es))] := by
    funext bw b
    simp only [Av, hown]
  obtain ⟨y, ys, rfl, h1, h2⟩ := hvs
  have hrow : RepB w (Av N G2 [(k0, .row n (rowC es))]) G2 k0 (.row n (rowC es)) := by
    rw [hA]
    have := hh.rep j (.row n (rowC es)) (by simp [get])
    obtain ⟨h3, h4⟩ := this
    have key : ∀ ys, RepDs w (Av N G [(j, .row n (rowC es))]) G (rowC es).flatten ys → RepDs w (Av N G [(j, .row n (rowC es))]) G2 (rowC es).flatten ys := fun ys hr =>
      RepDs.mono (Keeps.refl _ _) (fun _ => True) (fun k hk => absurd trivial hk) _ ys (fun k _ => by
        have : (rowC es).flatten = es.flatten.map D.c := by simp [rowC, List.map_flatten]
        rw [this]; exact mens_mapc k _) hr
    refine ⟨h3, ?_⟩
    rcases h4 with ⟨h5, h6, h7⟩ | ⟨b, arr, E, cap, h5, h6, h7, h8, h9, h10⟩
    · exact .inl ⟨h5, by simpa [G2, Gh.set] using h6, by simpa [G2, Gh.set] using h7⟩
    · exact .inr ⟨b, arr, E, cap, by simpa [G2, Gh.set] using h5, h6, by simpa [G2, Gh.set] using h7, h8, h9, key _ h10⟩
  have := h.2.2 N G2 w (y :: ys) hN (fun b hb => hd b (by rw [← hown]; exact hb)) {
    rep := fun k x hk => by
      simp only [get] at hk
      split at hk
      · rename_i e; subst e; cases hk; exact hrow
      · cases hk
    inj := fun k k' x x' b hk hk' _ _ => by
      simp only [get] at hk hk'
      split at hk
      · split at hk'
        · rename_i e1 e2; rw [e1, e2]
        · cases hk'
      · cases hk
    lt := fun b hb => hh.lt b (by rw [← hown]; exact hb)
    laid := by rw [hA]; exact hh.laid } ⟨y, ys, rfl, ⟨by
      have e := h1.1
      simpa [G2, Gh.set] using e, h1.2⟩, by
      rw [hA]
      exact RepDs.mono (Keeps.refl _ _) (fun _ => True) (fun k hk => absurd trivial hk) _ ys (fun k _ => has k) h2⟩
  rw [hown] at this
  exact this
theorem call_m [Lays] (k : Nat) {Q : St → Prop} {l : List SO} {d : Tmp} {f : Operand} {args : Array Operand} {tys : Array TypeId} {g : FuncId} {fs caps as : List D} {r : D} {x y : Blk} {nt : Nat} {tm : List (Nat × D)} {bx : List (Nat × Blk)} {o : Option (FuncId × List D)}
    (hc : DCall P g as [(k, y)] r [(d, x)]) (hk : get k bx = some y) (hce : calleeD (St.op ⟨nt, tm, bx⟩ f) = some (g, fs, caps)) (hcl : closeDs ⟨nt, tm, bx⟩ (some k) (fs ++ args.toList.map (St.op ⟨nt, tm, bx⟩) ++ caps) = some as)
    (hd : d < nt) (hf : get d (del k (bx.map fun p => (p.1, killB k p.2))) = none) (hm : menS d (tm.map fun p => (p.1, killD k p.2)) (del k (bx.map fun p => (p.1, killB k p.2))) = false)
    (h : opsS P false Q l ⟨nt, ins d r (tm.map fun p => (p.1, killD k p.2)), ins d x (del k (bx.map fun p => (p.1, killB k p.2)))⟩) : opsC P false Q l d f args tys ⟨nt, tm, bx⟩ o := fun _ => by
  have hr : St.rowsOf ⟨nt, tm, bx⟩ (some k) = [(k, y)] := by simp only [St.rowsOf, hk]
  refine o_call (mv := some k) (bo := [(d, x)]) (by rw [hr]; exact hc) hce hcl ?_ (fun e => by cases e) (fun t ht => by cases ht; exact hd) h
  exact ⟨trivial, hf, hm, rfl⟩
attribute [go_sem] del
def cutQ [Lays] (Q : Exit → St → Prop) (σF : St) : Exit → St → Prop := fun e σ => match e with
  | .normal => Ent σ σF
  | e => Q e σ
theorem DW.cut [Lays] {x y : SC} {Q : Exit → St → Prop} {σ : St} (σF : St) (h : DW P x (cutQ Q σF) σ) (hy : DW P y Q σF) : DW P (.seq x y) Q σ :=
  DW.seq (DW.mono h (fun e σ' q => by
    cases e <;> first | exact DW.ent q hy | exact q))
theorem cut_normal [Lays] {Q : Exit → St → Prop} {σF σ : St} : cutQ Q σF .normal σ = Ent σ σF := rfl
theorem cut_ret [Lays] {Q : Exit → St → Prop} {σF σ : St} : cutQ Q σF .ret σ = Q .ret σ := rfl
theorem cut_exit [Lays] {Q : Exit → St → Prop} {σF σ : St} {i : Nat} : cutQ Q σF (.exit i) σ = Q (.exit i) σ := rfl
attribute [go_sem] cut_normal cut_ret cut_exit
end Go.Dw
end
