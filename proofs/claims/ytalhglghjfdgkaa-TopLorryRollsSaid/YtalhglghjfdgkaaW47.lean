/- Helpers of a proof. -/
import Derived.Test.YtalhglghjfdgkaaW46
set_option linter.unusedVariables false
set_option linter.unusedSimpArgs false
section
set_option linter.unusedSimpArgs false
namespace Go.Dw
open Go.RowKit
variable {P : Program} {nt : Nat} {tm : List (Nat × D)} {bx : List (Nat × Blk)}
def rpB (k : Nat) (p : RowAt) : Blk → Blk
  | .box cs => .box (rpDs k p cs)
  | .row n es => .row n (es.map (rpDs k p))
  | .lp o v tm => .lp o v (tm.map fun q => (q.1, rpD k p q.2))
  | .map ks ds => .map ks (rpDs k p ds)
  | .pmap l' ks ds => .pmap l' ks (rpDs k p ds)
  | .pbox l' ds => .pbox l' (rpDs k p ds)
def rpX (k : Nat) (p : RowAt) : List (Nat × Blk) → List (Nat × Blk)
  | [] => []
  | q :: r => (q.1, rpB k p q.2) :: rpX k p r
theorem get_rpX {k : Nat} {p : RowAt} {t : Nat} : ∀ {r : List (Nat × Blk)}, get t (rpX k p r) = (get t r).map (rpB k p)
  | [] => rfl
  | q :: r => by
    simp only [rpX, get]
    split
    · rfl
    · exact get_rpX
theorem rpDs_map (k : Nat) (p : RowAt) : ∀ ds : List D, rpDs k p ds = ds.map (rpD k p)
  | [] => rfl
  | d :: ds => by simp [rpDs, rpDs_map k p ds]
theorem rpDs_flat (k : Nat) (p : RowAt) (es : List (List D)) : (es.map (rpDs k p)).flatten = rpDs k p es.flatten := by
  rw [rpDs_map, List.map_flatten]
  congr 1
  exact List.map_congr_left fun e _ => rpDs_map k p e
theorem rpB_to {w : World} {G : Gh} {A : Bool → Nat → Prop} {k : Nat} {p : RowAt} (hg : G.γ k = p.v) {j : Nat} (x : Blk) (h : RepB w A G j x) : RepB w A G j (rpB k p x) := by
  cases x with
  | lp o v tm =>
    refine ⟨h.1, fun q hq => ?_⟩
    obtain ⟨q', hq', rfl⟩ := List.mem_map.1 hq
    exact rpD_to hg _ _ (h.2 q' hq')
  | box cs =>
    obtain ⟨b, arr, E, h1, h2, h3⟩ := h
    exact ⟨b, arr, E, h1, h2, rpDs_to hg cs _ h3⟩
  | map ks ds =>
    obtain ⟨b, ents, clk, h1, h2, h4, h3⟩ := h
    exact ⟨b, ents, clk, h1, h2, h4, rpDs_to hg ds _ h3⟩
  | pmap l' ks ds =>
    obtain ⟨b, ents, clk, h1, h2, h4, h3⟩ := h
    exact ⟨b, ents, clk, h1, h2, h4, rpDs_to hg ds _ h3⟩
  | pbox l' ds =>
    obtain ⟨b, arr, E, h1, h2, h3⟩ := h
    exact ⟨b, arr, E, h1, h2, rpDs_to hg ds _ h3⟩
  | row n es =>
    obtain ⟨h0, h1⟩ := h
    refine ⟨fun e he => ?_, ?_⟩
    · obtain ⟨e', he', rfl⟩ := List.mem_map.1 he
      rw [rpDs_map, List.length_map]; exact h0 e' he'
    · rcases h1 with ⟨rfl, h2⟩ | ⟨b, arr, E, cap, h1, h2, h3, h4, h5, h6⟩
      · exact .inl ⟨rfl, h2⟩
      · refine .inr ⟨b, arr, E, cap, h1, h2, by rw [List.length_map]; exact h3, by rw [List.length_map]; exact h4, h5, ?_⟩
        rw [List.length_map, rpDs_flat]
        exact rpDs_to hg _ _ h6
theorem Inv.pinRow [Lays] {N O0 : Nat → Prop} {w0 w : World} {a : Act} {k n : Nat} {es : List (List D)} (hne : es ≠ []) (hk : get k bx = some (.row n es)) (h : Inv N O0 w0 ⟨nt, tm, bx⟩ a w) :
    ∃ p : { p : RowAt // p.ok n es }, Inv N O0 w0 ⟨nt, rpT k p.1 tm, (k, p.1.blk es) :: rpX k p.1 (del k bx)⟩ a w := by
  obtain ⟨G, h⟩ := h
  obtain ⟨hlen, ⟨hnil, _⟩ | ⟨b, arr, E, cap, hb, hheap, hγ, hcap, hsz, hrep⟩⟩ := h.rep k (.row n es) hk
  · exact absurd hnil hne
  have hal : arr.toList.length = cap * n := hsz
  have hle : es.length * n ≤ arr.toList.length := by
    rw [hal]; exact Nat.mul_le_mul_right _ hcap
  refine ⟨⟨⟨b, es.length, cap, (arr.toList.drop (es.length * n)).length⟩, ⟨rfl, hcap, by dsimp only; rw [List.length_drop, hal]; rw [hal] at hle; omega⟩⟩, G, ?_⟩
  dsimp only
  obtain ⟨p, hp⟩ : ∃ p : RowAt, p = ⟨b, es.length, cap, (arr.toList.drop (es.length * n)).length⟩ := ⟨_, rfl⟩
  rw [← hp]
  have hv : G.γ k = p.v := by rw [hγ, hp]; rfl
  have hg : ∀ j x, get j ((k, p.blk es) :: rpX k p (del k bx)) = some x → (j = k ∧ x = p.blk es) ∨ (j ≠ k ∧ ∃ y, get j bx = some y ∧ x = rpB k p y) := fun j x hj => by
    simp only [get] at hj
    split at hj
    · rename_i e; cases hj; exact .inl ⟨e, rfl⟩
    · rename_i e
      rw [get_rpX, get_del, if_neg e] at hj
      simp only [Option.map_eq_some_iff] at hj
      obtain ⟨y, hy, rfl⟩ := hj
      exact .inr ⟨e, y, hy, rfl⟩
  have hin : ∀ j x, get j ((k, p.blk es) :: rpX k p (del k bx)) = some x → ∃ y, get j bx = some y := fun j x hj => by
    rcases hg j x hj with ⟨rfl, _⟩ | ⟨_, y, hj, _⟩
    · exact ⟨_, hk⟩
    · exact ⟨_, hj⟩
  have ho : ∀ c, owned G ((k, p.blk es) :: rpX k p (del k bx)) c ↔ owned G bx c := fun c => by
    constructor
    · rintro ⟨j, x, hj, hc⟩
      obtain ⟨y, hy⟩ := hin j x hj
      exact ⟨j, y, hy, hc⟩
    · rintro ⟨j, x, hj, hc⟩
      by_cases e : j = k
      · subst e; exact ⟨j, p.blk es, by simp [get], hc⟩
      · exact ⟨j, rpB k p x, by simp only [get, if_neg e]; rw [get_rpX, get_del, if_neg e, hj]; rfl, hc⟩
  have hA : Av N G ((k, p.blk es) :: rpX k p (del k bx)) = Av N G bx := by
    funext bw c
    simp only [Av, ho]
  exact {
    rep := fun j x hj => by
      show RepB w (Av N G ((k, p.blk es) :: rpX k p (del k bx))) G j x
      rw [hA]
      rcases hg j x hj with ⟨rfl, rfl⟩ | ⟨_, y, hj2, rfl⟩
      · have h2 := hrep.append (RepDs.tops (w := w) (A := Av N G bx) (G := G) (arr.toList.drop (es.length * n)))
        rw [List.take_append_drop] at h2
        rw [hp]
        exact ⟨b, arr, E, ⟨hb, rfl⟩, hheap, h2⟩
      · exact rpB_to hv y (h.rep j y hj2)
    inj := fun j j' z z' c hj hj' => by
      obtain ⟨y, hy⟩ := hin j z hj
      obtain ⟨y', hy'⟩ := hin j' z' hj'
      exact h.inj j j' y y' c hy hy'
    own := fun c hc => h.own c ((ho c).1 hc)
    tm := fun t d hd => by
      show ∃ y, _ ∧ RepD w (Av N G ((k, p.blk es) :: rpX k p (del k bx))) G d y
      rw [hA]
      change get t (rpT k p tm) = some d at hd
      rw [get_rpT] at hd
      simp only [Option.map_eq_some_iff] at hd
      obtain ⟨d1, hd1, rfl⟩ := hd
      obtain ⟨y, hy, hr⟩ := h.tm t d1 hd1
      exact ⟨y, hy, rpD_to hv d1 y hr⟩
    nt := h.nt
    df := h.df
    fr := h.fr
    nlt := h.nlt
    odis := h.odis
    laid := h.laid }
theorem DW.pinRow [Lays] {s : SC} {Q : Exit → St → Prop} (k : Nat) {n : Nat} {es : List (List D)} (hne : es ≠ []) (hk : get k bx = some (.row n es)) (h : ∀ p : RowAt, p.ok n es → DW P s Q ⟨nt, rpT k p tm, (k, p.blk es) :: rpX k p (del k bx)⟩) : DW P s Q ⟨nt, tm, bx⟩ :=
  fun c hc N O0 w0 a w rd m Qm hi hq => by
    obtain ⟨p, hl⟩ := hi.pinRow hne hk
    exact h p.1 p.2 c hc N O0 w0 a w rd m Qm hl hq
theorem DW.places [Lays] {s : SC} {Q : Exit → St → Prop} (i j : Nat) {l l' : Nat} {ds ds' : List D} (hij : i ≠ j) (hi : get i bx = some (.pbox l ds)) (hj : get j bx = some (.pbox l' ds')) (h : l ≠ l' → DW P s Q ⟨nt, tm, bx⟩) : DW P s Q ⟨nt, tm, bx⟩ :=
  fun c hc N O0 w0 a w rd m Qm hv hq => by
    refine h (fun e => hij ?_) c hc N O0 w0 a w rd m Qm hv hq
    obtain ⟨G, hcore⟩ := hv
    obtain ⟨b, _, _, ⟨h1, h2⟩, _⟩ := hcore.rep i _ hi
    obtain ⟨b', _, _, ⟨h3, h4⟩, _⟩ := hcore.rep j _ hj
    subst e
    subst h2
    subst h4
    exact hcore.inj i j _ _ _ hi hj h1 h3
attribute [go_sem] rpX rpB
end Go.Dw
end
