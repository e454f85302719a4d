/- Helpers of a proof. -/
import Derived.Test.YtimgcfmeakekbaaW41
set_option linter.unusedVariables false
set_option linter.unusedSimpArgs false
section
set_option linter.unusedSimpArgs false
namespace Go.Dw
open Go.RowKit
variable {P : Program} {nt : Nat} {tm : List (Nat × D)} {bx : List (Nat × Blk)}
theorem RepDs.tops {w : World} {A : Bool → Nat → Prop} {G : Gh} : ∀ (ys : List Value), RepDs w A G (List.replicate ys.length .top) ys
  | [] => rfl
  | y :: ys => ⟨y, ys, rfl, trivial, RepDs.tops ys⟩
theorem RepDs.split {w : World} {A : Bool → Nat → Prop} {G : Gh} : ∀ {ds es : List D} {ys : List Value}, RepDs w A G (ds ++ es) ys → ∃ y1 y2, ys = y1 ++ y2 ∧ RepDs w A G ds y1 ∧ RepDs w A G es y2
  | [], _, ys, h => ⟨[], ys, rfl, rfl, h⟩
  | d :: ds, es, _, h => by
    obtain ⟨y, ys, rfl, h1, h2⟩ := h
    obtain ⟨y1, y2, rfl, h3, h4⟩ := RepDs.split h2
    exact ⟨y :: y1, y2, rfl, ⟨y, y1, rfl, h1, h3⟩, h4⟩
theorem DCall.lend [Lays] {f : FuncId} {pre : List D} {k n : Nat} (k0 : Nat) {es : List (List D)} {r : D} (hne : es ≠ []) (hr : ∀ j, r.men j = false) (hp : ∀ j, D.mens j pre = false) (hes : ∀ j, D.mens j es.flatten = false)
    (h : ∀ l cap m, ∃ x, DCall P f (pre ++ [.c (.v (.slice (some ⟨l, 0, none⟩) es.length cap))]) [(k0, .pbox l (es.flatten ++ List.replicate m .top))] r [(k0, x)]) : DCall P f (pre ++ [.own k]) [(k, .row n es)] r [] := by
  obtain ⟨x0, hb0, _, _⟩ := h 0 0 0
  refine ⟨hb0, okRes_nil hr, fun N G w vs hN hd hh hvs => ?_⟩
  obtain ⟨hlen, ⟨hnil, _⟩ | ⟨b, arr, E, cap, hb, hheap, hγ, hcap, hsz, hrep⟩⟩ := hh.rep k (.row n es) (by simp [get])
  · exact absurd hnil hne
  obtain ⟨x, _, _, hc⟩ := h b cap (arr.toList.drop (es.length * n)).length
  obtain ⟨X, hX⟩ : ∃ X, X = Blk.pbox b (es.flatten ++ List.replicate (arr.toList.drop (es.length * n)).length .top) := ⟨_, rfl⟩
  rw [← hX] at hc
  let G2 : Gh := G.set k0 (G.β k) (G.γ k)
  have hβ : G2.β k0 = some b := by simpa [G2, Gh.set] using hb
  have hown : owned G2 [(k0, X)] = owned G [(k, .row n es)] := by
    funext c
    apply propext
    rw [owned_one, owned_one, hβ, hb]
  have hA : Av N G2 [(k0, X)] = Av N G [(k, .row n es)] := by
    funext bw c
    simp only [Av, hown]
  have mono : ∀ ds ys, (∀ j, D.mens j ds = false) → RepDs w (Av N G [(k, .row n es)]) G ds ys → RepDs w (Av N G2 [(k0, X)]) G2 ds ys := fun ds ys hm hr => by
    rw [hA]
    exact RepDs.mono (Keeps.refl _ _) (fun _ => True) (fun k hk => absurd trivial hk) _ ys (fun j _ => hm j) hr
  have hrow : RepB w (Av N G2 [(k0, X)]) G2 k0 X := by
    have h2 := (mono _ _ hes hrep).append (RepDs.tops (w := w) (A := Av N G2 [(k0, X)]) (G := G2) (arr.toList.drop (es.length * n)))
    rw [List.take_append_drop] at h2
    generalize Av N G2 [(k0, X)] = A at *
    rw [hX]
    exact ⟨b, arr, E, ⟨hβ, rfl⟩, hheap, h2⟩
  obtain ⟨y1, y2, rfl, hp1, y, ys, rfl, hy, rfl⟩ := RepDs.split hvs
  have hyv : y = .slice (some ⟨b, 0, none⟩) es.length cap := by rw [hy.1, hγ]
  subst hyv
  have := hc N G2 w (y1 ++ [.slice (some ⟨b, 0, none⟩) es.length cap]) hN (fun c hc => hd c (by rw [← hown]; exact hc)) {
    rep := fun j z hj => by
      simp only [get] at hj
      split at hj
      · rename_i e; subst e; cases hj; exact hrow
      · cases hj
    inj := fun j j' z z' c hj hj' _ _ => by
      simp only [get] at hj hj'
      split at hj
      · split at hj'
        · rename_i e1 e2; rw [e1, e2]
        · cases hj'
      · cases hj
    lt := fun c hc => hh.lt c (by rw [← hown]; exact hc)
    laid := by rw [hA]; exact hh.laid } ((mono _ _ hp hp1).append ⟨_, [], rfl, ⟨rfl, rfl⟩, rfl⟩)
  rw [hown] at this
  refine Calls.mono this ?_
  rintro e w' ⟨G', v, rfl, hheap', hv, hfr, _⟩
  have hsub : ∀ bw c, AvR N G' [] bw c → AvR N G' [(k0, x)] bw c := by
    rintro bw c (h1 | ⟨j, z, hj, _⟩ | h1)
    · exact .inl h1
    · cases hj
    · exact .inr (.inr h1)
  exact ⟨G', v, rfl, ⟨fun j z hj => (by cases hj), fun j j' z z' c hj => (by cases hj), fun c ⟨j, z, hj, _⟩ => (by cases hj), hheap'.laid.sub fun c hc => hsub false c hc⟩,
    RepD.keep ⟨Nat.le_refl _, fun bw c _ hn ha => hn (hsub bw c ha), fun _ _ _ _ _ => rfl⟩ r v hv, hfr, fun c ⟨j, z, hj, _⟩ => (by cases hj)⟩
theorem call_l [Lays] (k : Nat) {Q : St → Prop} {l : List SO} {d : Tmp} {f : Operand} {args : Array Operand} {tys : Array TypeId} {g : FuncId} {fs caps as : List D} {r : D} {y : Blk} {o : Option (FuncId × List D)}
    (hc : DCall P g as [(k, y)] r []) (hk : get k bx = some y) (hce : calleeD (St.op ⟨nt, tm, bx⟩ f) = some (g, fs, caps)) (hcl : closeDs ⟨nt, tm, bx⟩ (some k) (fs ++ args.toList.map (St.op ⟨nt, tm, bx⟩) ++ caps) = some as)
    (hd : d < nt) (h : opsS P false Q l ⟨nt, ins d r (tm.map fun p => (p.1, killD k p.2)), del k (bx.map fun p => (p.1, killB k p.2))⟩) : opsC P false Q l d f args tys ⟨nt, tm, bx⟩ o := fun _ => by
  have hr : St.rowsOf ⟨nt, tm, bx⟩ (some k) = [(k, y)] := by simp only [St.rowsOf, hk]
  exact o_call (mv := some k) (bo := []) (by rw [hr]; exact hc) hce hcl trivial (fun e => by cases e) (fun t ht => by cases ht; exact hd) h
def opsN [Lays] (P : Program) (Q : St → Prop) (l : List SO) (d : Tmp) (f : Operand) (args : Array Operand) (tys : Array TypeId) (σ0 : St) : Prop :=
  ∀ nt tm bx o, σ0.nt = nt → Ent ⟨nt, tm, bx⟩ σ0 → opsC P false Q l d f args tys ⟨nt, tm, bx⟩ o
section
variable {Q : St → Prop} {l : List SO} {d : Tmp} {f : Operand} {args : Array Operand} {tys : Array TypeId} {g : FuncId} {fs caps as : List D} {r : D}
theorem call_rel [Lays] (k : Nat) {y : Blk} {o : Option (FuncId × List D)} (hk : get k bx = some y) (h : opsN P Q l d f args tys ⟨nt, relT k y tm, relX k y bx⟩) : opsC P false Q l d f args tys ⟨nt, tm, bx⟩ o :=
  h nt tm bx o rfl (Ent.rel k hk)
theorem opsN.rel [Lays] (k : Nat) {y : Blk} (hk : get k bx = some y) (h : opsN P Q l d f args tys ⟨nt, relT k y tm, relX k y bx⟩) : opsN P Q l d f args tys ⟨nt, tm, bx⟩ :=
  fun nt' tm' bx' o e he => h nt' tm' bx' o e (he.trans (Ent.rel k hk))
theorem opsN.c [Lays] (hc : DCall P g as [] r []) (hce : calleeD (St.op ⟨nt, tm, bx⟩ f) = some (g, fs, caps)) (hcl : closeDs ⟨nt, tm, bx⟩ none (fs ++ args.toList.map (St.op ⟨nt, tm, bx⟩) ++ caps) = some as)
    (hd : d < nt) (h : opsS P false Q l ⟨nt, ins d r tm, bx⟩) : opsN P Q l d f args tys ⟨nt, tm, bx⟩ := fun nt' tm' bx' o e he => by
  cases e
  exact call_e he hc hce hcl hd h
theorem opsN.hk [Lays] (k : Nat) {x x' : Blk} (hc : DCall P g as [(k, x)] r [(k, x')]) (hk : get k bx = some x) (hce : calleeD (St.op ⟨nt, tm, (k, x) :: del k bx⟩ f) = some (g, fs, caps))
    (hcl : closeDs ⟨nt, tm, del k bx⟩ none (fs ++ args.toList.map (St.op ⟨nt, tm, (k, x) :: del k bx⟩) ++ caps) = some as)
    (hm : menS k tm (del k bx) = false) (hd : d < nt) (hQ : opsS P false Q l ⟨nt, ins d r tm, (k, x') :: del k bx⟩) : opsN P Q l d f args tys ⟨nt, tm, bx⟩ := fun nt' tm' bx' o e he => by
  cases e
  have hkd : get k (del k bx) = none := by rw [get_del, if_pos rfl]
  refine call_h (h := [(k, x)]) (h' := [(k, x')]) (own := del k bx) hc (he.trans (Ent.ofGet fun j y hj => ?_)) hce hcl ?_ ?_ hd hQ
  · simp only [List.cons_append, List.nil_append, Dw.get, get_del] at hj
    split at hj
    · rename_i e; cases hj; rw [e]; exact hk
    · rename_i e; simpa [e] using hj
  · simp only [apartB, List.all_eq_true]
    intro p hp
    simp only [Dw.get]
    split
    · rename_i e
      exfalso
      have : ∀ l : List (Nat × Blk), ∀ q ∈ del k l, q.1 ≠ k := by
        intro l
        induction l with
        | nil => intro q hq; cases hq
        | cons a l ih =>
          intro q hq
          simp only [del] at hq
          split at hq
          · exact ih q hq
          · rename_i hne
            rcases List.mem_cons.1 hq with rfl | hq
            · exact fun e => hne e.symm
            · exact ih q hq
      exact this bx p hp e
    · rfl
  · simp only [List.all_cons, List.all_nil, Bool.and_true, hkd, hm, Option.isNone_none, Bool.not_false]
end
end Go.Dw
end
