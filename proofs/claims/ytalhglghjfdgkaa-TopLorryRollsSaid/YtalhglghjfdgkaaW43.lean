/- Helpers of a proof. -/
import Derived.Test.YtalhglghjfdgkaaW42
set_option linter.unusedVariables false
set_option linter.unusedSimpArgs false
section
set_option linter.unusedSimpArgs false
namespace Go.Dw
open Go.RowKit
variable {P : Program} {σ σ' : St}
mutual
theorem men_pl {k : Nat} : ∀ {d : D}, d.pl = true → d.men k = false
  | .top, _ => rfl
  | .c _, _ => rfl
  | .agg cs, h => mens_pl (ds := cs) h
  | .tup cs, h => mens_pl (ds := cs) h
  | .box _ _, h => by cases h
  | .own _, h => by cases h
  | .elo _ _ _ _, h => by cases h
  | .win _ _ _ _, h => by cases h
  | .fn _ _ _, h => by cases h
  | .hd _, h => by cases h
theorem mens_pl {k : Nat} : ∀ {ds : List D}, D.pls ds = true → D.mens k ds = false
  | [], _ => rfl
  | d :: ds, h => by
    simp only [D.pls, Bool.and_eq_true] at h
    simp only [D.mens, men_pl h.1, mens_pl h.2]; rfl
end
theorem okRes_map [Lays] {k : Nat} {ks : List Value} {ds : List D} (h : D.pls ds = true) : okRes (.hd k) [(k, .map ks ds)] := by
  refine ⟨fun j hj => ?_, fun j x hj i _ => ?_⟩
  · simp only [get] at hj
    simp only [D.men, beq_eq_false_iff_ne]
    rintro rfl
    simp at hj
  · simp only [get] at hj
    split at hj
    · cases hj; exact mens_pl h
    · cases hj
theorem DCall.renameM [Lays] {f : FuncId} {as : List D} {bi : List (Nat × Blk)} {k0 : Nat} {ks : List Value} {ds : List D} (hp : D.pls ds = true) (h : DCall P f as bi (.hd k0) [(k0, .map ks ds)]) (k : Nat) : DCall P f as bi (.hd k) [(k, .map ks ds)] := by
  refine ⟨h.1, okRes_map hp, fun N G w vs hN hd hh has => ?_⟩
  refine Calls.mono (h.2.2 N G w vs hN hd hh has) ?_
  rintro e w' ⟨G', v, rfl, hok, hr, hfr, hfo⟩
  let G2 : Gh := G'.set k (G'.β k0) (G'.γ k0)
  have hown : ∀ b, owned G2 [(k, .map ks ds)] b ↔ owned G' [(k0, .map ks ds)] b := by
    intro b
    constructor
    · rintro ⟨j, x, hj, hb⟩
      simp only [get] at hj
      split at hj
      · rename_i e; subst e
        exact ⟨k0, .map ks ds, by simp [get], by simpa [G2, Gh.set] using hb⟩
      · cases hj
    · rintro ⟨j, x, hj, hb⟩
      simp only [get] at hj
      split at hj
      · rename_i e; subst e
        exact ⟨k, .map ks ds, by simp [get], by simpa [G2, Gh.set] using hb⟩
      · cases hj
  have hA : AvR N G2 [(k, .map ks ds)] = AvR N G' [(k0, .map ks ds)] := by
    funext bw b
    simp only [AvR, hown]
  refine ⟨G2, v, rfl, ?_, ?_, hfr, fun b hb => hfo b ((hown b).1 hb)⟩
  · rw [hA]
    exact {
      rep := fun j x hj => by
        simp only [get] at hj
        split at hj
        · rename_i e; subst e; cases hj
          have := hok.rep k0 (.map ks ds) (by simp [get])
          obtain ⟨b, ents, clk, h1, h2, h3, h4⟩ := this
          exact ⟨b, ents, clk, by simpa [G2, Gh.set] using h1, h2, h3, RepDs.pl _ _ hp h4⟩
        · cases hj
      inj := fun j j' x x' b hj hj' _ _ => by
        simp only [get] at hj hj'
        split at hj
        · split at hj'
          · omega
          · cases hj'
        · cases hj
      lt := fun b hb => hok.lt b ((hown b).1 hb)
      laid := hok.laid }
  · rw [hA]
    obtain ⟨b, h1, h2⟩ := hr
    exact ⟨b, by simpa [G2, Gh.set] using h1, h2⟩
theorem kill_hid [Lays] {h : List (Nat × Blk)} (hh : HidOk h) (k : Nat) (hk : k < 1000) : (h.map fun p => (p.1, killB k p.2)) = h := bx_kill_of fun p hp => by
  have := hh.men k hk
  rw [List.any_eq_false] at this
  simpa using this p hp
end Go.Dw
end
