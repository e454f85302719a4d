/- Helpers of a proof. -/
import Derived.Test.YtnbgonichmcfaaaW25
set_option linter.unusedVariables false
set_option linter.unusedSimpArgs false
section
namespace Go.Dw
open Go.RowKit
mutual
def D.sh : D → D
  | .top => .top
  | .c x => .c x
  | .agg cs => .agg (D.shs cs)
  | .tup cs => .tup (D.shs cs)
  | .box k off => .box (k + 1000) off
  | .own k => .own (k + 1000)
  | .elo k n i off => .elo (k + 1000) n i off
  | .win k n lo hi => .win (k + 1000) n lo hi
  | .fn f fs caps => .fn f (D.shs fs) (D.shs caps)
  | .hd k => .hd (k + 1000)
def D.shs : List D → List D
  | [] => []
  | d :: ds => D.sh d :: D.shs ds
end
def Blk.sh : Blk → Blk
  | .box cs => .box (D.shs cs)
  | .row n es => .row n (es.map D.shs)
  | .lp o v tm => .lp o v (tm.map fun p => (p.1, p.2.sh))
  | .map ks ds => .map ks (D.shs ds)
  | .pmap l ks ds => .pmap l ks (D.shs ds)
  | .pbox l ds => .pbox l (D.shs ds)
def shl (bx : List (Nat × Blk)) : List (Nat × Blk) := bx.map fun p => (p.1 + 1000, p.2.sh)
def Gh.sh (G : Gh) : Gh := ⟨fun k => G.β (k + 1000), fun k => G.γ (k + 1000)⟩
section
variable {w : World} {A : Bool → Nat → Prop} {G : Gh}
mutual
theorem RepD_sh : ∀ (d : D) (y : Value), RepD w A G d.sh y ↔ RepD w A G.sh d y
  | .top, _ => Iff.rfl
  | .c _, _ => Iff.rfl
  | .agg cs, y => by
    simp only [D.sh, RepD]
    exact exists_congr fun ys => and_congr_right fun _ => RepDs_sh cs _
  | .tup cs, y => by
    simp only [D.sh, RepD]
    exact exists_congr fun ys => and_congr_right fun _ => RepDs_sh cs _
  | .box k off, _ => Iff.rfl
  | .own k, _ => Iff.rfl
  | .elo k n i off, _ => Iff.rfl
  | .win k n lo hi, _ => Iff.rfl
  | .hd k, _ => Iff.rfl
  | .fn f fs caps, y => by
    simp only [D.sh, RepD]
    exact exists_congr fun x1 => exists_congr fun x2 => and_congr_right fun _ => and_congr (RepDs_sh fs _) (RepDs_sh caps _)
theorem RepDs_sh : ∀ (ds : List D) (ys : List Value), RepDs w A G (D.shs ds) ys ↔ RepDs w A G.sh ds ys
  | [], _ => Iff.rfl
  | d :: ds, l => by
    simp only [D.shs, RepDs]
    exact exists_congr fun y => exists_congr fun ys => and_congr_right fun _ => and_congr (RepD_sh d y) (RepDs_sh ds ys)
end
end
theorem shs_map : ∀ ds : List D, D.shs ds = ds.map D.sh
  | [] => rfl
  | d :: ds => by simp [D.shs, shs_map ds]
theorem shs_length [Lays] (ds : List D) : (D.shs ds).length = ds.length := by simp [shs_map]
theorem shs_flat [Lays] (es : List (List D)) : (es.map D.shs).flatten = D.shs es.flatten := by
  rw [shs_map, List.map_flatten]
  congr 1
  exact List.map_congr_left fun e _ => shs_map e
theorem RepB_sh [Lays] {w : World} {A : Bool → Nat → Prop} {G : Gh} {k : Nat} (x : Blk) : RepB w A G (k + 1000) x.sh ↔ RepB w A G.sh k x := by
  cases x with
  | box cs =>
    simp only [Blk.sh, RepB]
    refine exists_congr fun b => exists_congr fun arr => exists_congr fun E => and_congr Iff.rfl (and_congr_right fun _ => RepDs_sh cs _)
  | map ks ds =>
    simp only [Blk.sh, RepB]
    refine exists_congr fun b => exists_congr fun ents => exists_congr fun clk => and_congr Iff.rfl (and_congr_right fun _ => and_congr_right fun _ => RepDs_sh ds _)
  | pmap l ks ds =>
    simp only [Blk.sh, RepB]
    refine exists_congr fun b => exists_congr fun ents => exists_congr fun clk => and_congr Iff.rfl (and_congr_right fun _ => and_congr_right fun _ => RepDs_sh ds _)
  | pbox l ds =>
    simp only [Blk.sh, RepB]
    refine exists_congr fun b => exists_congr fun arr => exists_congr fun E => and_congr Iff.rfl (and_congr_right fun _ => RepDs_sh ds _)
  | row n es =>
    simp only [Blk.sh, RepB, List.length_map, shs_flat, List.map_eq_nil_iff]
    refine and_congr ?_ (or_congr Iff.rfl (exists_congr fun b => exists_congr fun arr => exists_congr fun E => exists_congr fun cap => and_congr Iff.rfl (and_congr_right fun _ => and_congr Iff.rfl (and_congr_right fun _ => and_congr_right fun _ => RepDs_sh _ _))))
    simp only [List.mem_map, forall_exists_index, and_imp, forall_apply_eq_imp_iff₂, shs_length]
  | lp o v tm =>
    simp only [Blk.sh, RepB, List.mem_map]
    refine and_congr Iff.rfl ⟨fun h p hp => (RepD_sh _ _).1 (h _ ⟨p, hp, rfl⟩), ?_⟩
    rintro h _ ⟨p, hp, rfl⟩
    exact (RepD_sh _ _).2 (h p hp)
theorem get_shl (k : Nat) : ∀ bx : List (Nat × Blk), get (k + 1000) (shl bx) = (get k bx).map Blk.sh
  | [] => rfl
  | p :: l => by
    have ih := get_shl k l
    simp only [shl] at ih
    simp only [shl, List.map_cons, get, ih]
    by_cases h : k = p.1
    · rw [if_pos (by omega), if_pos h]; rfl
    · rw [if_neg (by omega), if_neg h]
theorem get_shl_lo {k : Nat} (hk : k < 1000) : ∀ bx : List (Nat × Blk), get k (shl bx) = none
  | [] => rfl
  | p :: l => by
    have ih := get_shl_lo hk l
    simp only [shl] at ih
    simp only [shl, List.map_cons, get, ih]
    rw [if_neg (by omega)]
theorem get_shl_some [Lays] {j : Nat} {y : Blk} {bx : List (Nat × Blk)} (h : get j (shl bx) = some y) : ∃ k x, j = k + 1000 ∧ get k bx = some x ∧ y = x.sh := by
  rcases Nat.lt_or_ge j 1000 with hj | hj
  · rw [get_shl_lo hj] at h; cases h
  · obtain ⟨k, rfl⟩ : ∃ k, j = k + 1000 := ⟨j - 1000, by omega⟩
    rw [get_shl] at h
    obtain ⟨x, hx, rfl⟩ := Option.map_eq_some_iff.1 h
    exact ⟨k, x, rfl, hx, rfl⟩
theorem owned_shl [Lays] {G : Gh} {bx : List (Nat × Blk)} {b : Nat} : owned G (shl bx) b ↔ owned G.sh bx b := by
  constructor
  · rintro ⟨j, y, hj, hb⟩
    obtain ⟨k, x, rfl, hx, rfl⟩ := get_shl_some hj
    exact ⟨k, x, hx, hb⟩
  · rintro ⟨k, x, hx, hb⟩
    exact ⟨k + 1000, x.sh, by rw [get_shl, hx]; rfl, hb⟩
mutual
theorem men_sh (k : Nat) : ∀ d : D, d.sh.men (k + 1000) = d.men k
  | .top => rfl
  | .c _ => rfl
  | .agg cs => mens_sh k cs
  | .tup cs => mens_sh k cs
  | .box j _ => by rw [Bool.eq_iff_iff]; simp only [D.sh, D.men, beq_iff_eq]; omega
  | .own j => by rw [Bool.eq_iff_iff]; simp only [D.sh, D.men, beq_iff_eq]; omega
  | .elo j _ _ _ => by rw [Bool.eq_iff_iff]; simp only [D.sh, D.men, beq_iff_eq]; omega
  | .win j _ _ _ => by rw [Bool.eq_iff_iff]; simp only [D.sh, D.men, beq_iff_eq]; omega
  | .hd j => by rw [Bool.eq_iff_iff]; simp only [D.sh, D.men, beq_iff_eq]; omega
  | .fn _ fs caps => by simp only [D.sh, D.men, mens_sh k fs, mens_sh k caps]
theorem mens_sh (k : Nat) : ∀ ds : List D, D.mens (k + 1000) (D.shs ds) = D.mens k ds
  | [] => rfl
  | d :: ds => by simp only [D.shs, D.mens, men_sh k d, mens_sh k ds]
end
mutual
theorem men_sh_lo {k : Nat} (hk : k < 1000) : ∀ d : D, d.sh.men k = false
  | .top => rfl
  | .c _ => rfl
  | .agg cs => mens_sh_lo hk cs
  | .tup cs => mens_sh_lo hk cs
  | .box j _ => by simp only [D.sh, D.men, beq_eq_false_iff_ne]; omega
  | .own j => by simp only [D.sh, D.men, beq_eq_false_iff_ne]; omega
  | .elo j _ _ _ => by simp only [D.sh, D.men, beq_eq_false_iff_ne]; omega
  | .win j _ _ _ => by simp only [D.sh, D.men, beq_eq_false_iff_ne]; omega
  | .hd j => by simp only [D.sh, D.men, beq_eq_false_iff_ne]; omega
  | .fn _ fs caps => by simp only [D.sh, D.men, mens_sh_lo hk fs, mens_sh_lo hk caps, Bool.or_self]
theorem mens_sh_lo {k : Nat} (hk : k < 1000) : ∀ ds : List D, D.mens k (D.shs ds) = false
  | [] => rfl
  | d :: ds => by simp only [D.shs, D.mens, men_sh_lo hk d, mens_sh_lo hk ds, Bool.or_self]
end
theorem bmen_sh [Lays] (k : Nat) (x : Blk) : x.sh.men (k + 1000) = x.men k := by
  cases x with
  | box cs => exact mens_sh k cs
  | map ks cs => exact mens_sh k cs
  | pmap l ks cs => exact mens_sh k cs
  | pbox l cs => exact mens_sh k cs
  | row n es => simp only [Blk.sh, Blk.men, List.any_map]; congr 1; funext e; exact mens_sh k e
  | lp o v tm => simp only [Blk.sh, Blk.men, List.any_map]; congr 1; funext e; exact men_sh k e.2
theorem bmen_sh_lo [Lays] {k : Nat} (hk : k < 1000) (x : Blk) : x.sh.men k = false := by
  cases x with
  | box cs => exact mens_sh_lo hk cs
  | map ks cs => exact mens_sh_lo hk cs
  | pmap l ks cs => exact mens_sh_lo hk cs
  | pbox l cs => exact mens_sh_lo hk cs
  | row n es => simp only [Blk.sh, Blk.men, List.any_map, List.any_eq_false]; intro e _; simp [Function.comp, mens_sh_lo hk e]
  | lp o v tm => simp only [Blk.sh, Blk.men, List.any_map, List.any_eq_false]; intro e _; simp [Function.comp, men_sh_lo hk e.2]
mutual
theorem nb_sh : ∀ d : D, d.nb = true → d.sh.nb = true
  | .top, _ => rfl
  | .c _, h => h
  | .agg cs, h => nbs_sh cs h
  | .tup cs, h => nbs_sh cs h
  | .box _ _, h => h
  | .own _, h => h
  | .elo _ _ _ _, h => h
  | .win _ _ _ _, h => h
  | .hd _, h => h
  | .fn _ fs caps, h => by
    simp only [D.nb, Bool.and_eq_true] at h
    simp only [D.sh, D.nb, nbs_sh fs h.1, nbs_sh caps h.2, Bool.and_self]
theorem nbs_sh : ∀ ds : List D, D.nbs ds = true → D.nbs (D.shs ds) = true
  | [], _ => rfl
  | d :: ds, h => by
    simp only [D.nbs, Bool.and_eq_true] at h
    simp only [D.shs, D.nbs, nb_sh d h.1, nbs_sh ds h.2, Bool.and_self]
end
theorem bnb_sh [Lays] (x : Blk) (h : x.nb = true) : x.sh.nb = true := by
  cases x with
  | box cs => exact nbs_sh cs h
  | map ks cs => exact nbs_sh cs h
  | pmap l ks cs => exact nbs_sh cs h
  | pbox l cs => exact nbs_sh cs h
  | row n es =>
    simp only [Blk.nb, List.all_eq_true] at h
    simp only [Blk.sh, Blk.nb, List.all_map, List.all_eq_true]
    exact fun e he => nbs_sh e (h e he)
  | lp o v tm =>
    simp only [Blk.nb, List.all_eq_true] at h
    simp only [Blk.sh, Blk.nb, List.all_map, List.all_eq_true]
    exact fun e he => nb_sh e.2 (h e he)
end Go.Dw
end
