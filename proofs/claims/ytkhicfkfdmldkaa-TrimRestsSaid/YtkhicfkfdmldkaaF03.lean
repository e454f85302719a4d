/- The law TrimRests returns true for every input, and changes nothing that was there before: the full statement TrimRestsSaid, without conditions. -/
import Derived.Test.YtkhicfkfdmldkaaF02
import Derived.Test.YtkhicfkfdmldkaaRows
import Derived.ProofKit
import Derived.OpenShut
set_option linter.unusedVariables false
set_option linter.unusedSimpArgs false
section
set_option linter.unusedSimpArgs false
set_option maxRecDepth 100000
namespace Go.Dw.Seat
open Go Go.Dw Go.Proofs Go.IntWalk
def gI : List TStp → Nat → Int
  | [], _ => 0
  | s :: q, i => ((s.ws[i]?).getD 0) * s.run + gI q i
theorem gI_take {q : List TStp} {k : Nat} {s : TStp} (h : q[k]? = some s) (i : Nat) : gI (q.take (k + 1)) i = gI (q.take k) i + ((s.ws[i]?).getD 0) * s.run := by
  have app : ∀ a b : List TStp, gI (a ++ b) i = gI a i + gI b i := by
    intro a b
    induction a with
    | nil => simp [gI]
    | cons x a ih => rw [List.cons_append, gI, gI, ih]; omega
  rw [List.take_add_one, h, Option.toList_some, app]
  simp [gI]
theorem addG_at : ∀ {G ws : List Int} {r : Int} {i : Nat} {g : Int}, G[i]? = some g → (addG G ws r)[i]? = some (g + ((ws[i]?).getD 0) * r)
  | [], _, _, _, _, h => by simp at h
  | g :: gs, [], r, i, x, h => by rw [addG_nil]; simpa using h
  | g :: gs, n :: ws, r, 0, x, h => by cases h; simp [addG]
  | g :: gs, n :: ws, r, i + 1, x, h => by
    have := addG_at (G := gs) (ws := ws) (r := r) (i := i) (g := x) (by simpa using h)
    simpa [addG] using this
theorem gotF_at : ∀ {q : List TStp} {G : List Int} {i : Nat} {g : Int}, G[i]? = some g → (gotF G q)[i]? = some (g + gI q i)
  | [], _, _, _, h => by simpa [gotF, gI] using h
  | s :: q, G, i, g, h => by
    rw [gotF, gotF_at (addG_at h), gI]
    congr 1; omega
set_option maxHeartbeats 4000000 in
theorem reRest (b1 b2 : Bool) (p : TPap) (l : List TOrd) (hl : l.length ≤ 4) (ho : ∀ o ∈ l, o.ok) (q : List TStp) (hq3 : q.length ≤ 3) (hst : ∀ s ∈ q, StOk p l s) (n : Nat) (s : TStp) (hs : q[n]? = some s) (m : Int) (hm : 0 ≤ m ∧ m ≤ s.run) : DCall Try.prog 55 [papD p, .c (.sl b1 3 (rows eO l)), dSt b2 q, dI n, dI m] [] (.c (.sl false 3 (rows eO (restL l q n m)))) [] := by
  have hn : n < q.length := (List.getElem?_eq_some_iff.1 hs).1
  have hsl := (websE_ok (hst s (List.mem_of_getElem? hs)).web).1
  have hsr := (hst s (List.mem_of_getElem? hs)).run
  have hswl := hsl.len
  have hG : restG l q n m = addG (gotF (zeros l.length) (q.take n)) s.ws m := by rw [restG, hs]; rfl
  have hRL : restL l q n m = List.zipWith lessO l (restG l q n m) := by rw [restL, Int.toNat_natCast]
  have hat : ∀ i u, i < l.length → s.ws[i]? = some u → (restG l q n m)[i]? = some (u * m + gI (q.take n) i) := fun i u hi hu => by
    have hz : (zeros l.length)[i]? = some 0 := by simp [zeros, hi]
    rw [hG, addG_at (gotF_at hz), hu]
    congr 1
    simp only [Option.getD_some]; omega
  rw [hRL]
  clear hRL hG
  generalize restG l q n m = G at *
  refine DCall.of Try.func55 sf55 hb55 (Nat.le_of_ble_eq_true rfl) (okRes_nil fun _ => rfl) ?_; simp only [s55, idxs, Nat.reduceAdd]
  repeat' (first
    | (with_reducible first | refine DW.seq ?_ | refine DW.block ?_ | refine DW.skip ?_ | refine DW.exit ?_ | refine DW.ret ?_ | refine DW.reg ?_)
    | (refine DW.dreg rfl (WF.of ?_) ?_; first | rfl | skip)
    | (simp (disch := omega) only [go_sem, simprocAttr, bm_box, bm_row, bk_box, bk_row])
    | (exact retS_of rfl rfl rfl)
    | (refine DW.cond_tt rfl ?_)
    | (refine DW.cond_ff rfl ?_)
    | (refine DW.cond rfl ?_ ?_ <;> intro hc <;> (try simp only [go_sem] at hc))
    | (refine g_split ?_ ?_ <;> intro hc <;> (try simp only [hc]) <;> (try simp only [go_sem] at hc)))
  refine DW.loop (ι := { i : Nat // i ≤ l.length }) (fun i => ⟨82, [(12, dI i.1), (11, .own 15), (1, .c (.sl b1 3 (rows eO l))), (2, dSt b2 q), (3, dI n), (4, dI m), (10, .c (.v (.slice none 0 0)))], [(15, .row 3 (rowC (rows eO ((List.zipWith lessO l G).take i.1))))]⟩) (fun i => l.length - i.1) ⟨0, Nat.zero_le _⟩ ?_ ?_
  · refine Ent.to ?_ ?_ <;> simp (disch := omega) only [wkT_cons, wkX_cons, wkT_nil, wkX_nil, get, Nat.reduceEqDiff, ↓reduceIte, ex_some, wk_self, wk_top, wk_nil, wkB_self, and_self, dI, i64_in, and_true, true_and, Int.natCast_add, Int.natCast_one, Int.ofNat_zero, Int.natCast_zero, List.take_zero]
    all_goals first | exact ⟨.refl _, .refl _, .refl _⟩ | exact ⟨.refl _, .refl _⟩ | exact .refl _
  rintro ⟨i, hi⟩
  dsimp only
  rcases at_or l i hi with ⟨o, hoi, hlt, hd⟩ | ⟨he, hd⟩
  case inr =>
    have hti : (List.zipWith lessO l G).take i = List.zipWith lessO l G := List.take_of_length_le (by rw [List.length_zipWith]; omega)
    rw [hti]
    repeat' (first
    | (with_reducible first | refine DW.seq ?_ | refine DW.block ?_ | refine DW.skip ?_ | refine DW.exit ?_ | refine DW.ret ?_ | refine DW.reg ?_)
    | (refine DW.dreg rfl (WF.of ?_) ?_; first | rfl | skip)
    | (simp (disch := omega) only [go_sem, simprocAttr, bm_box, bm_row, bk_box, bk_row, hd])
    | (exact retS_of rfl rfl rfl)
    | (refine DW.cond_tt rfl ?_)
    | (refine DW.cond_ff rfl ?_)
    | (refine DW.cond rfl ?_ ?_ <;> intro hc <;> (try simp only [go_sem] at hc))
    | (refine g_split ?_ ?_ <;> intro hc <;> (try simp only [hc]) <;> (try simp only [go_sem] at hc)))
    (refine retS_ent (Ent.rel 15 rfl) ?_; simp (disch := omega) only [go_sem, simprocAttr, bm_box, bm_row, bk_box, bk_row])
    refine retS_wk rfl ?_ (by simp only [Blk.nb, rowC_nb, D.nb, D.nbs, C.nb, C.nbs, C.nbss, rows_nb eI_nb, Bool.and_true, Bool.not_false, Bool.and_self, bD, dI, iD, rows_nb eO_nb, rows_nb eSt_nb, rows_nb eWs_nb]); exact .refl _
  obtain ⟨u, hu⟩ := getE (l := s.ws) (i := i) (by omega)
  have hub := hsl.b u (List.mem_of_getElem? hu)
  have hob := (ho o (List.mem_of_getElem? hoi)).need
  have hat := hat i u hlt hu
  have m1 : 0 ≤ u * m := Int.mul_nonneg hub.1 hm.1
  have m2 : u * m ≤ 4 * m := Int.mul_le_mul_of_nonneg_right hub.2 hm.1
  have hgb : ∀ k, k ≤ n → 0 ≤ gI (q.take k) i ∧ gI (q.take k) i ≤ 120 * (k : Int) := by
    intro k
    induction k with
    | zero => intro _; simp [gI]
    | succ k ih =>
      intro hk
      obtain ⟨t, ht⟩ := getE (l := q) (i := k) (by omega)
      have htl := (websE_ok (hst t (List.mem_of_getElem? ht)).web).1
      have htr := (hst t (List.mem_of_getElem? ht)).run
      obtain ⟨w, hw⟩ := getE (l := t.ws) (i := i) (by have := htl.len; omega)
      have hwb := htl.b w (List.mem_of_getElem? hw)
      have ih := ih (by omega)
      rw [gI_take ht, hw, Option.getD_some]
      have k1 : 0 ≤ w * t.run := Int.mul_nonneg hwb.1 (by omega)
      have k2 : w * t.run ≤ 4 * t.run := Int.mul_le_mul_of_nonneg_right hwb.2 (by omega)
      omega
  have hzw : (List.zipWith lessO l G)[i]? = some (lessO o (u * m + gI (q.take n) i)) := by rw [List.getElem?_zipWith, hoi, hat]
  have htk : (List.zipWith lessO l G).take (i + 1) = (List.zipWith lessO l G).take i ++ [lessO o (u * m + gI (q.take n) i)] := by rw [List.take_add_one, hzw]; rfl
  have hzl : ((List.zipWith lessO l G).take i).length ≤ 4 := by rw [List.length_take, List.length_zipWith]; omega
  generalize (List.zipWith lessO l G).take i = Z at *
  have w1 : IntKind.i64.wrap (u * m) = u * m := IntWalk.i64_in _ (by omega)
  generalize hB : u * m = B at *
  repeat' (first
    | (with_reducible first | refine DW.seq ?_ | refine DW.block ?_ | refine DW.skip ?_ | refine DW.exit ?_ | refine DW.ret ?_ | refine DW.reg ?_)
    | (refine DW.dreg rfl (WF.of ?_) ?_; first | rfl | skip)
    | (simp (disch := omega) only [go_sem, simprocAttr, bm_box, bm_row, bk_box, bk_row, hd, hs, hu, hB, w1, List.map_cons, List.map_nil])
    | (exact retS_of rfl rfl rfl)
    | (refine DW.cond_tt rfl ?_)
    | (refine DW.cond_ff rfl ?_)
    | (refine DW.cond rfl ?_ ?_ <;> intro hc <;> (try simp only [go_sem] at hc))
    | (refine g_split ?_ ?_ <;> intro hc <;> (try simp only [hc]) <;> (try simp only [go_sem] at hc)))
  refine DW.loop (ι := { y : Nat × Int // y.1 ≤ n ∧ y.2 = B + gI (q.take y.1) i }) (fun y => ⟨82, [(14, dI y.1.1), (13, dI y.1.2), (12, dI i), (11, .own 15), (1, .c (.sl b1 3 (rows eO l))), (2, dSt b2 q), (3, dI n), (4, dI m), (10, .c (.v (.slice none 0 0)))], [(15, .row 3 (rowC (rows eO Z)))]⟩) (fun y => n - y.1.1) ⟨(0, B), Nat.zero_le _, by simp [gI]⟩ ?_ ?_
  · refine Ent.to ?_ ?_ <;> simp (disch := omega) only [wkT_cons, wkX_cons, wkT_nil, wkX_nil, get, Nat.reduceEqDiff, ↓reduceIte, ex_some, wk_self, wk_top, wk_nil, wkB_self, and_self, dI, i64_in, and_true, true_and, Int.natCast_add, Int.natCast_one, Int.ofNat_zero, Int.natCast_zero]
    all_goals first | exact ⟨.refl _, .refl _, .refl _⟩ | exact ⟨.refl _, .refl _⟩ | exact .refl _
  rintro ⟨⟨k, v⟩, hk, hv⟩
  dsimp only at hk hv ⊢
  have hgk := hgb k hk
  by_cases hkn : k < n
  · have hdk : decide ((k : Int) < (n : Int)) = true := decide_eq_true (by omega)
    obtain ⟨t, ht⟩ := getE (l := q) (i := k) (by omega)
    have htl := (websE_ok (hst t (List.mem_of_getElem? ht)).web).1
    have htr := (hst t (List.mem_of_getElem? ht)).run
    obtain ⟨w, hw⟩ := getE (l := t.ws) (i := i) (by have := htl.len; omega)
    have hwb := htl.b w (List.mem_of_getElem? hw)
    have hgt := gI_take ht i
    rw [hw, Option.getD_some] at hgt
    have k1 : 0 ≤ w * t.run := Int.mul_nonneg hwb.1 (by omega)
    have k2 : w * t.run ≤ 4 * t.run := Int.mul_le_mul_of_nonneg_right hwb.2 (by omega)
    have v1 : IntKind.i64.wrap (w * t.run) = w * t.run := IntWalk.i64_in _ (by omega)
    have v2 : IntKind.i64.wrap (v + w * t.run) = v + w * t.run := IntWalk.i64_in _ (by omega)
    repeat' (first
    | (with_reducible first | refine DW.seq ?_ | refine DW.block ?_ | refine DW.skip ?_ | refine DW.exit ?_ | refine DW.ret ?_ | refine DW.reg ?_)
    | (refine DW.dreg rfl (WF.of ?_) ?_; first | rfl | skip)
    | (simp (disch := omega) only [go_sem, simprocAttr, bm_box, bm_row, bk_box, bk_row, hdk, ht, hw, v1, v2, List.map_cons, List.map_nil])
    | (exact retS_of rfl rfl rfl)
    | (refine DW.cond_tt rfl ?_)
    | (refine DW.cond_ff rfl ?_)
    | (refine DW.cond rfl ?_ ?_ <;> intro hc <;> (try simp only [go_sem] at hc))
    | (refine g_split ?_ ?_ <;> intro hc <;> (try simp only [hc]) <;> (try simp only [go_sem] at hc)))
    refine ⟨⟨(k + 1, v + w * t.run), hkn, by dsimp only; omega⟩, ?_, Ent.to ?_ ?_⟩ <;> first | (show _ < _; (try simp only); omega) | (simp (disch := omega) only [wkT_cons, wkX_cons, wkT_nil, wkX_nil, get, Nat.reduceEqDiff, ↓reduceIte, ex_some, wk_self, wk_top, wk_nil, wkB_self, and_self, dI, i64_in, and_true, true_and, Int.natCast_add, Int.natCast_one, Int.ofNat_zero, Int.natCast_zero])
    all_goals first | exact ⟨.refl _, .refl _, .refl _⟩ | exact ⟨.refl _, .refl _⟩ | exact .refl _
  · obtain rfl : k = n := by omega
    have hdk : decide ((k : Int) < (k : Int)) = false := decide_eq_false (by omega)
    rw [← hv] at htk
    have e1 : (if 0 < o.lo - v then o.lo - v else 0) = max2 0 (o.lo - v) := rfl
    have e2 : (if 0 < o.hi - v then o.hi - v else 0) = max2 0 (o.hi - v) := rfl
    have hsn : rowC (rows eO Z) ++ [[D.c (.v (.int .i64 o.w)), D.c (.v (.int .i64 (max2 0 (o.lo - v)))), D.c (.v (.int .i64 (max2 0 (o.hi - v))))]] = rowC (rows eO (Z ++ [lessO o v])) := by simp [rowC, rows, eO, lessO]
    repeat' (first
    | (with_reducible first | refine DW.seq ?_ | refine DW.block ?_ | refine DW.skip ?_ | refine DW.exit ?_ | refine DW.ret ?_ | refine DW.reg ?_)
    | (refine DW.dreg rfl (WF.of ?_) ?_; first | rfl | skip)
    | (simp (disch := omega) only [go_sem, simprocAttr, bm_box, bm_row, bk_box, bk_row, hdk, hoi, e1, e2, hsn, List.map_cons, List.map_nil])
    | (exact retS_of rfl rfl rfl)
    | (refine DW.cond_tt rfl ?_)
    | (refine DW.cond_ff rfl ?_)
    | (refine DW.cond rfl ?_ ?_ <;> intro hc <;> (try simp only [go_sem] at hc))
    | (refine g_split ?_ ?_ <;> intro hc <;> (try simp only [hc]) <;> (try simp only [go_sem] at hc)))
    refine ⟨⟨i + 1, hlt⟩, ?_, Ent.to ?_ ?_⟩ <;> first | (show _ < _; (try simp only); omega) | (simp (disch := omega) only [wkT_cons, wkX_cons, wkT_nil, wkX_nil, get, Nat.reduceEqDiff, ↓reduceIte, ex_some, wk_self, wk_top, wk_nil, wkB_self, and_self, dI, i64_in, and_true, true_and, Int.natCast_add, Int.natCast_one, Int.ofNat_zero, Int.natCast_zero,  htk])
    all_goals first | exact ⟨.refl _, .refl _, .refl _⟩ | exact ⟨.refl _, .refl _⟩ | exact .refl _
end Go.Dw.Seat
end
section
set_option linter.unusedSimpArgs false
set_option maxRecDepth 100000
namespace Go.Dw.Seat
open Go Go.Dw Go.Proofs Go.ChangeShapes Go.WideShapes Go.ChangeAt Go.RowKit
theorem tOwn : ownKnob Try.prog.godebug = none := by kernel_rfl
theorem tLaid : laidOutB Try.prog = true := by kernel_rfl
theorem u3 : Try.prog.underlying 3 = some (.int .i64) := by kernel_rfl
theorem u4 : Try.prog.underlying 4 = some .bool := by kernel_rfl
theorem u22 : Try.prog.underlying 22 = some (.slice 3) := by kernel_rfl
theorem u32 : structIs Try.prog 32 [(3, 0), (3, 1)] = true := by kernel_rfl
theorem u34 : structIs Try.prog 34 [(3, 0), (32, 1), (3, 3)] = true := by kernel_rfl
theorem u35 : Try.prog.underlying 35 = some (.slice 85) := by kernel_rfl
theorem u36 : Try.prog.underlying 36 = some (.slice 100) := by kernel_rfl
theorem u85 : structIs Try.prog 85 [(3, 0), (32, 1)] = true := by kernel_rfl
theorem u100 : structIs Try.prog 100 [(22, 0), (3, 1)] = true := by kernel_rfl
theorem u104 : structIs Try.prog 104 [(36, 0), (3, 1), (3, 2)] = true := by kernel_rfl
theorem cl3 : Try.prog.cellsOf 3 = 1 := by kernel_rfl
theorem cl22 : Try.prog.cellsOf 22 = 1 := by kernel_rfl
theorem cl32 : Try.prog.cellsOf 32 = 2 := by kernel_rfl
theorem cl34 : Try.prog.cellsOf 34 = 4 := by kernel_rfl
theorem cl36 : Try.prog.cellsOf 36 = 1 := by kernel_rfl
theorem cl85 : Try.prog.cellsOf 85 = 3 := by kernel_rfl
theorem cl100 : Try.prog.cellsOf 100 = 2 := by kernel_rfl
theorem cl104 : Try.prog.cellsOf 104 = 3 := by kernel_rfl
def e1 (n : Nat) : List C := [.v (.int .u8 n)]
section
variable {H : Type} {enc : TypeId × Value → H} {w : World} {base : Nat} {spare : Nat → Bool} {held : Bool} {fuel : Nat} {cs : List Value} {x : DataW H × List MemPlace}
theorem rd_Ints (h : DataW.trod enc Try.prog w base spare held fuel 22 cs = some x) : ∃ (l : List Int) (v : Value), cs = [v] ∧ RepC w A0 (.sl false 1 (rows eI l)) v ∧ l.length ≤ maxLen := by
  obtain ⟨l, v, e', hr, hm, _⟩ := rd_slice (f := eI) u22 cl3 (by decide) (fun _ => rfl) (fun m cs x h => by
    obtain ⟨n, rfl, _⟩ := rd_int u3 h
    exact ⟨n, _, _, rfl, ⟨rfl, rfl⟩, rfl⟩) h
  exact ⟨l, v, e', hr, hm⟩
theorem rd_Span (h : DataW.trod enc Try.prog w base spare held fuel 32 cs = some x) : ∃ a b : Int, cs = [.int .i64 a, .int .i64 b] := by
  obtain ⟨hl, m, hf⟩ := rd_struct u32 h
  rw [cl32] at hl
  obtain ⟨y0, h0⟩ := hf 0 3 0 rfl
  obtain ⟨y1, h1⟩ := hf 1 3 1 rfl
  rw [cl3] at h0 h1
  match cs, hl with
  | [a, b], _ =>
    obtain ⟨n0, e0, _⟩ := rd_int u3 h0
    obtain ⟨n1, e1, _⟩ := rd_int u3 h1
    simp at e0 e1
    subst e0; subst e1
    exact ⟨n0, n1, rfl⟩
theorem rd_Pap (h : DataW.trod enc Try.prog w base spare held fuel 34 cs = some x) : ∃ p : TPap, RepVs w A0 (eP p) cs := by
  obtain ⟨hl, m, hf⟩ := rd_struct u34 h
  rw [cl34] at hl
  obtain ⟨y0, h0⟩ := hf 0 3 0 rfl
  obtain ⟨y1, h1⟩ := hf 1 32 1 rfl
  obtain ⟨y2, h2⟩ := hf 2 3 3 rfl
  rw [cl3] at h0 h2
  rw [cl32] at h1
  match cs, hl with
  | [a, b, c, d], _ =>
    obtain ⟨n0, e0, _⟩ := rd_int u3 h0
    obtain ⟨n1, n2, e1⟩ := rd_Span h1
    obtain ⟨n3, e3, _⟩ := rd_int u3 h2
    simp at e0 e1 e3
    obtain ⟨rfl, rfl⟩ := e1
    subst e0; subst e3
    exact ⟨⟨n0, n1, n2, n3⟩, _, _, rfl, ⟨rfl, rfl⟩, _, _, rfl, ⟨rfl, rfl⟩, _, _, rfl, ⟨rfl, rfl⟩, _, _, rfl, ⟨rfl, rfl⟩, rfl⟩
theorem rd_Ord (h : DataW.trod enc Try.prog w base spare held fuel 85 cs = some x) : ∃ o : TOrd, RepVs w A0 (eO o) cs := by
  obtain ⟨hl, m, hf⟩ := rd_struct u85 h
  rw [cl85] at hl
  obtain ⟨y0, h0⟩ := hf 0 3 0 rfl
  obtain ⟨y1, h1⟩ := hf 1 32 1 rfl
  rw [cl3] at h0
  rw [cl32] at h1
  match cs, hl with
  | [a, b, c], _ =>
    obtain ⟨n0, e0, _⟩ := rd_int u3 h0
    obtain ⟨n1, n2, e1⟩ := rd_Span h1
    simp at e0 e1
    obtain ⟨rfl, rfl⟩ := e1
    subst e0
    exact ⟨⟨n0, n1, n2⟩, _, _, rfl, ⟨rfl, rfl⟩, _, _, rfl, ⟨rfl, rfl⟩, _, _, rfl, ⟨rfl, rfl⟩, rfl⟩
theorem rd_Ords (h : DataW.trod enc Try.prog w base spare held fuel 35 cs = some x) : ∃ (l : List TOrd) (v : Value), cs = [v] ∧ RepC w A0 (.sl false 3 (rows eO l)) v ∧ l.length ≤ maxLen := by
  obtain ⟨l, v, e', hr, hm, _⟩ := rd_slice (f := eO) u35 cl85 (by decide) (fun _ => rfl) (fun m cs x h => rd_Ord h) h
  exact ⟨l, v, e', hr, hm⟩
def stpsOk (l : List TStp) : Prop := ∀ s ∈ l, s.ws.length ≤ maxLen
theorem rd_Stp (h : DataW.trod enc Try.prog w base spare held fuel 100 cs = some x) : ∃ s : TStp, s.ws.length ≤ maxLen ∧ RepVs w A0 (eSt s) cs := by
  obtain ⟨hl, m, hf⟩ := rd_struct u100 h
  rw [cl100] at hl
  obtain ⟨y0, h0⟩ := hf 0 22 0 rfl
  obtain ⟨y1, h1⟩ := hf 1 3 1 rfl
  rw [cl22] at h0
  rw [cl3] at h1
  match cs, hl with
  | [a, b], _ =>
    obtain ⟨l, v, e0, hr, hm⟩ := rd_Ints h0
    obtain ⟨n1, e1, _⟩ := rd_int u3 h1
    simp at e0 e1
    subst e0; subst e1
    exact ⟨⟨l, n1⟩, hm, _, _, rfl, hr, _, _, rfl, ⟨rfl, rfl⟩, rfl⟩
theorem rd_Stps (h : DataW.trod enc Try.prog w base spare held fuel 36 cs = some x) : ∃ (l : List TStp) (v : Value), cs = [v] ∧ RepC w A0 (.sl false 2 (rows eSt l)) v ∧ l.length ≤ maxLen ∧ stpsOk l := by
  obtain ⟨l, v, e', hr, hm, _⟩ := rd_slice (f := fun s : {s : TStp // s.ws.length ≤ maxLen} => eSt s.1) u36 cl100 (by decide) (fun _ => rfl) (fun m cs x h => by
    obtain ⟨s, h1, h2⟩ := rd_Stp h
    exact ⟨⟨s, h1⟩, h2⟩) h
  refine ⟨l.map (·.1), v, e', ?_, by simpa using hm, fun u hu => ?_⟩
  · have : rows eSt (l.map (·.1)) = rows (fun s : {s : TStp // s.ws.length ≤ maxLen} => eSt s.1) l := by simp [rows, Function.comp_def]
    rw [this]; exact hr
  · obtain ⟨a, _, rfl⟩ := List.mem_map.1 hu
    exact a.2
structure TBrk where
  plan : List TStp
  at' : Int
  done : Int
def cBrk (b : Bool) (x : TBrk) : List C := [.sl b 2 (rows eSt x.plan), .v (.int .i64 x.at'), .v (.int .i64 x.done)]
def TBrk.ok (x : TBrk) : Prop := x.plan.length ≤ maxLen ∧ stpsOk x.plan
theorem rd_Brk (h : DataW.trod enc Try.prog w base spare held fuel 104 cs = some x) : ∃ s : TBrk, s.ok ∧ RepVs w A0 (cBrk false s) cs := by
  obtain ⟨hl, m, hf⟩ := rd_struct u104 h
  rw [cl104] at hl
  obtain ⟨y0, h0⟩ := hf 0 36 0 rfl
  obtain ⟨y1, h1⟩ := hf 1 3 1 rfl
  obtain ⟨y2, h2⟩ := hf 2 3 2 rfl
  rw [cl36] at h0
  rw [cl3] at h1 h2
  match cs, hl with
  | [a, b, c], _ =>
    obtain ⟨l, v, e0, hr, hm, ho⟩ := rd_Stps h0
    obtain ⟨n1, e1, _⟩ := rd_int u3 h1
    obtain ⟨n2, e2, _⟩ := rd_int u3 h2
    simp at e0 e1 e2
    subst e0; subst e1; subst e2
    exact ⟨⟨l, n1, n2⟩, ⟨hm, ho⟩, _, _, rfl, hr, _, _, rfl, ⟨rfl, rfl⟩, _, _, rfl, ⟨rfl, rfl⟩, rfl⟩
end
end Go.Dw.Seat
end
section
set_option linter.unusedSimpArgs false
set_option maxRecDepth 100000
namespace Go.Dw.Seat
open Go Go.Dw Go.Proofs Go.IntWalk
set_option maxHeartbeats 8000000 in
theorem laRests (p : TPap) (l : List TOrd) (hlm : l.length ≤ maxLen) (x : TBrk) (hx : x.ok) : DCall Try.prog 13 [papD p, .c (.sl false 3 (rows eO l)), .agg ((cBrk false x).map D.c)] [] (bD true) [] := by
  obtain ⟨q, n, m⟩ := x
  have hk := laKnown
  by_cases l10 : (10 : Int) < (l.length : Int)
  · have d1 : decide ((10 : Int) < (l.length : Int)) = true := decide_eq_true l10
    refine DCall.of Try.func13 sf13 hb13 (Nat.le_of_ble_eq_true rfl) (okRes_nil fun _ => rfl) ?_; simp only [s13, idxs, Nat.reduceAdd]
    repeat' (first
    | (with_reducible first | refine DW.seq ?_ | refine DW.block ?_ | refine DW.skip ?_ | refine DW.exit ?_ | refine DW.ret ?_ | refine DW.reg ?_)
    | (refine DW.dreg rfl (WF.of ?_) ?_; first | rfl | skip)
    | (simp (disch := omega) only [go_sem, simprocAttr, bm_box, bm_row, bk_box, bk_row, d1, cBrk, List.map_cons, List.map_nil])
    | (exact retS_of rfl rfl rfl)
    | (refine DW.cond_tt rfl ?_)
    | (refine call_c (hk) (by decide) ?_)
    | (refine DW.cond_ff rfl ?_)
    | (refine DW.cond rfl ?_ ?_ <;> intro hc <;> (try simp only [go_sem] at hc))
    | (refine g_split ?_ ?_ <;> intro hc <;> (try simp only [hc]) <;> (try simp only [go_sem] at hc)))
  have d1 : decide ((10 : Int) < (l.length : Int)) = false := decide_eq_false l10
  have hlg := laLong false q
  cases hL : longB q with
  | true =>
    rw [hL] at hlg
    refine DCall.of Try.func13 sf13 hb13 (Nat.le_of_ble_eq_true rfl) (okRes_nil fun _ => rfl) ?_; simp only [s13, idxs, Nat.reduceAdd]
    repeat' (first
    | (with_reducible first | refine DW.seq ?_ | refine DW.block ?_ | refine DW.skip ?_ | refine DW.exit ?_ | refine DW.ret ?_ | refine DW.reg ?_)
    | (refine DW.dreg rfl (WF.of ?_) ?_; first | rfl | skip)
    | (simp (disch := omega) only [go_sem, simprocAttr, bm_box, bm_row, bk_box, bk_row, d1, cBrk, List.map_cons, List.map_nil])
    | (exact retS_of rfl rfl rfl)
    | (refine DW.cond_tt rfl ?_)
    | (refine call_c (hk) (by decide) ?_)
    | (refine call_c (hlg) (by decide) ?_)
    | (refine DW.cond_ff rfl ?_)
    | (refine DW.cond rfl ?_ ?_ <;> intro hc <;> (try simp only [go_sem] at hc))
    | (refine g_split ?_ ?_ <;> intro hc <;> (try simp only [hc]) <;> (try simp only [go_sem] at hc)))
  | false =>
  rw [hL] at hlg
  obtain ⟨hq10, hq10w⟩ := longB_no hL
  have hl : l.length ≤ 2 ^ 36 := by omega
  have hqw : ∀ s ∈ q, s.ws.length ≤ 2 ^ 36 := fun s hs => by have := hq10w s hs; omega
  have c1 := laOwn false l hl
  have c2 := laPlans false q (by omega) hqw
  have c3 := trRest p l hl q hqw n m
  have i1 := reOrders false false l l hl hl true (by simp)
  have i2 := reSame false false q q (by omega) (by omega) hqw hqw true (by simp)
  have c4 := reCheck false p l
  by_cases h : openE p l = 0
  case neg =>
    have hE : restE p l q n m = openE p l := if_pos h
    rw [restD, hE, if_neg h] at c3
    generalize openE p l = e at *
    have hd1 : (e == 0) = false := by simpa using h
    have hd2 : (e != 0) = true := by simpa using h
    refine DCall.of Try.func13 sf13 hb13 (Nat.le_of_ble_eq_true rfl) (okRes_nil fun _ => rfl) ?_; simp only [s13, idxs, Nat.reduceAdd]
    repeat' (first
    | (with_reducible first | refine DW.seq ?_ | refine DW.block ?_ | refine DW.skip ?_ | refine DW.exit ?_ | refine DW.ret ?_ | refine DW.reg ?_)
    | (refine DW.dreg rfl (WF.of ?_) ?_; first | rfl | skip)
    | (simp (disch := omega) only [go_sem, simprocAttr, bm_box, bm_row, bk_box, bk_row, d1, hd1, hd2, cBrk, List.map_cons, List.map_nil])
    | (exact retS_of rfl rfl rfl)
    | (refine DW.cond_tt rfl ?_)
    | (refine call_c (hk) (by decide) ?_)
    | (refine call_c (hlg) (by decide) ?_)
    | (refine call_c (c1) (by decide) ?_)
    | (refine call_c (c2) (by decide) ?_)
    | (refine call_c (c3) (by decide) ?_)
    | (refine call_c (i1) (by decide) ?_)
    | (refine call_c (i2) (by decide) ?_)
    | (refine call_c (c4) (by decide) ?_)
    | (refine DW.cond_ff rfl ?_)
    | (refine DW.cond rfl ?_ ?_ <;> intro hc <;> (try simp only [go_sem] at hc))
    | (refine g_split ?_ ?_ <;> intro hc <;> (try simp only [hc]) <;> (try simp only [go_sem] at hc)))
  obtain ⟨hp, hl4, ho⟩ := openE_ok h
  rw [h] at c4
  have c5 := reDoes false false p hp l hl4 ho q hqw
  cases hR : doesA p l q with
  | inr y =>
    obtain ⟨k, e⟩ := y
    have he := doesA_err hR
    have hE : restE p l q n m = e := by unfold restE; rw [if_neg (by simpa using h), hR]
    rw [restD, hE, if_neg he] at c3
    rw [hR] at c5
    simp only [errOf] at c5
    have hd1 : (e == 0) = false := by simpa using he
    have hd2 : (e != 0) = true := by simpa using he
    refine DCall.of Try.func13 sf13 hb13 (Nat.le_of_ble_eq_true rfl) (okRes_nil fun _ => rfl) ?_; simp only [s13, idxs, Nat.reduceAdd]
    repeat' (first
    | (with_reducible first | refine DW.seq ?_ | refine DW.block ?_ | refine DW.skip ?_ | refine DW.exit ?_ | refine DW.ret ?_ | refine DW.reg ?_)
    | (refine DW.dreg rfl (WF.of ?_) ?_; first | rfl | skip)
    | (simp (disch := omega) only [go_sem, simprocAttr, bm_box, bm_row, bk_box, bk_row, d1, hd1, hd2, cBrk, List.map_cons, List.map_nil])
    | (exact retS_of rfl rfl rfl)
    | (refine DW.cond_tt rfl ?_)
    | (refine call_c (hk) (by decide) ?_)
    | (refine call_c (hlg) (by decide) ?_)
    | (refine call_c (c1) (by decide) ?_)
    | (refine call_c (c2) (by decide) ?_)
    | (refine call_c (c3) (by decide) ?_)
    | (refine call_c (i1) (by decide) ?_)
    | (refine call_c (i2) (by decide) ?_)
    | (refine call_c (c4) (by decide) ?_)
    | (refine call_c (c5) (by decide) ?_)
    | (refine DW.cond_ff rfl ?_)
    | (refine DW.cond rfl ?_ ?_ <;> intro hc <;> (try simp only [go_sem] at hc))
    | (refine g_split ?_ ?_ <;> intro hc <;> (try simp only [hc]) <;> (try simp only [go_sem] at hc)))
  | inl r =>
    obtain ⟨hq3, hst, _, _, _⟩ := doesA_ok hR
    rw [hR] at c5
    simp only [errOf] at c5
    have i3 := reIn n 0 ((q.length : Int) - 1)
    by_cases hn : 0 ≤ n ∧ n ≤ (q.length : Int) - 1
    case neg =>
      have hE : restE p l q n m = 3 := by unfold restE; rw [if_neg (by simpa using h), hR]; exact if_neg hn
      rw [restD, hE, if_neg (by decide)] at c3
      rw [show inI n 0 ((q.length : Int) - 1) = false by simp only [inI, Bool.and_eq_false_iff, decide_eq_false_iff_not]; omega] at i3
      refine DCall.of Try.func13 sf13 hb13 (Nat.le_of_ble_eq_true rfl) (okRes_nil fun _ => rfl) ?_; simp only [s13, idxs, Nat.reduceAdd]
      repeat' (first
    | (with_reducible first | refine DW.seq ?_ | refine DW.block ?_ | refine DW.skip ?_ | refine DW.exit ?_ | refine DW.ret ?_ | refine DW.reg ?_)
    | (refine DW.dreg rfl (WF.of ?_) ?_; first | rfl | skip)
    | (simp (disch := omega) only [go_sem, simprocAttr, bm_box, bm_row, bk_box, bk_row, d1, cBrk, List.map_cons, List.map_nil])
    | (exact retS_of rfl rfl rfl)
    | (refine DW.cond_tt rfl ?_)
    | (refine call_c (hk) (by decide) ?_)
    | (refine call_c (hlg) (by decide) ?_)
    | (refine call_c (c1) (by decide) ?_)
    | (refine call_c (c2) (by decide) ?_)
    | (refine call_c (c3) (by decide) ?_)
    | (refine call_c (i1) (by decide) ?_)
    | (refine call_c (i2) (by decide) ?_)
    | (refine call_c (c4) (by decide) ?_)
    | (refine call_c (c5) (by decide) ?_)
    | (refine call_c (i3) (by decide) ?_)
    | (refine DW.cond_ff rfl ?_)
    | (refine DW.cond rfl ?_ ?_ <;> intro hc <;> (try simp only [go_sem] at hc))
    | (refine g_split ?_ ?_ <;> intro hc <;> (try simp only [hc]) <;> (try simp only [go_sem] at hc)))
    rw [show inI n 0 ((q.length : Int) - 1) = true by simp only [inI, Bool.and_eq_true, decide_eq_true_eq]; omega] at i3
    obtain ⟨a, rfl⟩ : ∃ a : Nat, n = (a : Int) := ⟨n.toNat, by omega⟩
    obtain ⟨s, hs⟩ := getE (l := q) (i := a) (by omega)
    have i4 := reIn m 0 s.run
    by_cases hm : 0 ≤ m ∧ m ≤ s.run
    case neg =>
      have hE : restE p l q a m = 3 := by unfold restE; rw [if_neg (by simpa using h), hR]; dsimp only; rw [if_pos hn, Int.toNat_natCast, hs]; exact if_neg hm
      rw [restD, hE, if_neg (by decide)] at c3
      rw [show inI m 0 s.run = false by simp only [inI, Bool.and_eq_false_iff, decide_eq_false_iff_not]; omega] at i4
      refine DCall.of Try.func13 sf13 hb13 (Nat.le_of_ble_eq_true rfl) (okRes_nil fun _ => rfl) ?_; simp only [s13, idxs, Nat.reduceAdd]
      repeat' (first
    | (with_reducible first | refine DW.seq ?_ | refine DW.block ?_ | refine DW.skip ?_ | refine DW.exit ?_ | refine DW.ret ?_ | refine DW.reg ?_)
    | (refine DW.dreg rfl (WF.of ?_) ?_; first | rfl | skip)
    | (simp (disch := omega) only [go_sem, simprocAttr, bm_box, bm_row, bk_box, bk_row, d1, hs, cBrk, List.map_cons, List.map_nil])
    | (exact retS_of rfl rfl rfl)
    | (refine DW.cond_tt rfl ?_)
    | (refine call_c (hk) (by decide) ?_)
    | (refine call_c (hlg) (by decide) ?_)
    | (refine call_c (c1) (by decide) ?_)
    | (refine call_c (c2) (by decide) ?_)
    | (refine call_c (c3) (by decide) ?_)
    | (refine call_c (i1) (by decide) ?_)
    | (refine call_c (i2) (by decide) ?_)
    | (refine call_c (c4) (by decide) ?_)
    | (refine call_c (c5) (by decide) ?_)
    | (refine call_c (i3) (by decide) ?_)
    | (refine call_c (i4) (by decide) ?_)
    | (refine DW.cond_ff rfl ?_)
    | (refine DW.cond rfl ?_ ?_ <;> intro hc <;> (try simp only [go_sem] at hc))
    | (refine g_split ?_ ?_ <;> intro hc <;> (try simp only [hc]) <;> (try simp only [go_sem] at hc)))
    have hE : restE p l q a m = 0 := by unfold restE; rw [if_neg (by simpa using h), hR]; dsimp only; rw [if_pos hn, Int.toNat_natCast, hs]; exact if_pos hm
    rw [restD, hE, if_pos rfl] at c3
    rw [show inI m 0 s.run = true by simp only [inI, Bool.and_eq_true, decide_eq_true_eq]; omega] at i4
    have c6 := reRest false false p l hl4 ho q hq3 hst a s hs m hm
    have hrl : (restL l q a m).length ≤ 4 := by rw [restL, List.length_zipWith]; omega
    have i5 := reOrders false false (restL l q a m) (restL l q a m) (by omega) (by omega) true (by simp)
    generalize restL l q a m = Z at *
    refine DCall.of Try.func13 sf13 hb13 (Nat.le_of_ble_eq_true rfl) (okRes_nil fun _ => rfl) ?_; simp only [s13, idxs, Nat.reduceAdd]
    repeat' (first
    | (with_reducible first | refine DW.seq ?_ | refine DW.block ?_ | refine DW.skip ?_ | refine DW.exit ?_ | refine DW.ret ?_ | refine DW.reg ?_)
    | (refine DW.dreg rfl (WF.of ?_) ?_; first | rfl | skip)
    | (simp (disch := omega) only [go_sem, simprocAttr, bm_box, bm_row, bk_box, bk_row, d1, hs, cBrk, List.map_cons, List.map_nil])
    | (exact retS_of rfl rfl rfl)
    | (refine DW.cond_tt rfl ?_)
    | (refine call_c (hk) (by decide) ?_)
    | (refine call_c (hlg) (by decide) ?_)
    | (refine call_c (c1) (by decide) ?_)
    | (refine call_c (c2) (by decide) ?_)
    | (refine call_c (c3) (by decide) ?_)
    | (refine call_c (i1) (by decide) ?_)
    | (refine call_c (i2) (by decide) ?_)
    | (refine call_c (c4) (by decide) ?_)
    | (refine call_c (c5) (by decide) ?_)
    | (refine call_c (i3) (by decide) ?_)
    | (refine call_c (i4) (by decide) ?_)
    | (refine call_c (c6) (by decide) ?_)
    | (refine call_c (i5) (by decide) ?_)
    | (refine DW.cond_ff rfl ?_)
    | (refine DW.cond rfl ?_ ?_ <;> intro hc <;> (try simp only [go_sem] at hc))
    | (refine g_split ?_ ?_ <;> intro hc <;> (try simp only [hc]) <;> (try simp only [go_sem] at hc)))
end Go.Dw.Seat
end
section
set_option linter.unusedSimpArgs false
set_option maxRecDepth 100000
namespace Go.Dw.Seat
open Go Go.Dw Go.Proofs Go.ChangeShapes Go.WideShapes Go.ChangeAt Go.RowKit
set_option maxHeartbeats 800000 in
theorem trimRestsLifted (os : Os) (started : os.Started) (H : Type) (enc : TypeId × Value → H) :
    ReturnsInHanded {} Try.checked os 13 .any (Ytkhicfkfdmldkaa.Rows.trimRestsSpec.pre6 enc Try.prog Try.f13 Ytkhicfkfdmldkaa.Rows.trimRestsRow.domain false) (Ytkhicfkfdmldkaa.Rows.trimRestsSpec.post enc Try.prog Try.f13 false true false false) := by
  refine returnsInHanded_of_change (C := Try.checked) tOwn started (by kernel_rfl) Try.func13
    (ChangeSpec.witness6 (enc := enc) (C := Try.checked) false ⟨#[], #[.agg #[.int .i64 0, .int .i64 0, .int .i64 0, .int .i64 0], .slice none 0 0, .agg #[.slice none 0 0, .int .i64 0, .int .i64 0]], []⟩ 8 (by kernel_rfl) (by kernel_rfl) (by kernel_rfl) (by kernel_rfl)) ?_
  intro W base args ds gs before hval0 hW _ _
  have hval : ∀ (j : Nat) t v, Try.f13.params[j]? = some t → args[j]? = some v → Value.okWide Try.prog W .any base t v := hval0
  have hW' : DataW.Whole enc Try.prog Try.f13.params.toList [] false W args.toList ds gs before := hW
  obtain ⟨p, q, hA, hV, rfl, hfz, hnd⟩ := hW
  have hA : DataW.TrodAll enc Try.prog W 0 (fun _ => true) true [34, 35, 104] args.toList ds p := hA
  obtain ⟨rfl, rfl⟩ := trodVars_none hV
  obtain ⟨v0, vs0, d0, ds0, p0, q0, hargs, rfl, rfl, h0, r0⟩ := trodAll_cons hA
  obtain ⟨v1, vs1, d1, ds1, p1, q1, rfl, rfl, rfl, h1, r1⟩ := trodAll_cons r0
  obtain ⟨v2, vs2, d2, ds2, p2, q2, rfl, rfl, rfl, h2, r2⟩ := trodAll_cons r1
  obtain ⟨rfl, rfl, rfl⟩ := trodAll_nil r2
  obtain rfl : args = #[v0, v1, v2] := by cases args; simp_all
  obtain ⟨f0, hu0, _⟩ := structIs_spec u34
  obtain ⟨c0, rfl, _⟩ := okWide_struct hu0 (hval 0 34 v0 rfl rfl)
  obtain ⟨a1, l1, k1, rfl⟩ := okWide_slice u35 (hval 1 35 v1 rfl rfl)
  obtain ⟨f2, hu2, _⟩ := structIs_spec u104
  obtain ⟨c2, rfl, _⟩ := okWide_struct hu2 (hval 2 104 v2 rfl rfl)
  obtain ⟨fu0, h0⟩ := h0
  obtain ⟨fu1, h1⟩ := h1
  obtain ⟨fu2, h2⟩ := h2
  obtain ⟨s0, hr0⟩ := rd_Pap h0
  have hr0 : RepVs W A0 (eP s0) c0.toList := by simpa [Value.cells] using hr0
  obtain ⟨s1, sv1, e1, hs1, hl1⟩ := rd_Ords h1
  have e1 : sv1 = Value.slice a1 l1 k1 := by simpa [Value.cells] using e1.symm
  subst e1
  obtain ⟨s2, ho2, hr2⟩ := rd_Brk h2
  have hr2 : RepVs W A0 (cBrk false s2) c2.toList := by simpa [Value.cells] using hr2
  refine ((laRests s0  s1 hl1 s2 ho2).calls (W := W) (vs := [.agg c0, .slice a1 l1 k1, .agg c2]) (laid0 W) (fun G => ?_)).mono ?_
  · exact ⟨_, _, rfl, ⟨c0, rfl, RepDs.ofVs hr0⟩, _, _, rfl, hs1, _, _, rfl, ⟨c2, rfl, RepDs.ofVs hr2⟩, rfl⟩
  · rintro e W' ⟨v, rfl, ⟨G', A', hr⟩, hb⟩
    obtain ⟨rfl, _⟩ := hr
    exact ⟨_, rfl, post_true tLaid (by decide +kernel) hW' hb rfl rfl u4 rfl rfl rfl⟩
theorem trimRestsHolds : Ytkhicfkfdmldkaa.Rows.trimRestsRow.holds Ytkhicfkfdmldkaa.Try.pinned (OpenSpec.ofChange Ytkhicfkfdmldkaa.Rows.trimRestsSpec) :=
  OpenClaim.holds_of_wide 13 Try.f13 rfl rfl rfl rfl rfl rfl rfl ⟨rfl, rfl, rfl, rfl, rfl⟩ rfl rfl rfl rfl rfl (by kernel_rfl) Try.func13 (by kernel_rfl)
    (of_decide_eq_true (by kernel_rfl)) (by unfold Func.isWrapper; first | (rw [if_pos (by decide +kernel)]; kernel_rfl) | (rw [if_neg (by decide +kernel)]; exact ⟨rfl, rfl⟩))
    (fun os started H enc _ => trimRestsLifted os started H enc)
end Go.Dw.Seat
namespace Go.Proofs.Ytkhicfkfdmldkaa
theorem trimRestsSaid : Rows.TrimRestsSaid := Go.Dw.Seat.trimRestsHolds
end Go.Proofs.Ytkhicfkfdmldkaa
end
