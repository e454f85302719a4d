/- Helpers of a proof. -/
import Derived.Test.YtnbgonichmcfaaaW11
set_option linter.unusedVariables false
set_option linter.unusedSimpArgs false
section
namespace Go.Dw
open Go.RowKit
theorem calls_Fx {P : Program} {f : FuncId} {args : Array Value} {w : World} {R : Ending → World → Prop} (r : Option Nat) (n : Nat) (h : Calls P f args w R) : CallsIn (Fx r) n P f args w R :=
  (callsIn_wide (n := n)).2 h
variable {P : Program} {N O0 : Nat → Prop} {w0 : World} {σ σ' : St} {G : Gh} {a : Act} {w : World}
theorem opTo_noDefer [Lays] {dr : Bool} {o : Oper} (h : OpTo P dr o σ σ') : ∀ c, o.op ≠ .defer c := by
  intro c hc
  unfold OpTo at h
  rw [hc] at h
  obtain ⟨_, d, hd, _⟩ := h
  simp [evP] at hd
theorem run_callFunc {g : FuncId} (hb : hasBody P g = true) (args : Array Value) (w : World) : (callFunc g args).run P w = .ok (.enter g args) w := by
  unfold hasBody at hb
  split at hb
  · rename_i fn hfn
    simp only [Bool.and_eq_true] at hb
    have hn : (fn.name == "runtime.NumGoroutine") = false := by simpa [bne] using hb.2
    have hbd : fn.body.isNone = false := by
      cases hq : fn.body with
      | none => rw [hq] at hb; cases hb.1
      | some b => rfl
    simp only [callFunc, Sem.run_bind, run_program, Result.andThen_ok, hfn, hn, Bool.false_eq_true, if_false, hbd, Sem.run_pure]
  · cases hb
theorem callee_sound [Lays] {A : Bool → Nat → Prop} {d : D} {g : FuncId} {fs caps : List D} {y : Value} (h : calleeD d = some (g, fs, caps)) (hr : RepD w A G d y) :
    ∃ x1 x2, y = .func (.func g) x1 x2 ∧ RepDs w A G fs x1.toList ∧ RepDs w A G caps x2.toList := by
  unfold calleeD at h
  split at h
  · cases h
    obtain ⟨x1, x2, rfl, h1, h2⟩ := hr
    exact ⟨x1, x2, rfl, RepDs.ofVs h1, RepDs.ofVs h2⟩
  · cases h
    obtain ⟨x1, x2, rfl, h1, h2⟩ := hr
    exact ⟨x1, x2, rfl, h1, h2⟩
  · cases h
theorem hto_wp [Lays] (h : Core N O0 w0 σ G a w) {o : Oper} (hdst : ∀ t, o.dst = some t → t < σ.nt) {c : Call} {f : Operand} (hop : o.op = .call c) (hcal : c.callee = .value f) (ho : HTo P σ f c.args.toList o.dst σ') (rd : Option Nat) (n : Nat) {K : Act → World → Prop} {Q : Exit → Act → World → Prop} (hK : ∀ a' w', Inv N O0 w0 σ' a' w' → K a' w') :
    o.uponIn (Fx rd) n P a K Q ((execOp a.eval o).run P w) := by
  obtain ⟨σ0, hent, hnt0, g, fs, caps, as, own, hd, r, bo, hce, hcl, ⟨hbody, hok, hcall⟩, hbx, hdo, hbo1, rfl⟩ := ho
  rw [← hnt0] at hdst
  obtain ⟨G, h⟩ := hent _ _ _ _ _ ⟨G, h⟩
  obtain ⟨nt, tm, bx⟩ := σ0
  dsimp only at hbx hcl hbo1 hce hdst ⊢
  subst hbx
  obtain ⟨x1, x2, hf, h1, h2⟩ := callee_sound hce (h.op f)
  have hargs := (h1.append (h.ops c.args.toList)).append h2
  have gown : ∀ j x, get j own = some x → get j (hd ++ own) = some x := fun j x hj => by rw [get_append, hdo j x hj]; exact hj
  have ghd : ∀ j x, get j hd = some x → get j (hd ++ own) = some x := fun j x hj => by rw [get_append, hj]
  have hdisj : ∀ b, owned G own b → ¬ owned G hd b := fun b ⟨j, x, hj, hb⟩ ⟨k, y, hk, hb2⟩ => by
    have e := h.inj j k x y b (gown j x hj) (ghd k y hk) hb hb2
    subst e
    rw [hdo j x hj] at hk; cases hk
  have hrow : ∀ b, owned G hd b → owned G (hd ++ own) b := fun b ⟨j, x, hj, hb⟩ => ⟨j, x, ghd j x hj, hb⟩
  have hmvo : ∀ b, owned G own b → owned G (hd ++ own) b := fun b ⟨j, x, hj, hb⟩ => ⟨j, x, gown j x hj, hb⟩
  let N' : Nat → Prop := fun b => N b ∨ owned G own b
  have hkp : Keeps w w (Av N G (hd ++ own)) (Av N' G hd) := {
    size := Nat.le_refl _
    av := fun bw b _ hA hA' => by
      rcases hA' with h3 | ⟨h3, h4 | h4⟩
      · exact hA (.inl (hrow b h3))
      · exact hA (.inr ⟨h3, h4⟩)
      · exact hA (.inl (hmvo b h4))
    cell := fun _ _ _ _ _ => rfl }
  have has := closeDs_sound h (σ2 := ⟨nt, tm, own⟩) gown none (Av N' G hd) hkp (fun k x b _ hk hb hA => by
    rcases hA with h3 | h3
    · exact hdisj b ⟨k, x, hk, hb⟩ h3
    · cases h3.1) _ _ _ hcl hargs
  have hheap : HeapOk (Av N' G hd) w G hd := {
    rep := fun k x hk => RepB.mono hkp (fun _ => False) (fun _ _ => ⟨rfl, rfl⟩) x (fun h => h) (fun _ _ => rfl) (fun _ h => h.elim) (h.rep k x (ghd k x hk))
    inj := fun k k' x x' b hk hk' => h.inj k k' x x' b (ghd k x hk) (ghd k' x' hk')
    lt := fun b hb => (h.own b (hrow b hb)).1
    laid := h.laidA.sub (fun b hb => by
      rcases hb with h3 | ⟨_, h3 | h3⟩
      · exact .inr (hrow b h3)
      · exact .inl h3
      · exact .inr (hmvo b h3)) }
  have hN'lt : ∀ b, N' b → b < w.heap.size := fun b hb => by
    rcases hb with hb | hb
    · exact Nat.lt_of_lt_of_le (h.nlt b hb) h.fr.size
    · exact (h.own b (hmvo b hb)).1
  have hN'd : ∀ b, owned G hd b → ¬ N' b := fun b hb hn => by
    rcases hn with hn | hn
    · rcases (h.own b (hrow b hb)).2 with h3 | h3
      · exact h.odis b h3 hn
      · have := h.nlt b hn; omega
    · exact hdisj b hn hb
  have hc := hcall N' G w _ hN'lt hN'd hheap has
  have hrun : (execOp a.eval o).run P w = .ok (.enter g (x1.toList ++ (c.args.toList.map a.eval) ++ x2.toList).toArray) w := by
    obtain ⟨dst, op, ty, pos, after, guard⟩ := o
    dsimp only at hop
    subst hop
    simp only [execOp, resolve, hcal, hf, Deferred.ofValue, Sem.run_bind, Sem.run_pure, Result.andThen_ok, invoke, run_callFunc hbody]
    congr 3
    apply Array.ext'
    simp
  rw [hrun]
  refine ⟨fun hc0 => (by cases hc0), CallsIn.mono (calls_Fx rd (n - 1) hc) ?_⟩
  rintro e w' ⟨G', v, rfl, hheap', hr, hfr', hown⟩
  obtain ⟨G'', hcore⟩ := h.handRet (a := a) (dst := o.dst) hdo hbo1 (N' := N') (fun b hb => hb) hok hheap' hr hfr' hown hdst
  exact hK _ _ ⟨G'', hcore⟩
theorem opTo_wp [Lays] (h : Core N O0 w0 σ G a w) {dr : Bool} {o : Oper} (ho : OpTo P dr o σ σ') (rd : Option Nat) (n : Nat) {K : Act → World → Prop} {Q : Exit → Act → World → Prop} (hK : ∀ a' w', Inv N O0 w0 σ' a' w' → K a' w') :
    o.wpIn (Fx rd) n P a w K Q := by
  refine ⟨fun _ _ => trivial, ?_⟩
  have hsem : o.semAt (Fx rd).round a.eval = execOp a.eval o := by
    cases rd with
    | none => rfl
    | some l => exact Oper.semAt_some l a.eval o (opTo_noDefer ho)
  rw [hsem]
  obtain ⟨hdst, ho⟩ := ho
  have pure : ∀ d, evP P σ o.op = some d → σ' = σ.putO o.dst d → o.uponIn (Fx rd) n P a K Q ((execOp a.eval o).run P w) := by
    intro d hd he
    obtain ⟨v, hv, hr⟩ := evP_sound (P := P) h hd
    rw [hv]
    subst he
    exact hK _ _ ⟨G, h.putO hdst hr⟩
  have alloc : ∀ k d x, o.dst = some k → evA P σ k o.op = some (d, x) → get k σ.bx = none → σ.men k = false → x.men k = false → σ' = (σ.putB k x).put k d → o.uponIn (Fx rd) n P a K Q ((execOp a.eval o).run P w) := by
    intro k d x hk he hf hm hxm hσ
    obtain ⟨v, w', G', hrun, hc⟩ := evA_sound (P := P) h (hdst k hk) hf hm hxm he
    rw [hrun]
    subst hσ
    show K (a.put o.dst v) w'
    rw [hk]
    exact hK _ _ ⟨G', hc⟩
  split at ho
  · rename_i t x y hop
    obtain ⟨hd, he⟩ := ho
    obtain ⟨w', hrun, hc⟩ := evS_sound (P := P) h hop he
    rw [hrun]
    show K (a.put o.dst undef) w'
    rw [hd]
    exact hK _ _ ⟨G, hc⟩
  · rename_i c hop
    split at ho
    · rename_i f hcal
      rcases ho with ho | ⟨_, ho | ho | ho⟩
      case inr.inr.inl => exact hto_wp h hdst hop hcal ho rd n hK
      case inr.inr.inr =>
        obtain ⟨_, F, F', h1, h2, h3⟩ := ho
        obtain ⟨l, G1, hc1⟩ := h1 _ _ _ _ _ ⟨G, h⟩
        exact hto_wp hc1 (by rw [(h2 l).1]; exact hdst) hop hcal (h2 l).2 rd n (fun a' w' hi => hK a' w' (h3 l _ _ _ _ _ hi))
      case inr.inl =>
        obtain ⟨l, as, own, hd, r, bo, hf, hcl, ⟨hok, hcall⟩, hbx, ho1, hh, rfl⟩ := ho
        obtain ⟨nt, tm, bx⟩ := σ
        dsimp only at hbx hcl ho1 hh hf hdst ⊢
        subst hbx
        have hfv := h.op f
        rw [hf] at hfv
        obtain ⟨x1, x2, hfv, h1, h2⟩ := hfv
        have gown : ∀ j x, get j own = some x → get j (own ++ hd) = some x := fun j x hj => by rw [get_append, hj]
        have ghd : ∀ j x, get j hd = some x → 1000 ≤ j ∧ get j (own ++ hd) = some x := fun j x hj => by
          rcases Nat.lt_or_ge j 1000 with h' | h'
          · rw [(hh j h').1] at hj; cases hj
          · exact ⟨h', by rw [get_append, (ho1 j h').1]; exact hj⟩
        have hdisj : ∀ b, owned G own b → ¬ owned G hd b := fun b ⟨j, x, hj, hb⟩ ⟨k, y, hk, hb2⟩ => by
          have e := h.inj j k x y b (gown j x hj) (ghd k y hk).2 hb hb2
          subst e
          rw [(ho1 j (ghd j y hk).1).1] at hj; cases hj
        have hrow : ∀ b, owned G hd b → owned G (own ++ hd) b := fun b ⟨j, x, hj, hb⟩ => ⟨j, x, (ghd j x hj).2, hb⟩
        have hmvo : ∀ b, owned G own b → owned G (own ++ hd) b := fun b ⟨j, x, hj, hb⟩ => ⟨j, x, gown j x hj, hb⟩
        let N' : Nat → Prop := fun b => N b ∨ owned G own b
        have hkp : Keeps w w (Av N G (own ++ hd)) (Av N' G hd) := {
          size := Nat.le_refl _
          av := fun bw b _ hA hA' => by
            rcases hA' with h3 | ⟨h3, h4 | h4⟩
            · exact hA (.inl (hrow b h3))
            · exact hA (.inr ⟨h3, h4⟩)
            · exact hA (.inl (hmvo b h4))
          cell := fun _ _ _ _ _ => rfl }
        have has := closeDs_sound h (σ2 := ⟨nt, tm, own⟩) gown none (Av N' G hd) hkp (fun k x b _ hk hb hA => by
          rcases hA with h3 | h3
          · exact hdisj b ⟨k, x, hk, hb⟩ h3
          · cases h3.1) _ _ _ hcl (h.ops c.args.toList)
        have hheap : HeapOk (Av N' G hd) w G hd := {
          rep := fun k x hk => RepB.mono hkp (fun _ => False) (fun _ _ => ⟨rfl, rfl⟩) x (fun h => h) (fun _ _ => rfl) (fun _ h => h.elim) (h.rep k x (ghd k x hk).2)
          inj := fun k k' x x' b hk hk' => h.inj k k' x x' b (ghd k x hk).2 (ghd k' x' hk').2
          lt := fun b hb => (h.own b (hrow b hb)).1
          laid := h.laidA.sub (fun b hb => by
            rcases hb with h3 | ⟨_, h3 | h3⟩
            · exact .inr (hrow b h3)
            · exact .inl h3
            · exact .inr (hmvo b h3)) }
        have hN'lt : ∀ b, N' b → b < w.heap.size := fun b hb => by
          rcases hb with hb | hb
          · exact Nat.lt_of_lt_of_le (h.nlt b hb) h.fr.size
          · exact (h.own b (hmvo b hb)).1
        have hN'd : ∀ b, owned G hd b → ¬ N' b := fun b hb hn => by
          rcases hn with hn | hn
          · rcases (h.own b (hrow b hb)).2 with h3 | h3
            · exact h.odis b h3 hn
            · have := h.nlt b hn; omega
          · exact hdisj b hn hb
        obtain ⟨f', tmps, assign, body, hy, hround⟩ := hcall N' G w _ hN'lt hN'd hheap has
        have hx1 : x1 = #[] := by simpa using h1.length
        have hx2 : x2 = #[] := by simpa using h2.length
        have hrun : (execOp a.eval o).run P w = .ok (.round l f' tmps assign body) w := by
          obtain ⟨dst, op, ty, pos, after, guard⟩ := o
          dsimp only at hop
          subst hop
          simp only [execOp, resolve, hcal, hfv, hx1, hx2, Deferred.ofValue, Sem.run_bind, Sem.run_pure, Result.andThen_ok, invoke]
          rw [← hy]
          congr 2
          apply Array.ext'
          simp
        rw [hrun, Oper.uponIn_round]
        refine ⟨fun h => (by cases h), RoundIn.mono (hround rd (n - 1)) ?_⟩
        rintro e w' ⟨G', v, rfl, hheap', hr, hfr', hown⟩
        obtain ⟨G'', hcore⟩ := h.yieldRet (a := a) (dst := o.dst) ho1 hh (N' := N') (fun b hb => hb) hok hheap' hr hfr' hown hdst
        exact hK _ _ ⟨G'', hcore⟩
      obtain ⟨σ0, h0, ho⟩ := ho
      obtain ⟨G0, hc0⟩ : ∃ G0, Core N O0 w0 σ0 G0 a w := by
        rcases h0 with rfl | ⟨_, he⟩
        · exact ⟨G, h⟩
        · exact he _ _ _ _ _ ⟨G, h⟩
      have hdst : ∀ t, o.dst = some t → t < σ0.nt := fun t ht => by
        have := hdst t ht
        rw [← hc0.nt, h.nt]; exact this
      obtain ⟨g, fs, caps, mv, as, r, bo, hce, hcl, ⟨hbody, hok, hcall⟩, hfr, _, rfl⟩ := ho
      obtain ⟨x1, x2, hf, h1, h2⟩ := callee_sound hce (hc0.op f)
      have hargs : RepDs w (Av N G0 σ0.bx) G0 (fs ++ c.args.toList.map σ0.op ++ caps) (x1.toList ++ (c.args.toList.map a.eval) ++ x2.toList) := (h1.append (hc0.ops _)).append h2
      let N' : Nat → Prop := fun b => N b ∨ owned G0 (σ0.moved mv).bx b
      have hmvo : ∀ b, owned G0 (σ0.moved mv).bx b → owned G0 σ0.bx b := fun b ⟨j, x, hj, hb⟩ => owned_killO.1 ⟨j, x, (moved_get.1 hj).2, hb⟩
      have hrow : ∀ b, owned G0 (σ0.rowsOf mv) b → owned G0 σ0.bx b := fun b hb => by
        obtain ⟨k, x, _, h2, h3⟩ := owned_rows.1 hb
        exact ⟨k, x, h2, h3⟩
      have hdisj : ∀ b, owned G0 (σ0.moved mv).bx b → ¬ owned G0 (σ0.rowsOf mv) b := fun b ⟨j, x, hj, hb⟩ hb2 => by
        obtain ⟨k, y, hm, h2, h3⟩ := owned_rows.1 hb2
        have hj' := moved_get.1 hj
        have hk : ∃ y', get k (σ0.killO mv).bx = some y' := by
          rw [hm]
          exact ⟨killB k y, by simp only [St.killO, St.kill, get_map, h2, Option.map_some]⟩
        obtain ⟨y', hk⟩ := hk
        have e := (hc0.killO mv).inj j k x y' b hj'.2 hk hb h3
        exact hj'.1 (by rw [e]; exact hm)
      have hkp : Keeps w w (Av N G0 σ0.bx) (Av N' G0 (σ0.rowsOf mv)) := {
        size := Nat.le_refl _
        av := fun bw b _ hA hA' => by
          rcases hA' with h3 | ⟨h3, h4 | h4⟩
          · exact hA (.inl (hrow b h3))
          · exact hA (.inr ⟨h3, h4⟩)
          · exact hA (.inl (hmvo b h4))
        cell := fun _ _ _ _ _ => rfl }
      have hnA : ∀ k x b, mv ≠ some k → get k σ0.bx = some x → G0.β k = some b → ¬ Av N' G0 (σ0.rowsOf mv) true b := fun k x b hmk hk hb hA => by
        rcases hA with h3 | h3
        · obtain ⟨k', x', hm, h4, h5⟩ := owned_rows.1 h3
          exact hmk (by rw [hm, hc0.inj k k' x x' b hk h4 hb h5])
        · cases h3.1
      have has : RepDs w (Av N' G0 (σ0.rowsOf mv)) G0 as (x1.toList ++ (c.args.toList.map a.eval) ++ x2.toList) := by
        rcases hcl with hcl | ⟨hmv, hcl⟩ | ⟨hmv, hcl⟩
        · exact closeDs_sound hc0 (σ2 := σ0) (fun _ _ hc0 => hc0) mv (Av N' G0 (σ0.rowsOf mv)) hkp hnA _ _ _ hcl hargs
        · exact closeNs_sound hc0 _ hkp (fun k x b => hnA k x b (by rw [hmv]; exact fun e => by cases e)) hcl hargs
        · exact closePs_sound hc0 _ hkp (fun k x b => hnA k x b (by rw [hmv]; exact fun e => by cases e)) hcl hargs
      have hheap : HeapOk (Av N' G0 (σ0.rowsOf mv)) w G0 (σ0.rowsOf mv) := {
        rep := fun k x hk => RepB.mono hkp (fun _ => False) (fun _ _ => ⟨rfl, rfl⟩) x (fun hc0 => hc0) (fun _ _ => rfl) (fun _ hc0 => hc0.elim) (hc0.rep k x (get_rowsOf.1 hk).2)
        inj := fun k k' x x' b hk hk' => hc0.inj k k' x x' b (get_rowsOf.1 hk).2 (get_rowsOf.1 hk').2
        lt := fun b hb => (hc0.own b (hrow b hb)).1
        laid := hc0.laidA.sub (fun b hb => by
          rcases hb with h3 | ⟨_, h3 | h3⟩
          · exact .inr (hrow b h3)
          · exact .inl h3
          · exact .inr (hmvo b h3)) }
      have hN'lt : ∀ b, N' b → b < w.heap.size := fun b hb => by
        rcases hb with hb | hb
        · exact Nat.lt_of_lt_of_le (hc0.nlt b hb) hc0.fr.size
        · exact (hc0.own b (hmvo b hb)).1
      have hN'd : ∀ b, owned G0 (σ0.rowsOf mv) b → ¬ N' b := fun b hb hn => by
        rcases hn with hn | hn
        · rcases (hc0.own b (hrow b hb)).2 with h3 | h3
          · exact hc0.odis b h3 hn
          · have := hc0.nlt b hn; omega
        · exact hdisj b hn hb
      have hc := hcall N' G0 w _ hN'lt hN'd hheap has
      have hrun : (execOp a.eval o).run P w = .ok (.enter g (x1.toList ++ (c.args.toList.map a.eval) ++ x2.toList).toArray) w := by
        obtain ⟨dst, op, ty, pos, after, guard⟩ := o
        dsimp only at hop
        subst hop
        simp only [execOp, resolve, hcal, hf, Deferred.ofValue, Sem.run_bind, Sem.run_pure, Result.andThen_ok, invoke, run_callFunc hbody]
        congr 3
        apply Array.ext'
        simp
      rw [hrun]
      refine ⟨fun hc0 => (by cases hc0), CallsIn.mono (calls_Fx rd (n - 1) hc) ?_⟩
      rintro e w' ⟨G', v, rfl, hheap', hr, hfr', hown⟩
      obtain ⟨G'', hcore⟩ := hc0.callRet (a := a) mv hfr (N' := N') (fun b hb => hb) hok hheap' hr hfr' hown hdst
      exact hK _ _ ⟨G'', hcore⟩
    · rename_i hcal
      obtain ⟨hd, x, t, hca, hct, he⟩ := ho
      obtain ⟨w', hrun, hc⟩ := clear_sound (P := P) h (h.op x) he o.type
      have hrun' : (execOp a.eval o).run P w = .ok (.value (.tuple #[])) w' := by
        obtain ⟨dst, op, ty, pos, after, guard⟩ := o
        dsimp only at hop hrun
        subst hop
        simp only [execOp, resolve, hcal, hca, hct, Sem.run_bind, Sem.run_pure, Result.andThen_ok, invoke, builtin]
        simp only [List.map_toArray, List.map_cons, List.map_nil, hrun, Result.andThen_ok]
      rw [hrun']
      show K (a.put o.dst _) w'
      rw [hd]
      exact hK _ _ ⟨G, hc⟩
    · rename_i hcal
      obtain ⟨k, s, x, st, xt, len, bytes, hk, hca, hct, happ, hb1, hb2⟩ := ho
      obtain ⟨v, w', G', hrun, hc⟩ := appD_sound (P := P) h (hdst k hk) (h.op s) (h.op x) happ hb1 hb2 o.type
      have hrun' : (execOp a.eval o).run P w = .ok (.value v) w' := by
        obtain ⟨dst, op, ty, pos, after, guard⟩ := o
        dsimp only at hop hrun
        subst hop
        simp only [execOp, resolve, hcal, hca, hct, Sem.run_bind, Sem.run_pure, Result.andThen_ok, invoke, builtin]
        simp only [List.map_toArray, List.map_cons, List.map_nil, hrun, Result.andThen_ok]
      rw [hrun']
      show K (a.put o.dst v) w'
      rw [hk]
      exact hK _ _ ⟨G', hc⟩
    · rename_i hcal
      obtain ⟨k, s, x, st, xt, σ1, m, hk, hca, hct, hcp, rfl⟩ := ho
      obtain ⟨w', hrun, hc⟩ := copyD_sound (P := P) (xt := xt) h (h.op s) (h.op x) hcp o.type
      have hrun' : (execOp a.eval o).run P w = .ok (.value (.int .i64 m)) w' := by
        obtain ⟨dst, op, ty, pos, after, guard⟩ := o
        dsimp only at hop hrun
        subst hop
        simp only [execOp, resolve, hcal, hca, hct, Sem.run_bind, Sem.run_pure, Result.andThen_ok, invoke, builtin]
        simp only [List.map_toArray, List.map_cons, List.map_nil, hrun, Result.andThen_ok]
      rw [hrun']
      show K (a.put o.dst _) w'
      rw [hk]
      exact hK _ _ ⟨G, hc.put (by rw [copyD_nt hcp]; exact hdst k hk) ⟨rfl, rfl⟩⟩
    · obtain ⟨d, hd, he⟩ := ho
      exact pure d hd he
    · cases ho
  · rename_i hop
    obtain ⟨hd, he⟩ := ho
    obtain ⟨w', hrun, hc⟩ := evM_sound (P := P) h he
    have hrun' : (execOp a.eval o).run P w = .ok .skip w' := by
      obtain ⟨dst, op, ty, pos, after, guard⟩ := o
      dsimp only at hop
      subst hop
      simp only [execOp, Sem.run_bind, hrun, Result.andThen_ok, Sem.run_pure]
    rw [hrun']
    show K (a.put o.dst undef) w'
    rw [hd]
    exact hK _ _ ⟨G, hc⟩
  · rename_i hop
    obtain ⟨hd, he⟩ := ho
    obtain ⟨w', hrun, hc⟩ := evM_sound (P := P) h he
    have hrun' : (execOp a.eval o).run P w = .ok .skip w' := by
      obtain ⟨dst, op, ty, pos, after, guard⟩ := o
      dsimp only at hop
      subst hop
      simp only [execOp, Sem.run_bind, hrun, Result.andThen_ok, Sem.run_pure]
    rw [hrun']
    show K (a.put o.dst undef) w'
    rw [hd]
    exact hK _ _ ⟨G, hc⟩
  · obtain ⟨k, d, x, h1, h2, h3, h4, h5, h6⟩ := ho
    exact alloc k d x h1 h2 h3 h4 h5 h6
  · obtain ⟨k, d, x, h1, h2, h3, h4, h5, h6⟩ := ho
    exact alloc k d x h1 h2 h3 h4 h5 h6
  · obtain ⟨k, d, x, h1, h2, h3, h4, h5, h6⟩ := ho
    exact alloc k d x h1 h2 h3 h4 h5 h6
  · obtain ⟨k, d, x, h1, h2, h3, h4, h5, h6⟩ := ho
    exact alloc k d x h1 h2 h3 h4 h5 h6
  · obtain ⟨k, d, x, h1, h2, h3, h4, h5, h6⟩ := ho
    exact alloc k d x h1 h2 h3 h4 h5 h6
  · obtain ⟨d, hd, he⟩ := ho
    exact pure d hd he
structure Rd (O0 : Nat → Prop) (w0 : World) where
  val : Option Nat
  ok : ∀ l, val = some l → ∃ r, w0.heap[l]? = some (.loop r) ∧ ¬ O0 l
def W [Lays] (P : Program) (c : Code) (Q : Exit → St → Prop) (σ : St) : Prop :=
  ∀ (N O0 : Nat → Prop) (w0 : World) (a : Act) (w : World) (rd : Rd O0 w0) (n : Nat) (Qm : Exit → Act → World → Prop), Inv N O0 w0 σ a w → (∀ e σ' a' w', Q e σ' → Inv N O0 w0 σ' a' w' → Qm e a' w') →
    c.wpIn (Fx rd.1) n P Qm a w
theorem Ent.refl [Lays] (σ : St) : Ent σ σ := fun _ _ _ _ _ h => h
theorem Ent.trans [Lays] {σ1 σ2 σ3 : St} (h : Ent σ1 σ2) (h' : Ent σ2 σ3) : Ent σ1 σ3 := fun _ _ _ _ _ x => h' _ _ _ _ _ (h _ _ _ _ _ x)
theorem W.ent [Lays] {c : Code} {Q : Exit → St → Prop} (h : Ent σ σ') (hw : W P c Q σ') : W P c Q σ := fun N O0 w0 a w rd n Qm hi hq => hw N O0 w0 a w rd n Qm (h _ _ _ _ _ hi) hq
theorem W.mono [Lays] {c : Code} {Q Q' : Exit → St → Prop} (hw : W P c Q σ) (h : ∀ e σ', Q e σ' → Q' e σ') : W P c Q' σ := fun N O0 w0 a w rd n Qm hi hq => hw N O0 w0 a w rd n Qm hi (fun e σ' a' w' q => hq e σ' a' w' (h e σ' q))
theorem W.post [Lays] {c : Code} {Q Q' : Exit → St → Prop} (hw : W P c Q σ) (h : ∀ e σ', Q e σ' → ∃ σ'', Ent σ' σ'' ∧ Q' e σ'') : W P c Q' σ := fun N O0 w0 a w rd n Qm hi hq =>
  hw N O0 w0 a w rd n Qm hi (fun e σ' a' w' q hi' => let ⟨σ'', he, q'⟩ := h e σ' q; hq e σ'' a' w' q' (he _ _ _ _ _ hi'))
theorem W.skip [Lays] {Q : Exit → St → Prop} (h : Q .normal σ) : W P .skip Q σ := fun _ _ _ _ _ _ _ _ hi hq => wpIn_skip (hq _ _ _ _ h hi)
theorem W.ret [Lays] {Q : Exit → St → Prop} (h : Q .ret σ) : W P .ret Q σ := fun _ _ _ _ _ _ _ _ hi hq => wpIn_ret (hq _ _ _ _ h hi)
theorem W.exit [Lays] {Q : Exit → St → Prop} {id : Nat} (h : Q (.exit id) σ) : W P (.exit id) Q σ := fun _ _ _ _ _ _ _ _ hi hq => wpIn_exit (hq _ _ _ _ h hi)
def thenQ [Lays] (P : Program) (y : Code) (Q : Exit → St → Prop) : Exit → St → Prop := fun e σ => match e with
  | .normal => W P y Q σ
  | e => Q e σ
theorem W.seq [Lays] {x y : Code} {Q : Exit → St → Prop} (h : W P x (thenQ P y Q) σ) : W P (.seq x y) Q σ := fun N O0 w0 a w rd n Qm hi hq =>
  wpIn_seq (h N O0 w0 a w rd n _ hi (fun e σ' a' w' q hi' => by
    cases e with
    | normal => exact q N O0 w0 a' w' rd n Qm hi' hq
    | exit id => exact hq _ _ _ _ q hi'
    | goto l => exact hq _ _ _ _ q hi'
    | ret => exact hq _ _ _ _ q hi'
    | panic c => exact hq _ _ _ _ q hi'
    | outgrown => exact hq _ _ _ _ q hi'))
def blockQ (id : Nat) (Q : Exit → St → Prop) : Exit → St → Prop := fun e σ => match e with
  | .exit i => if i = id then Q .normal σ else Q (.exit i) σ
  | e => Q e σ
theorem W.block [Lays] {id : Nat} {c : Code} {Q : Exit → St → Prop} (h : W P c (blockQ id Q) σ) : W P (.block id c) Q σ := fun N O0 w0 a w rd n Qm hi hq =>
  wpIn_block (h N O0 w0 a w rd n _ hi (fun e σ' a' w' q hi' => by
    cases e with
    | normal => exact hq _ _ _ _ q hi'
    | exit i =>
      simp only [blockQ] at q
      simp only [Exit.inBlock]
      split at q
      · rename_i e; rw [if_pos e]; exact hq _ _ _ _ q hi'
      · rename_i e; rw [if_neg e]; exact hq _ _ _ _ q hi'
    | goto l => exact hq _ _ _ _ q hi'
    | ret => exact hq _ _ _ _ q hi'
    | panic c => exact hq _ _ _ _ q hi'
    | outgrown => exact hq _ _ _ _ q hi'))
theorem W.cond [Lays] {c : Operand} {x y : Code} {Q : Exit → St → Prop} {b : Bool} (hc : σ.op c = bD b) (hx : b = true → W P x Q σ) (hy : b = false → W P y Q σ) : W P (.cond c x y) Q σ := fun N O0 w0 a w rd n Qm hi hq => by
  obtain ⟨G, hcore⟩ := hi
  have hr := hcore.op c
  rw [hc] at hr
  refine wpIn_cond_split (t := b) hr.1 (fun h => hx h N O0 w0 a w rd n Qm ⟨G, hcore⟩ hq) (fun h => hy h N O0 w0 a w rd n Qm ⟨G, hcore⟩ hq)
theorem least {p : Nat → Prop} (h : ∃ k, p k) : ∃ k, p k ∧ ∀ j, p j → k ≤ j := by
  obtain ⟨k, hk⟩ := h
  induction k using Nat.strongRecOn with
  | _ k ih =>
    by_cases hq : ∃ j, j < k ∧ p j
    · obtain ⟨j, hj, hp⟩ := hq
      exact ih j hj hp
    · exact ⟨k, hk, fun j hj => Nat.le_of_not_lt fun hlt => hq ⟨j, hlt, hj⟩⟩
def loopQ [Lays] {ι : Type} (mk : ι → St) (m : ι → Nat) (Q : Exit → St → Prop) (i : ι) : Exit → St → Prop := fun e σ' => match e with
  | .normal => ∃ i', m i' < m i ∧ Ent σ' (mk i')
  | e => Q e σ'
theorem W.loop [Lays] {c : Code} {Q : Exit → St → Prop} {ι : Type} (mk : ι → St) (m : ι → Nat) (i0 : ι) (h0 : Ent σ (mk i0)) (h : ∀ i, W P c (loopQ mk m Q i) (mk i)) : W P (.loop c) Q σ := fun N O0 w0 a w rd n Qm hi hq => by
  classical
  let p : Act → World → Nat → Prop := fun a w k => ∃ i, m i = k ∧ Inv N O0 w0 (mk i) a w
  let μ : Act → World → Nat := fun a w => if h : ∃ k, p a w k then Classical.choose (least h) else 0
  have hμ : ∀ a w, (∃ k, p a w k) → p a w (μ a w) ∧ ∀ j, p a w j → μ a w ≤ j := fun a w h => by
    have := Classical.choose_spec (least h)
    show p a w (if h : ∃ k, p a w k then Classical.choose (least h) else 0) ∧ ∀ j, p a w j → (if h : ∃ k, p a w k then Classical.choose (least h) else 0) ≤ j
    rw [dif_pos h]
    exact this
  refine wpIn_loop (fun a w => ∃ k, p a w k) μ ⟨_, i0, rfl, h0 _ _ _ _ _ hi⟩ ?_
  intro a1 w1 hI
  obtain ⟨⟨i, hmi, hinv⟩, _⟩ := hμ a1 w1 hI
  refine h i N O0 w0 a1 w1 rd n _ hinv ?_
  intro e σ' a' w' q hi'
  cases e with
  | normal =>
    obtain ⟨i', hlt, hent⟩ := q
    have hp : p a' w' (m i') := ⟨i', rfl, hent _ _ _ _ _ hi'⟩
    refine ⟨⟨_, hp⟩, ?_⟩
    have := (hμ a' w' ⟨_, hp⟩).2 _ hp
    omega
  | exit id => exact hq _ _ _ _ q hi'
  | goto l => exact hq _ _ _ _ q hi'
  | ret => exact hq _ _ _ _ q hi'
  | panic c => exact hq _ _ _ _ q hi'
  | outgrown => exact hq _ _ _ _ q hi'
end Go.Dw
end
