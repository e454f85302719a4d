/- The law TopRollBoard returns true for every input, and changes nothing that was there before: the full statement TopRollBoardSaid, without conditions. -/
import Derived.Test.YtakhpmbcndkkfaaC01
import Derived.Test.YtakhpmbcndkkfaaRows
import Derived.ProofKit
import Derived.OpenShut
set_option linter.unusedVariables false
set_option linter.unusedSimpArgs false
section
set_option linter.unusedSimpArgs false
set_option maxRecDepth 100000
namespace Go.Dw.Seat
open Go Go.Dw Go.Proofs Go.ChangeShapes Go.WideShapes Go.ChangeAt Go.RowKit
theorem tOwn : ownKnob Try.prog.godebug = none := by kernel_rfl
theorem tLaid : laidOutB Try.prog = true := by kernel_rfl
theorem u4 : Try.prog.underlying 4 = some .bool := by kernel_rfl
theorem uT5 : Try.prog.underlying 5 = some (.int .u8) := by kernel_rfl
theorem clT5 : Try.prog.cellsOf 5 = 1 := by kernel_rfl
def bV (l : List Nat) : List Value := l.map fun n : Nat => Value.int .u8 (n : Int)
section
variable {H : Type} {enc : TypeId × Value → H} {w : World} {base : Nat} {spare : Nat → Bool} {held : Bool}
theorem wf8 {n : Int} (h : (Lit.int .u8 n).wf = true) : ∃ v : Nat, n = v ∧ v < 256 := by
 have e1 : IntKind.min .u8 = 0 := by decide
 have e2 : IntKind.max .u8 = 255 := by decide
 simp only [Lit.wf, e1, e2, Bool.and_eq_true, decide_eq_true_eq] at h
 exact ⟨n.toNat, by omega, by omega⟩
theorem rd_U8 {fuel : Nat} {cs : List Value} {x : DataW H × List MemPlace} (h : DataW.trod enc Try.prog w base spare held fuel 5 cs = some x) : ∃ l : List Nat, (l.length = 1 ∧ AllLt 256 l) ∧ cs = bV l := by
 obtain ⟨n, e, hw⟩ := rd_int uT5 h
 obtain ⟨v, rfl, hv⟩ := wf8 hw
 exact ⟨[v], ⟨rfl, fun x hx => by rw [List.mem_singleton] at hx; rw [hx]; exact hv⟩, e⟩
theorem bV_app (a b : List Nat) : bV (a ++ b) = bV a ++ bV b := by simp [bV]
theorem lt_app {b : Nat} {l l' : List Nat} (h : AllLt b l) (h' : AllLt b l') : AllLt b (l ++ l') := fun x hx => by
 rcases List.mem_append.1 hx with h1 | h1
 ·exact h x h1
 ·exact h' x h1
theorem rd_arrB {fuel : Nat} {cs : List Value} {x : DataW H × List MemPlace} {t e : TypeId} {n k : Nat} (ht : Try.prog.underlying t = some (.array n e)) (he : Try.prog.cellsOf e = k) (hc : Try.prog.cellsOf t = n * k)
  (hrd : ∀ m cs x, DataW.trod enc Try.prog w base spare held m e cs = some x → ∃ l : List Nat, (l.length = k ∧ AllLt 256 l) ∧ cs = bV l) (h : DataW.trod enc Try.prog w base spare held fuel t cs = some x) : ∃ l : List Nat, (l.length = n * k ∧ AllLt 256 l) ∧ cs = bV l := by
 obtain ⟨hl, m, hf⟩ := rd_array ht h
 rw [hc] at hl
 have key : ∀ j, j ≤ n → ∃ l : List Nat, (l.length = j * k ∧ AllLt 256 l) ∧ cs.take (j * k) = bV l := by
  intro j
  induction j with
  | zero => intro _; exact ⟨[], ⟨by simp, fun x hx => by cases hx⟩, by simp [bV]⟩
  | succ j ih =>
   intro hj
   obtain ⟨l, ⟨h1, h2⟩, h3⟩ := ih (by omega)
   obtain ⟨y, hy⟩ := hf j (by omega)
   rw [he] at hy
   obtain ⟨l', ⟨h4, h5⟩, h6⟩ := hrd _ _ _ hy
   refine ⟨l ++ l', ⟨by rw [List.length_append, h1, h4, Nat.succ_mul], lt_app h2 h5⟩, ?_⟩
   rw [Nat.succ_mul, List.take_add, h3, h6, bV_app]
 obtain ⟨l, h1, h2⟩ := key n (Nat.le_refl _)
 rw [List.take_of_length_le (by omega)] at h2
 exact ⟨l, h1, h2⟩
theorem uT118 : Try.prog.underlying 118 = some (.array 6 5) := by kernel_rfl
theorem clT118 : Try.prog.cellsOf 118 = 6 := by kernel_rfl
theorem rd_T118 {fuel : Nat} {cs : List Value} {x : DataW H × List MemPlace} (h : DataW.trod enc Try.prog w base spare held fuel 118 cs = some x) : ∃ l : List Nat, (l.length = 6 ∧ AllLt 256 l) ∧ cs = bV l := rd_arrB (n := 6) (k := 1) uT118 clT5 clT118 (fun _ _ _ h => rd_U8 h) h
theorem uT71 : Try.prog.underlying 71 = some (.array 3 5) := by kernel_rfl
theorem clT71 : Try.prog.cellsOf 71 = 3 := by kernel_rfl
theorem rd_T71 {fuel : Nat} {cs : List Value} {x : DataW H × List MemPlace} (h : DataW.trod enc Try.prog w base spare held fuel 71 cs = some x) : ∃ l : List Nat, (l.length = 3 ∧ AllLt 256 l) ∧ cs = bV l := rd_arrB (n := 3) (k := 1) uT71 clT5 clT71 (fun _ _ _ h => rd_U8 h) h
theorem uT24 : Try.prog.underlying 24 = some (.slice 5) := by kernel_rfl
theorem clT24 : Try.prog.cellsOf 24 = 1 := by kernel_rfl
theorem rd_T24 {fuel : Nat} {cs : List Value} {x : DataW H × List MemPlace} (h : DataW.trod enc Try.prog w base spare held fuel 24 cs = some x) : ∃ (l : List Nat) (v : Value), cs = [v] ∧ RepC w A0 (.sl false 1 (rows e1 l)) v ∧ l.length ≤ maxLen ∧ AllLt 256 l := by
 obtain ⟨l, v, e', hr, hm, _⟩ := rd_slice (f := fun v : {v : Nat // v < 256} => e1 v.1) uT24 clT5 (by decide) (fun _ => rfl) (fun m cs x h => by
  obtain ⟨n, e, hw⟩ := rd_int uT5 h
  obtain ⟨v, rfl, hv⟩ := wf8 hw
  subst e
  exact ⟨⟨v, hv⟩, _, _, rfl, ⟨rfl, rfl⟩, rfl⟩) h
 refine ⟨l.map (·.1), v, e', ?_, by simpa using hm, fun u hu => ?_⟩
 ·have : rows e1 (l.map (·.1)) = rows (fun v : {v : Nat // v < 256} => e1 v.1) l := by simp [rows, Function.comp_def]
  rw [this]; exact hr
 ·obtain ⟨a, _, rfl⟩ := List.mem_map.1 hu
  exact a.2
theorem uT22 : Try.prog.underlying 22 = some (.slice 118) := by kernel_rfl
theorem clT22 : Try.prog.cellsOf 22 = 1 := by kernel_rfl
theorem rd_W6 {fuel : Nat} {cs : List Value} {x : DataW H × List MemPlace} (h : DataW.trod enc Try.prog w base spare held fuel 118 cs = some x) : ∃ v : {v : V6 // v.ok}, RepVs w A0 (e6 v.1) cs := by
 obtain ⟨l, ⟨h1, h2⟩, h3⟩ := rd_T118 h
 subst h3
 match l, h1 with
 | [a, b, c, d, e, f], _ => exact ⟨⟨⟨a, b, c, d, e, f⟩, h2 a (by simp), h2 b (by simp), h2 c (by simp), h2 d (by simp), h2 e (by simp), h2 f (by simp)⟩, _, _, rfl, ⟨rfl, rfl⟩, _, _, rfl, ⟨rfl, rfl⟩, _, _, rfl, ⟨rfl, rfl⟩, _, _, rfl, ⟨rfl, rfl⟩, _, _, rfl, ⟨rfl, rfl⟩, _, _, rfl, ⟨rfl, rfl⟩, rfl⟩
theorem rd_X22 {fuel : Nat} {cs : List Value} {x : DataW H × List MemPlace} (h : DataW.trod enc Try.prog w base spare held fuel 22 cs = some x) : ∃ (l : List V6) (v : Value), cs = [v] ∧ RepC w A0 (.sl false 6 (rows e6 l)) v ∧ l.length ≤ maxLen ∧ ∀ v ∈ l, v.ok := by
 obtain ⟨l, v, e', hr, hm, _⟩ := rd_slice (f := fun v : {v : V6 // v.ok} => e6 v.1) uT22 clT118 (by decide) (fun _ => rfl) (fun m cs x h => rd_W6 h) h
 refine ⟨l.map (·.1), v, e', ?_, by simpa using hm, fun u hu => ?_⟩
 ·have : rows e6 (l.map (·.1)) = rows (fun v : {v : V6 // v.ok} => e6 v.1) l := by simp [rows, Function.comp_def]
  rw [this]; exact hr
 ·obtain ⟨a, _, rfl⟩ := List.mem_map.1 hu
  exact a.2
theorem uT23 : Try.prog.underlying 23 = some (.slice 71) := by kernel_rfl
theorem clT23 : Try.prog.cellsOf 23 = 1 := by kernel_rfl
theorem rd_W3 {fuel : Nat} {cs : List Value} {x : DataW H × List MemPlace} (h : DataW.trod enc Try.prog w base spare held fuel 71 cs = some x) : ∃ v : {v : V3 // v.ok}, RepVs w A0 (e3 v.1) cs := by
 obtain ⟨l, ⟨h1, h2⟩, h3⟩ := rd_T71 h
 subst h3
 match l, h1 with
 | [a, b, c], _ => exact ⟨⟨⟨a, b, c⟩, h2 a (by simp), h2 b (by simp), h2 c (by simp)⟩, _, _, rfl, ⟨rfl, rfl⟩, _, _, rfl, ⟨rfl, rfl⟩, _, _, rfl, ⟨rfl, rfl⟩, rfl⟩
theorem rd_X23 {fuel : Nat} {cs : List Value} {x : DataW H × List MemPlace} (h : DataW.trod enc Try.prog w base spare held fuel 23 cs = some x) : ∃ (l : List V3) (v : Value), cs = [v] ∧ RepC w A0 (.sl false 3 (rows e3 l)) v ∧ l.length ≤ maxLen ∧ ∀ v ∈ l, v.ok := by
 obtain ⟨l, v, e', hr, hm, _⟩ := rd_slice (f := fun v : {v : V3 // v.ok} => e3 v.1) uT23 clT71 (by decide) (fun _ => rfl) (fun m cs x h => rd_W3 h) h
 refine ⟨l.map (·.1), v, e', ?_, by simpa using hm, fun u hu => ?_⟩
 ·have : rows e3 (l.map (·.1)) = rows (fun v : {v : V3 // v.ok} => e3 v.1) l := by simp [rows, Function.comp_def]
  rw [this]; exact hr
 ·obtain ⟨a, _, rfl⟩ := List.mem_map.1 hu
  exact a.2
theorem uT26 : structIs Try.prog 26 [(22, 0), (23, 1), (24, 2)] = true := by kernel_rfl
theorem clT26 : Try.prog.cellsOf 26 = 3 := by kernel_rfl
def cWar (x : War) : List C := [.sl false 6 (rows e6 x.papers), .sl false 3 (rows e3 x.flutes), .sl false 1 (rows eY x.by')]
theorem rd_T26 {fuel : Nat} {cs : List Value} {x : DataW H × List MemPlace} (h : DataW.trod enc Try.prog w base spare held fuel 26 cs = some x) : ∃ s : War, s.ok ∧ RepVs w A0 (cWar s) cs := by
 obtain ⟨hl, m, hf⟩ := rd_struct uT26 h
 rw [clT26] at hl
 obtain ⟨y0, h0⟩ := hf 0 22 0 rfl
 obtain ⟨y1, h1⟩ := hf 1 23 1 rfl
 obtain ⟨y2, h2⟩ := hf 2 24 2 rfl
 rw [clT22] at h0
 rw [clT23] at h1
 rw [clT24] at h2
 obtain ⟨L0, v0, e0, r0, m0, p0⟩ := rd_X22 h0
 obtain ⟨L1, v1, e1, r1, m1, p1⟩ := rd_X23 h1
 obtain ⟨L2, v2, e2, r2, m2, p2⟩ := rd_T24 h2
 match cs, hl with
 | [c0, c1, c2], _ =>
  simp at e0 e1 e2
  subst e0; subst e1; subst e2
  exact ⟨⟨L0, L1, L2⟩, ⟨p0, p1, p2⟩, _, _, rfl, r0, _, _, rfl, r1, _, _, rfl, r2, rfl⟩
theorem uT89 : Try.prog.underlying 89 = some (.int .u16) := by kernel_rfl
theorem rd_U16 {fuel : Nat} {cs : List Value} {x : DataW H × List MemPlace} (h : DataW.trod enc Try.prog w base spare held fuel 89 cs = some x) : ∃ v : Nat, cs = [.int .u16 v] ∧ v < 65536 := by
 obtain ⟨n, e, hw⟩ := rd_int uT89 h
 have e1 : IntKind.min .u16 = 0 := by decide
 have e2 : IntKind.max .u16 = 65535 := by decide
 simp only [Lit.wf, e1, e2, Bool.and_eq_true, decide_eq_true_eq] at hw
 obtain ⟨v, rfl⟩ : ∃ v : Nat, n = v := ⟨n.toNat, by omega⟩
 exact ⟨v, e, by omega⟩
end
set_option maxHeartbeats 800000 in
theorem topRollBoardLifted (os : Os) (started : os.Started) (H : Type) (enc : TypeId × Value → H) :
  ReturnsInHanded {} Try.checked os 5 .any (Ytakhpmbcndkkfaa.Rows.topRollBoardSpec.pre6 enc Try.prog Try.f5 Ytakhpmbcndkkfaa.Rows.topRollBoardRow.domain false) (Ytakhpmbcndkkfaa.Rows.topRollBoardSpec.post enc Try.prog Try.f5 false true false false) := by
 refine returnsInHanded_of_change (C := Try.checked) tOwn started (by kernel_rfl) Try.func5
  (ChangeSpec.witness6 (enc := enc) (C := Try.checked) false ⟨#[], #[.agg #[.slice none 0 0, .slice none 0 0, .slice none 0 0], .int .u16 0], []⟩ 8 (by kernel_rfl) (by kernel_rfl) (by kernel_rfl) (by kernel_rfl)) ?_
 intro W base args ds gs before hval0 hW _ _
 have hval : ∀ (j : Nat) t v, Try.f5.params[j]? = some t → args[j]? = some v → Value.okWide Try.prog W .any base t v := hval0
 have hW' : DataW.Whole enc Try.prog Try.f5.params.toList [] false W args.toList ds gs before := hW
 obtain ⟨p, q, hA, hV, rfl, hfz, hnd⟩ := hW
 have hA : DataW.TrodAll enc Try.prog W 0 (fun _ => true) true [26, 89] args.toList ds p := hA
 obtain ⟨rfl, rfl⟩ := trodVars_none hV
 obtain ⟨v0, vs0, d0, ds0, p0, q0, hargs, rfl, rfl, h0, r0⟩ := trodAll_cons hA
 obtain ⟨v1, vs1, d1, ds1, p1, q1, rfl, rfl, rfl, h1, r1⟩ := trodAll_cons r0
 obtain ⟨rfl, rfl, rfl⟩ := trodAll_nil r1
 obtain rfl : args = #[v0, v1] := by cases args; simp_all
 obtain ⟨f0, hu0, _⟩ := structIs_spec uT26
 obtain ⟨c0, rfl, _⟩ := okWide_struct hu0 (hval 0 26 v0 rfl rfl)
 obtain ⟨n1, rfl⟩ := okWide_int uT89 (hval 1 89 v1 rfl rfl)
 obtain ⟨fu0, h0⟩ := h0
 obtain ⟨fu1, h1⟩ := h1
 obtain ⟨s0, ho0, hr0⟩ := rd_T26 h0
 have hr0 : RepVs W A0 (cWar s0) c0.toList := by simpa [Value.cells] using hr0
 obtain ⟨s1, e1, ho1⟩ := rd_U16 h1
 have e1 : n1 = s1 := by simpa [Value.cells] using e1
 subst e1
 refine ((rollBoardY s0 ho0 s1 ho1).calls (W := W) (vs := [.agg c0, .int .u16 s1]) (laid0 W) (fun G => ?_)).mono ?_
 ·exact ⟨_, _, rfl, ⟨c0, rfl, RepDs.ofVs hr0⟩, _, _, rfl, ⟨rfl, rfl⟩, rfl⟩
 ·rintro e W' ⟨v, rfl, ⟨G', A', hr⟩, hb⟩
  obtain ⟨rfl, _⟩ := hr
  exact ⟨_, rfl, post_true tLaid (by decide +kernel) hW' hb rfl rfl u4 rfl rfl rfl⟩
theorem topRollBoardHolds : Ytakhpmbcndkkfaa.Rows.topRollBoardRow.holds Ytakhpmbcndkkfaa.Try.pinned (OpenSpec.ofChange Ytakhpmbcndkkfaa.Rows.topRollBoardSpec) :=
 OpenClaim.holds_of_wide 5 Try.f5 rfl rfl rfl rfl rfl rfl rfl ⟨rfl, rfl, rfl, rfl, rfl⟩ rfl rfl rfl rfl rfl (by kernel_rfl) Try.func5 (by kernel_rfl)
  (of_decide_eq_true (by kernel_rfl)) (by unfold Func.isWrapper; first | (rw [if_pos (by decide +kernel)]; kernel_rfl) | (rw [if_neg (by decide +kernel)]; exact ⟨rfl, rfl⟩))
  (fun os started H enc _ => topRollBoardLifted os started H enc)
end Go.Dw.Seat
namespace Go.Proofs.Ytakhpmbcndkkfaa
theorem topRollBoardSaid : Rows.TopRollBoardSaid := Go.Dw.Seat.topRollBoardHolds
end Go.Proofs.Ytakhpmbcndkkfaa
end
