/- The law TopTrimArea returns true for every input, and changes nothing that was there before: the full statement TopTrimAreaSaid, without conditions. -/
import Derived.Test.YtnbgonichmcfaaaA02
import Derived.Test.YtnbgonichmcfaaaRows
import Derived.ProofKit
import Derived.OpenShut
set_option linter.unusedVariables false
set_option linter.unusedSimpArgs false
section
set_option linter.unusedSimpArgs false
set_option maxRecDepth 100000
namespace Go.Dw.Seat.Tr
open Go Go.Dw Go.Proofs Go.IntWalk
def ruF (r s : Int) : Nat → Int
 | 0 => 0
 | 1 => r
 | _ => r + s
theorem ruF0 (r s : Int) : ruF r s 0 = 0 := rfl
theorem ruF1 (r s : Int) : ruF r s 1 = r := rfl
theorem ruF2 (r s : Int) : ruF r s 2 = r + s := rfl
def weF (a b c : Int) : Nat → Int
 | 0 => 0
 | 1 => a
 | 2 => a + b
 | _ => a + b + c
theorem weF0 (a b c : Int) : weF a b c 0 = 0 := rfl
theorem weF1 (a b c : Int) : weF a b c 1 = a := rfl
theorem weF2 (a b c : Int) : weF a b c 2 = a + b := rfl
theorem weF3 (a b c : Int) : weF a b c 3 = a + b + c := rfl
def usF3 (a b c : D) : Nat → List D
 | 0 => [nilS, nilS, nilS]
 | 1 => [a, nilS, nilS]
 | 2 => [a, b, nilS]
 | _ => [a, b, c]
theorem usF30 (a b c : D) : usF3 a b c 0 = [nilS, nilS, nilS] := rfl
theorem usF31 (a b c : D) : usF3 a b c 1 = [a, nilS, nilS] := rfl
theorem usF32 (a b c : D) : usF3 a b c 2 = [a, b, nilS] := rfl
theorem usF33 (a b c : D) : usF3 a b c 3 = [a, b, c] := rfl
def arF3 (a b c : Int) : Nat → List D
 | 0 => [dI 0, dI 0, dI 0]
 | 1 => [dI a, dI 0, dI 0]
 | 2 => [dI a, dI b, dI 0]
 | _ => [dI a, dI b, dI c]
theorem arF30 (a b c : Int) : arF3 a b c 0 = [dI 0, dI 0, dI 0] := rfl
theorem arF31 (a b c : Int) : arF3 a b c 1 = [dI a, dI 0, dI 0] := rfl
theorem arF32 (a b c : Int) : arF3 a b c 2 = [dI a, dI b, dI 0] := rfl
theorem arF33 (a b c : Int) : arF3 a b c 3 = [dI a, dI b, dI c] := rfl
set_option maxHeartbeats 32000000 in
theorem tpTrimArea (x : ShY) (hx : x.ok) (y : FoldY) (hy : y.ok) : DCall Try.prog 5 [.agg (shL x), dFold y] [] (bD true) [] := by
 have cb := scBoxes x hx
 have a0 := along_b hx.a
 have a1 := along_b hx.b
 have a2 := along_b hx.c
 generalize blaV 100 x.a = za at *
 generalize blaV 100 x.b = zb at *
 generalize blaV 100 x.c = zc at *
 have hr := trRun x hx (alongI za) (alongI zb) (alongI zc) a0 a1 a2
 obtain ⟨W, hT⟩ := run_top x (alongI za) (alongI zb) (alongI zc) a0 a1 a2
 obtain ⟨hget, bS, bR, b1, b2, har, hnn⟩ := hT
 have bp := pbBoard
 have tp := pbTrim
 have c1 := pbStoreP y hy 102
 have hs := pbSto_ok (c := 2000) (by decide) hy
 have hm := pbM_ok 2000 y
 have hWb : 2000 ≤ pbW y ∧ pbW y ≤ 7100 := by have := hy.f0.v0; unfold pbW; omega
 generalize alongI za = w0 at *
 generalize alongI zb = w1 at *
 generalize alongI zc = w2 at *
 have hPw : (rnP x w0 w1 w2).wide = 2900 := rfl
 generalize rnP x w0 w1 w2 = P at *
 have ho0 : (rnO w0 (rnS x) x.s6).w = w0 := rfl
 have ho1 : (rnO w1 (rnG1 x) x.s7).w = w1 := rfl
 have ho2 : (rnO w2 (rnG2 x) x.s8).w = w2 := rfl
 generalize rnO w0 (rnS x) x.s6 = o0 at *
 generalize rnO w1 (rnG1 x) x.s7 = o1 at *
 generalize rnO w2 (rnG2 x) x.s8 = o2 at *
 have hqr : (rnQ x).run = rnR x := rfl
 have htr : (rnT x).run = rnS x := rfl
 have hq3 : ∀ s ∈ [rnQ x, rnT x], s.ws.length = 3 := by
  intro s hs
  simp only [List.mem_cons, List.not_mem_nil, or_false] at hs
  rcases hs with rfl | rfl <;> rfl
 generalize rnQ x = q at *
 generalize rnT x = t at *
 have po := pbOrders false [o0, o1, o2] (by simp)
 have pp := pbPlan false [q, t] (by simp) (fun s hs => by rw [hq3 s hs]; decide)
 have hgt := trGetX P [o0, o1, o2] (by simp) [q, t] (fun s hs => by rw [hq3 s hs]; decide)
 rw [hget, papD, hPw, doesD] at hgt
 rw [papD, hPw] at hr
 clear hget hq3
 generalize rnS x = S at *
 generalize rnR x = R at *
 generalize rnG1 x = g1 at *
 generalize rnG2 x = g2 at *
 obtain ⟨X0, hX0⟩ : ∃ X : Int, w0 * S = X := ⟨_, rfl⟩
 obtain ⟨X1, hX1⟩ : ∃ X : Int, w1 * g1 = X := ⟨_, rfl⟩
 obtain ⟨X2, hX2⟩ : ∃ X : Int, w2 * g2 = X := ⟨_, rfl⟩
 rw [hX0, hX1, hX2] at har
 have B0 : 0 ≤ X0 := by rw [← hX0]; exact Int.mul_nonneg (by omega) (by omega)
 have B1 : 0 ≤ X1 := by rw [← hX1]; exact Int.mul_nonneg (by omega) (by omega)
 have B2 : 0 ≤ X2 := by rw [← hX2]; exact Int.mul_nonneg (by omega) (by omega)
 obtain ⟨u, hu⟩ : ∃ u : Int, R + S = u := ⟨_, rfl⟩
 rw [hu] at har
 have hub : 2 ≤ u ∧ u ≤ 18 := by omega
 have hsum : ∀ k, useA (pbSto 2000 y) pbM (X0 + X1 + X2) k + useA (pbSto 2000 y) pbM W k = useA (pbSto 2000 y) pbM (2900 * u) k := fun k => by rw [useA_add, har]
 obtain ⟨n00, d00, n01, d01, n02, d02, g00, g01, g02, U0⟩ := useT_ex hy (a := X0 + X1 + X2) (by omega)
 obtain ⟨n10, d10, n11, d11, n12, d12, g10, g11, g12, U1⟩ := useT_ex hy (a := W) (by omega)
 obtain ⟨n20, d20, n21, d21, n22, d22, g20, g21, g22, U2⟩ := useT_ex hy (a := 2900 * u) (by omega)
 have u0 := bdUse (pbSto 2000 y) pbM hs hm (X0 + X1 + X2) (by omega)
 have u1 := bdUse (pbSto 2000 y) pbM hs hm W (by omega)
 have u2 := bdUse (pbSto 2000 y) pbM hs hm (2900 * u) (by omega)
 have hl3 : (pbSto 2000 y).papers.length = 3 := rfl
 rw [hl3, U0.l] at u0
 rw [hl3, U1.l] at u1
 rw [hl3, U2.l] at u2
 have ow := pbOwn false (pbSto 2000 y) (show 3 ≤ 1000 by decide) (show 2 ≤ 1000 by decide)
 have sg := pbSingle
 have h0 := hsum 0
 have h1 := hsum 1
 have h2 := hsum 2
 have hfl : (pbSto 2000 y).flutes[0]? = some (pbFlu y.f0) := rfl
 have hfp : (pbFlu y.f0).pitch = pbW y := rfl
 clear hsum
 obtain ⟨-, dp00, dp01, dp02, dr00, dr01, dr02, dq00, dq01, dq02, dm00, dm01, dm02, dc00, dc01, dc02, db00, db01, db02⟩ := U0
 generalize useA (pbSto 2000 y) pbM (X0 + X1 + X2) 0 = v00 at *
 generalize useA (pbSto 2000 y) pbM (X0 + X1 + X2) 1 = v01 at *
 generalize useA (pbSto 2000 y) pbM (X0 + X1 + X2) 2 = v02 at *
 obtain ⟨-, dp10, dp11, dp12, dr10, dr11, dr12, dq10, dq11, dq12, dm10, dm11, dm12, dc10, dc11, dc12, db10, db11, db12⟩ := U1
 generalize useA (pbSto 2000 y) pbM W 0 = v10 at *
 generalize useA (pbSto 2000 y) pbM W 1 = v11 at *
 generalize useA (pbSto 2000 y) pbM W 2 = v12 at *
 obtain ⟨-, dp20, dp21, dp22, dr20, dr21, dr22, dq20, dq21, dq22, dm20, dm21, dm22, dc20, dc21, dc22, db20, db21, db22⟩ := U2
 generalize useA (pbSto 2000 y) pbM (2900 * u) 0 = v20 at *
 generalize useA (pbSto 2000 y) pbM (2900 * u) 1 = v21 at *
 generalize useA (pbSto 2000 y) pbM (2900 * u) 2 = v22 at *
 obtain ⟨p0, p1, p2, f0, f1, bs⟩ := y
 obtain ⟨b0, b1, b2, b3, b4, b5, b6, rfl⟩ : ∃ b0 b1 b2 b3 b4 b5 b6, bs = [b0, b1, b2, b3, b4, b5, b6] := by
  have hl := hy.len
  match bs, hl with
  | [b0, b1, b2, b3, b4, b5, b6], _ => exact ⟨_, _, _, _, _, _, _, rfl⟩
 generalize hx' : (⟨p0, p1, p2, f0, f1, [b0, b1, b2, b3, b4, b5, b6]⟩ : FoldY) = y at *
 have hxf : dFold y = .agg [d8 p0.v0, d8 p0.v1, d8 p0.v2, d8 p0.v3, d8 p1.v0, d8 p1.v1, d8 p1.v2, d8 p1.v3, d8 p2.v0, d8 p2.v1, d8 p2.v2, d8 p2.v3, d8 f0.v0, d8 f0.v1, d8 f0.v2, d8 f1.v0, d8 f1.v1, d8 f1.v2, d8 b0, d8 b1, d8 b2, d8 b3, d8 b4, d8 b5, d8 b6] := by rw [← hx']; rfl
 rw [hxf] at c1 ⊢
 have hyf : y.f0 = f0 := by rw [← hx']
 clear hxf
 generalize pbW y = Wp at *
 generalize pbFlu y.f0 = fl at *
 generalize (pbSto 2000 y).papers = Ps at *
 generalize (pbSto 2000 y).flutes = Fs at *
 have ca00 : decide ((d00 : Int) < 1) = false := decide_eq_false (by omega)
 have cb00 : ((d00 : Int) = 0) = False := eq_false (by omega)
 have cc00 : decide ((n00 : Int) < 0) = false := decide_eq_false (by omega)
 have cd00 : decide (35184372088832 < (n00 : Int)) = false := decide_eq_false (by omega)
 have ca01 : decide ((d01 : Int) < 1) = false := decide_eq_false (by omega)
 have cb01 : ((d01 : Int) = 0) = False := eq_false (by omega)
 have cc01 : decide ((n01 : Int) < 0) = false := decide_eq_false (by omega)
 have cd01 : decide (35184372088832 < (n01 : Int)) = false := decide_eq_false (by omega)
 have ca02 : decide ((d02 : Int) < 1) = false := decide_eq_false (by omega)
 have cb02 : ((d02 : Int) = 0) = False := eq_false (by omega)
 have cc02 : decide ((n02 : Int) < 0) = false := decide_eq_false (by omega)
 have cd02 : decide (35184372088832 < (n02 : Int)) = false := decide_eq_false (by omega)
 have ca10 : decide ((d10 : Int) < 1) = false := decide_eq_false (by omega)
 have cb10 : ((d10 : Int) = 0) = False := eq_false (by omega)
 have cc10 : decide ((n10 : Int) < 0) = false := decide_eq_false (by omega)
 have cd10 : decide (35184372088832 < (n10 : Int)) = false := decide_eq_false (by omega)
 have ca11 : decide ((d11 : Int) < 1) = false := decide_eq_false (by omega)
 have cb11 : ((d11 : Int) = 0) = False := eq_false (by omega)
 have cc11 : decide ((n11 : Int) < 0) = false := decide_eq_false (by omega)
 have cd11 : decide (35184372088832 < (n11 : Int)) = false := decide_eq_false (by omega)
 have ca12 : decide ((d12 : Int) < 1) = false := decide_eq_false (by omega)
 have cb12 : ((d12 : Int) = 0) = False := eq_false (by omega)
 have cc12 : decide ((n12 : Int) < 0) = false := decide_eq_false (by omega)
 have cd12 : decide (35184372088832 < (n12 : Int)) = false := decide_eq_false (by omega)
 have ca20 : decide ((d20 : Int) < 1) = false := decide_eq_false (by omega)
 have cb20 : ((d20 : Int) = 0) = False := eq_false (by omega)
 have cc20 : decide ((n20 : Int) < 0) = false := decide_eq_false (by omega)
 have cd20 : decide (35184372088832 < (n20 : Int)) = false := decide_eq_false (by omega)
 have ca21 : decide ((d21 : Int) < 1) = false := decide_eq_false (by omega)
 have cb21 : ((d21 : Int) = 0) = False := eq_false (by omega)
 have cc21 : decide ((n21 : Int) < 0) = false := decide_eq_false (by omega)
 have cd21 : decide (35184372088832 < (n21 : Int)) = false := decide_eq_false (by omega)
 have ca22 : decide ((d22 : Int) < 1) = false := decide_eq_false (by omega)
 have cb22 : ((d22 : Int) = 0) = False := eq_false (by omega)
 have cc22 : decide ((n22 : Int) < 0) = false := decide_eq_false (by omega)
 have cd22 : decide (35184372088832 < (n22 : Int)) = false := decide_eq_false (by omega)
 refine DCall.of Try.func5 sf5 hb5 (Nat.le_of_ble_eq_true rfl) (okRes_nil fun _ => rfl) ?_; simp only [s5, idxs, Nat.reduceAdd]
 repeat' (first|(with_reducible first|apply qA|apply qB|apply qC|apply qD|apply qE|apply qF)|(refine qL rfl (WF.of ?_) ?_; first|rfl|skip)|(refine DW.regL rfl (WF.of ?_) ?_; first|rfl|skip)|(simp (disch:=omega) only [go_sem, simprocAttr, qN, qO, qP, qQ])|exact qM rfl rfl rfl|(refine qG rfl ?_)|(refine qK (cb) (by decide) ?_)|(refine qK (hr) (by decide) ?_)|(refine qK (po) (by decide) ?_)|(refine qK (pp) (by decide) ?_)|(refine qK (hgt) (by decide) ?_)|(refine qH rfl ?_)|(refine qI rfl ?_ ?_<;>intro hc<;>(try simp only [go_sem] at hc))|(refine qJ ?_ ?_<;>intro hc<;>(try simp only [hc])<;>(try simp only [go_sem] at hc)))
 clear cb hr po pp hgt
 refine DW.loop (ι := { i : Nat // i ≤ 2 }) (fun i => ⟨215, [(18, dI i.1), (17, dI 0), (16, dI (ruF R S i.1)), (13, dI W), (12, dIs false [S, g1, g2]), (11, dSt false [q, t]), (10, .c (.sl false 3 (rows eO [o0, o1, o2]))), (9, .box 9 0), (3, .box 3 0)], [(9, .box [dI 2900, dI P.tl, dI P.th, dI P.webs]), (3, .box [d8 p0.v0, d8 p0.v1, d8 p0.v2, d8 p0.v3, d8 p1.v0, d8 p1.v1, d8 p1.v2, d8 p1.v3, d8 p2.v0, d8 p2.v1, d8 p2.v2, d8 p2.v3, d8 f0.v0, d8 f0.v1, d8 f0.v2, d8 f1.v0, d8 f1.v1, d8 f1.v2, d8 b0, d8 b1, d8 b2, d8 b3, d8 b4, d8 b5, d8 b6])]⟩) (fun i => 2 - i.1) ⟨0, by omega⟩ ?_ ?_
 ·refine Ent.to ?_ ?_ <;> simp (disch:=omega) only [qR,qS,qTw,qU,get,Nat.reduceEqDiff,↓reduceIte,qV,qW,qX,qY,qZ,and_self,dI,i64_in,and_true,true_and,rA,rB,rC,rD,ruF0]
  all_goals first | exact .refl _ | exact ⟨.refl _, .refl _⟩ | exact ⟨.refl _, .refl _, .refl _⟩ | exact ⟨.refl _, .refl _, .refl _, .refl _⟩
 rintro ⟨i, hi⟩
 dsimp only
 rcases (by omega : i = 0 ∨ i = 1 ∨ i = 2) with rfl | rfl | rfl
 ·repeat' (first|(with_reducible first|apply qA|apply qB|apply qC|apply qD|apply qE|apply qF)|(refine qL rfl (WF.of ?_) ?_; first|rfl|skip)|(refine DW.regL rfl (WF.of ?_) ?_; first|rfl|skip)|(simp (disch:=omega) only [go_sem, simprocAttr, qN, qO, qP, qQ, ruF0, hqr, htr, Int.zero_add, rF, rG])|exact qM rfl rfl rfl|(refine qG rfl ?_)|(refine qH rfl ?_)|(refine qI rfl ?_ ?_<;>intro hc<;>(try simp only [go_sem] at hc))|(refine qJ ?_ ?_<;>intro hc<;>(try simp only [hc])<;>(try simp only [go_sem] at hc)))
  refine ⟨⟨1, by omega⟩, ?_, Ent.to ?_ ?_⟩ <;> first | (show _ < _; (try simp only); omega) | (simp (disch:=omega) only [qR,qS,qTw,qU,get,Nat.reduceEqDiff,↓reduceIte,qV,qW,qX,qY,qZ,and_self,dI,i64_in,and_true,true_and,rA,rB,rC,rD, ruF0,ruF1])
  all_goals first | exact .refl _ | exact ⟨.refl _, .refl _⟩ | exact ⟨.refl _, .refl _, .refl _⟩ | exact ⟨.refl _, .refl _, .refl _, .refl _⟩
 ·repeat' (first|(with_reducible first|apply qA|apply qB|apply qC|apply qD|apply qE|apply qF)|(refine qL rfl (WF.of ?_) ?_; first|rfl|skip)|(refine DW.regL rfl (WF.of ?_) ?_; first|rfl|skip)|(simp (disch:=omega) only [go_sem, simprocAttr, qN, qO, qP, qQ, ruF1, hqr, htr, Int.zero_add, rF, rG])|exact qM rfl rfl rfl|(refine qG rfl ?_)|(refine qH rfl ?_)|(refine qI rfl ?_ ?_<;>intro hc<;>(try simp only [go_sem] at hc))|(refine qJ ?_ ?_<;>intro hc<;>(try simp only [hc])<;>(try simp only [go_sem] at hc)))
  refine ⟨⟨2, by omega⟩, ?_, Ent.to ?_ ?_⟩ <;> first | (show _ < _; (try simp only); omega) | (simp (disch:=omega) only [qR,qS,qTw,qU,get,Nat.reduceEqDiff,↓reduceIte,qV,qW,qX,qY,qZ,and_self,dI,i64_in,and_true,true_and,rA,rB,rC,rD, ruF1,ruF2])
  all_goals first | exact .refl _ | exact ⟨.refl _, .refl _⟩ | exact ⟨.refl _, .refl _, .refl _⟩ | exact ⟨.refl _, .refl _, .refl _, .refl _⟩
 repeat' (first|(with_reducible first|apply qA|apply qB|apply qC|apply qD|apply qE|apply qF)|(refine qL rfl (WF.of ?_) ?_; first|rfl|skip)|(refine DW.regL rfl (WF.of ?_) ?_; first|rfl|skip)|(simp (disch:=omega) only [go_sem, simprocAttr, qN, qO, qP, qQ, ruF2, hu])|exact qM rfl rfl rfl|(refine qG rfl ?_)|(refine qH rfl ?_)|(refine qI rfl ?_ ?_<;>intro hc<;>(try simp only [go_sem] at hc))|(refine qJ ?_ ?_<;>intro hc<;>(try simp only [hc])<;>(try simp only [go_sem] at hc)))
 clear hqr htr
 refine DW.loop (ι := { i : Nat // i ≤ 3 }) (fun i => ⟨215, [(19, dI i.1), (17, dI (weF X0 X1 X2 i.1)), (16, dI u), (13, dI W), (12, dIs false [S, g1, g2]), (11, dSt false [q, t]), (10, .c (.sl false 3 (rows eO [o0, o1, o2]))), (9, .box 9 0), (3, .box 3 0)], [(9, .box [dI 2900, dI P.tl, dI P.th, dI P.webs]), (3, .box [d8 p0.v0, d8 p0.v1, d8 p0.v2, d8 p0.v3, d8 p1.v0, d8 p1.v1, d8 p1.v2, d8 p1.v3, d8 p2.v0, d8 p2.v1, d8 p2.v2, d8 p2.v3, d8 f0.v0, d8 f0.v1, d8 f0.v2, d8 f1.v0, d8 f1.v1, d8 f1.v2, d8 b0, d8 b1, d8 b2, d8 b3, d8 b4, d8 b5, d8 b6])]⟩) (fun i => 3 - i.1) ⟨0, by omega⟩ ?_ ?_
 ·refine Ent.to ?_ ?_ <;> simp (disch:=omega) only [qR,qS,qTw,qU,get,Nat.reduceEqDiff,↓reduceIte,qV,qW,qX,qY,qZ,and_self,dI,i64_in,and_true,true_and,rA,rB,rC,rD,weF0,ruF2,hu]
  all_goals first | exact .refl _ | exact ⟨.refl _, .refl _⟩ | exact ⟨.refl _, .refl _, .refl _⟩ | exact ⟨.refl _, .refl _, .refl _, .refl _⟩
 rintro ⟨i, hi⟩
 dsimp only
 rcases (by omega : i = 0 ∨ i = 1 ∨ i = 2 ∨ i = 3) with rfl | rfl | rfl | rfl
 ·repeat' (first|(with_reducible first|apply qA|apply qB|apply qC|apply qD|apply qE|apply qF)|(refine qL rfl (WF.of ?_) ?_; first|rfl|skip)|(refine DW.regL rfl (WF.of ?_) ?_; first|rfl|skip)|(simp (disch:=omega) only [go_sem, simprocAttr, qN, qO, qP, qQ, weF0, ho0, hX0, Int.zero_add, rF, rG])|exact qM rfl rfl rfl|(refine qG rfl ?_)|(refine qH rfl ?_)|(refine qI rfl ?_ ?_<;>intro hc<;>(try simp only [go_sem] at hc))|(refine qJ ?_ ?_<;>intro hc<;>(try simp only [hc])<;>(try simp only [go_sem] at hc)))
  refine ⟨⟨1, by omega⟩, ?_, Ent.to ?_ ?_⟩ <;> first | (show _ < _; (try simp only); omega) | (simp (disch:=omega) only [qR,qS,qTw,qU,get,Nat.reduceEqDiff,↓reduceIte,qV,qW,qX,qY,qZ,and_self,dI,i64_in,and_true,true_and,rA,rB,rC,rD, weF0,weF1])
  all_goals first | exact .refl _ | exact ⟨.refl _, .refl _⟩ | exact ⟨.refl _, .refl _, .refl _⟩ | exact ⟨.refl _, .refl _, .refl _, .refl _⟩
 ·repeat' (first|(with_reducible first|apply qA|apply qB|apply qC|apply qD|apply qE|apply qF)|(refine qL rfl (WF.of ?_) ?_; first|rfl|skip)|(refine DW.regL rfl (WF.of ?_) ?_; first|rfl|skip)|(simp (disch:=omega) only [go_sem, simprocAttr, qN, qO, qP, qQ, weF1, ho1, hX1, Int.zero_add, rF, rG])|exact qM rfl rfl rfl|(refine qG rfl ?_)|(refine qH rfl ?_)|(refine qI rfl ?_ ?_<;>intro hc<;>(try simp only [go_sem] at hc))|(refine qJ ?_ ?_<;>intro hc<;>(try simp only [hc])<;>(try simp only [go_sem] at hc)))
  refine ⟨⟨2, by omega⟩, ?_, Ent.to ?_ ?_⟩ <;> first | (show _ < _; (try simp only); omega) | (simp (disch:=omega) only [qR,qS,qTw,qU,get,Nat.reduceEqDiff,↓reduceIte,qV,qW,qX,qY,qZ,and_self,dI,i64_in,and_true,true_and,rA,rB,rC,rD, weF1,weF2])
  all_goals first | exact .refl _ | exact ⟨.refl _, .refl _⟩ | exact ⟨.refl _, .refl _, .refl _⟩ | exact ⟨.refl _, .refl _, .refl _, .refl _⟩
 ·repeat' (first|(with_reducible first|apply qA|apply qB|apply qC|apply qD|apply qE|apply qF)|(refine qL rfl (WF.of ?_) ?_; first|rfl|skip)|(refine DW.regL rfl (WF.of ?_) ?_; first|rfl|skip)|(simp (disch:=omega) only [go_sem, simprocAttr, qN, qO, qP, qQ, weF2, ho2, hX2, Int.zero_add, rF, rG])|exact qM rfl rfl rfl|(refine qG rfl ?_)|(refine qH rfl ?_)|(refine qI rfl ?_ ?_<;>intro hc<;>(try simp only [go_sem] at hc))|(refine qJ ?_ ?_<;>intro hc<;>(try simp only [hc])<;>(try simp only [go_sem] at hc)))
  refine ⟨⟨3, by omega⟩, ?_, Ent.to ?_ ?_⟩ <;> first | (show _ < _; (try simp only); omega) | (simp (disch:=omega) only [qR,qS,qTw,qU,get,Nat.reduceEqDiff,↓reduceIte,qV,qW,qX,qY,qZ,and_self,dI,i64_in,and_true,true_and,rA,rB,rC,rD, weF2,weF3])
  all_goals first | exact .refl _ | exact ⟨.refl _, .refl _⟩ | exact ⟨.refl _, .refl _, .refl _⟩ | exact ⟨.refl _, .refl _, .refl _, .refl _⟩
 repeat' (first|(with_reducible first|apply qA|apply qB|apply qC|apply qD|apply qE|apply qF)|(refine qL rfl (WF.of ?_) ?_; first|rfl|skip)|(refine DW.regL rfl (WF.of ?_) ?_; first|rfl|skip)|(simp (disch:=omega) only [go_sem, simprocAttr, qN, qO, qP, qQ, weF3, har])|exact qM rfl rfl rfl|(refine qG rfl ?_)|(refine qH rfl ?_)|(refine qI rfl ?_ ?_<;>intro hc<;>(try simp only [go_sem] at hc))|(refine qJ ?_ ?_<;>intro hc<;>(try simp only [hc])<;>(try simp only [go_sem] at hc)))
 (refine call_r (c1) (by decide) (by first | rfl | simp (disch:=omega) only [go_sem,simprocAttr,qN,qO,qP,qQ]) (by first | rfl | simp (disch:=omega) only [go_sem,simprocAttr,qN,qO,qP,qQ]) ?_; simp (disch:=omega) only [go_sem,simprocAttr,qN,qO,qP,qQ])
 repeat' (first|(with_reducible first|apply qA|apply qB|apply qC|apply qD|apply qE|apply qF)|(refine qL rfl (WF.of ?_) ?_; first|rfl|skip)|(refine DW.regL rfl (WF.of ?_) ?_; first|rfl|skip)|(simp (disch:=omega) only [go_sem, simprocAttr, qN, qO, qP, qQ, hfl, hfp])|exact qM rfl rfl rfl|(refine qG rfl ?_)|(refine qH rfl ?_)|(refine qI rfl ?_ ?_<;>intro hc<;>(try simp only [go_sem] at hc))|(refine qJ ?_ ?_<;>intro hc<;>(try simp only [hc])<;>(try simp only [go_sem] at hc)))
 (refine DW.ent (Ent.rel 102 rfl) ?_; simp (disch:=omega) only [go_sem,simprocAttr,qN,qO,qP,qQ])
 clear c1 hfl hfp
 refine DW.loop (ι := { i : Nat // i ≤ 3 }) (fun i => ⟨215, [(23, dI i.1), (22, .box 22 0), (21, dI Wp), (20, .box 20 0), (17, dI (X0 + X1 + X2)), (16, dI u), (13, dI W), (9, .box 9 0)], [(22, .box (usF3 (.c (.sl false 2 (rows eRt [(n00, d00), (n01, d01), (n02, d02)]))) (.c (.sl false 2 (rows eRt [(n10, d10), (n11, d11), (n12, d12)]))) (.c (.sl false 2 (rows eRt [(n20, d20), (n21, d21), (n22, d22)]))) i.1)), (20, .box [.c (.sl false 8 (rows Seat.eP Ps)), .c (.sl false 4 (rows eF Fs))]), (9, .box [dI 2900, dI P.tl, dI P.th, dI P.webs])]⟩) (fun i => 3 - i.1) ⟨0, by omega⟩ ?_ ?_
 ·refine Ent.to ?_ ?_ <;> simp (disch:=omega) only [qR,qS,qTw,qU,get,Nat.reduceEqDiff,↓reduceIte,qV,qW,qX,qY,qZ,and_self,dI,i64_in,and_true,true_and,rA,rB,rC,rD,usF30,weF3]
  all_goals first | exact .refl _ | exact ⟨.refl _, .refl _⟩ | exact ⟨.refl _, .refl _, .refl _⟩ | exact ⟨.refl _, .refl _, .refl _, .refl _⟩
 rintro ⟨i, hi⟩
 dsimp only
 rcases (by omega : i = 0 ∨ i = 1 ∨ i = 2 ∨ i = 3) with rfl | rfl | rfl | rfl
 ·repeat' (first|(with_reducible first|apply qA|apply qB|apply qC|apply qD|apply qE|apply qF)|(refine qL rfl (WF.of ?_) ?_; first|rfl|skip)|(refine DW.regL rfl (WF.of ?_) ?_; first|rfl|skip)|(simp (disch:=omega) only [go_sem, simprocAttr, qN, qO, qP, qQ, usF30])|exact qM rfl rfl rfl|(refine qG rfl ?_)|(refine qK (ow) (by decide) ?_)|(refine qK (sg) (by decide) ?_)|(refine qK (u0) (by decide) ?_)|(refine qH rfl ?_)|(refine qI rfl ?_ ?_<;>intro hc<;>(try simp only [go_sem] at hc))|(refine qJ ?_ ?_<;>intro hc<;>(try simp only [hc])<;>(try simp only [go_sem] at hc)))
  refine DW.loop (ι := { i : Nat // i ≤ 3 }) (fun i => ⟨215, [(26, dI i.1), (24, (.c (.sl false 2 (rows eRt [(n00, d00), (n01, d01), (n02, d02)])))), (23, dI 0), (22, .box 22 0), (21, dI Wp), (20, .box 20 0), (17, dI (X0 + X1 + X2)), (16, dI u), (13, dI W), (9, .box 9 0)], [(22, .box [nilS, nilS, nilS]), (20, .box [.c (.sl false 8 (rows Seat.eP Ps)), .c (.sl false 4 (rows eF Fs))]), (9, .box [dI 2900, dI P.tl, dI P.th, dI P.webs])]⟩) (fun i => 3 - i.1) ⟨0, by omega⟩ ?_ ?_
  ·refine Ent.to ?_ ?_ <;> simp (disch:=omega) only [qR,qS,qTw,qU,get,Nat.reduceEqDiff,↓reduceIte,qV,qW,qX,qY,qZ,and_self,dI,i64_in,and_true,true_and,rA,rB,rC,rD,usF30]
   all_goals first | exact .refl _ | exact ⟨.refl _, .refl _⟩ | exact ⟨.refl _, .refl _, .refl _⟩ | exact ⟨.refl _, .refl _, .refl _, .refl _⟩
  rintro ⟨i, hi⟩
  dsimp only
  rcases (by omega : i = 0 ∨ i = 1 ∨ i = 2 ∨ i = 3) with rfl | rfl | rfl | rfl
  ·repeat' (first|(with_reducible first|apply qA|apply qB|apply qC|apply qD|apply qE|apply qF)|(refine qL rfl (WF.of ?_) ?_; first|rfl|skip)|(refine DW.regL rfl (WF.of ?_) ?_; first|rfl|skip)|(simp (disch:=omega) only [go_sem, simprocAttr, qN, qO, qP, qQ, ca00, cb00, cc00, cd00, dr00, rF, rG])|exact qM rfl rfl rfl|(refine qG rfl ?_)|(refine qH rfl ?_)|(refine qI rfl ?_ ?_<;>intro hc<;>(try simp only [go_sem] at hc))|(refine qJ ?_ ?_<;>intro hc<;>(try simp only [hc])<;>(try simp only [go_sem] at hc)))
   refine ⟨⟨1, by omega⟩, ?_, Ent.to ?_ ?_⟩ <;> first | (show _ < _; (try simp only); omega) | (simp (disch:=omega) only [qR,qS,qTw,qU,get,Nat.reduceEqDiff,↓reduceIte,qV,qW,qX,qY,qZ,and_self,dI,i64_in,and_true,true_and,rA,rB,rC,rD])
   all_goals first | exact .refl _ | exact ⟨.refl _, .refl _⟩ | exact ⟨.refl _, .refl _, .refl _⟩ | exact ⟨.refl _, .refl _, .refl _, .refl _⟩
  ·repeat' (first|(with_reducible first|apply qA|apply qB|apply qC|apply qD|apply qE|apply qF)|(refine qL rfl (WF.of ?_) ?_; first|rfl|skip)|(refine DW.regL rfl (WF.of ?_) ?_; first|rfl|skip)|(simp (disch:=omega) only [go_sem, simprocAttr, qN, qO, qP, qQ, ca01, cb01, cc01, cd01, dr01, rF, rG])|exact qM rfl rfl rfl|(refine qG rfl ?_)|(refine qH rfl ?_)|(refine qI rfl ?_ ?_<;>intro hc<;>(try simp only [go_sem] at hc))|(refine qJ ?_ ?_<;>intro hc<;>(try simp only [hc])<;>(try simp only [go_sem] at hc)))
   refine ⟨⟨2, by omega⟩, ?_, Ent.to ?_ ?_⟩ <;> first | (show _ < _; (try simp only); omega) | (simp (disch:=omega) only [qR,qS,qTw,qU,get,Nat.reduceEqDiff,↓reduceIte,qV,qW,qX,qY,qZ,and_self,dI,i64_in,and_true,true_and,rA,rB,rC,rD])
   all_goals first | exact .refl _ | exact ⟨.refl _, .refl _⟩ | exact ⟨.refl _, .refl _, .refl _⟩ | exact ⟨.refl _, .refl _, .refl _, .refl _⟩
  ·repeat' (first|(with_reducible first|apply qA|apply qB|apply qC|apply qD|apply qE|apply qF)|(refine qL rfl (WF.of ?_) ?_; first|rfl|skip)|(refine DW.regL rfl (WF.of ?_) ?_; first|rfl|skip)|(simp (disch:=omega) only [go_sem, simprocAttr, qN, qO, qP, qQ, ca02, cb02, cc02, cd02, dr02, rF, rG])|exact qM rfl rfl rfl|(refine qG rfl ?_)|(refine qH rfl ?_)|(refine qI rfl ?_ ?_<;>intro hc<;>(try simp only [go_sem] at hc))|(refine qJ ?_ ?_<;>intro hc<;>(try simp only [hc])<;>(try simp only [go_sem] at hc)))
   refine ⟨⟨3, by omega⟩, ?_, Ent.to ?_ ?_⟩ <;> first | (show _ < _; (try simp only); omega) | (simp (disch:=omega) only [qR,qS,qTw,qU,get,Nat.reduceEqDiff,↓reduceIte,qV,qW,qX,qY,qZ,and_self,dI,i64_in,and_true,true_and,rA,rB,rC,rD])
   all_goals first | exact .refl _ | exact ⟨.refl _, .refl _⟩ | exact ⟨.refl _, .refl _, .refl _⟩ | exact ⟨.refl _, .refl _, .refl _, .refl _⟩
  ·repeat' (first|(with_reducible first|apply qA|apply qB|apply qC|apply qD|apply qE|apply qF)|(refine qL rfl (WF.of ?_) ?_; first|rfl|skip)|(refine DW.regL rfl (WF.of ?_) ?_; first|rfl|skip)|(simp (disch:=omega) only [go_sem, simprocAttr, qN, qO, qP, qQ])|exact qM rfl rfl rfl|(refine qG rfl ?_)|(refine qH rfl ?_)|(refine qI rfl ?_ ?_<;>intro hc<;>(try simp only [go_sem] at hc))|(refine qJ ?_ ?_<;>intro hc<;>(try simp only [hc])<;>(try simp only [go_sem] at hc)))
   refine ⟨⟨1, by omega⟩, ?_, Ent.to ?_ ?_⟩ <;> first | (show _ < _; (try simp only); omega) | (simp (disch:=omega) only [qR,qS,qTw,qU,get,Nat.reduceEqDiff,↓reduceIte,qV,qW,qX,qY,qZ,and_self,dI,i64_in,and_true,true_and,rA,rB,rC,rD, usF31])
   all_goals first | exact .refl _ | exact ⟨.refl _, .refl _⟩ | exact ⟨.refl _, .refl _, .refl _⟩ | exact ⟨.refl _, .refl _, .refl _, .refl _⟩
 ·repeat' (first|(with_reducible first|apply qA|apply qB|apply qC|apply qD|apply qE|apply qF)|(refine qL rfl (WF.of ?_) ?_; first|rfl|skip)|(refine DW.regL rfl (WF.of ?_) ?_; first|rfl|skip)|(simp (disch:=omega) only [go_sem, simprocAttr, qN, qO, qP, qQ, usF31])|exact qM rfl rfl rfl|(refine qG rfl ?_)|(refine qK (ow) (by decide) ?_)|(refine qK (sg) (by decide) ?_)|(refine qK (u1) (by decide) ?_)|(refine qH rfl ?_)|(refine qI rfl ?_ ?_<;>intro hc<;>(try simp only [go_sem] at hc))|(refine qJ ?_ ?_<;>intro hc<;>(try simp only [hc])<;>(try simp only [go_sem] at hc)))
  refine DW.loop (ι := { i : Nat // i ≤ 3 }) (fun i => ⟨215, [(26, dI i.1), (24, (.c (.sl false 2 (rows eRt [(n10, d10), (n11, d11), (n12, d12)])))), (23, dI 1), (22, .box 22 0), (21, dI Wp), (20, .box 20 0), (17, dI (X0 + X1 + X2)), (16, dI u), (13, dI W), (9, .box 9 0)], [(22, .box [(.c (.sl false 2 (rows eRt [(n00, d00), (n01, d01), (n02, d02)]))), nilS, nilS]), (20, .box [.c (.sl false 8 (rows Seat.eP Ps)), .c (.sl false 4 (rows eF Fs))]), (9, .box [dI 2900, dI P.tl, dI P.th, dI P.webs])]⟩) (fun i => 3 - i.1) ⟨0, by omega⟩ ?_ ?_
  ·refine Ent.to ?_ ?_ <;> simp (disch:=omega) only [qR,qS,qTw,qU,get,Nat.reduceEqDiff,↓reduceIte,qV,qW,qX,qY,qZ,and_self,dI,i64_in,and_true,true_and,rA,rB,rC,rD,usF31]
   all_goals first | exact .refl _ | exact ⟨.refl _, .refl _⟩ | exact ⟨.refl _, .refl _, .refl _⟩ | exact ⟨.refl _, .refl _, .refl _, .refl _⟩
  rintro ⟨i, hi⟩
  dsimp only
  rcases (by omega : i = 0 ∨ i = 1 ∨ i = 2 ∨ i = 3) with rfl | rfl | rfl | rfl
  ·repeat' (first|(with_reducible first|apply qA|apply qB|apply qC|apply qD|apply qE|apply qF)|(refine qL rfl (WF.of ?_) ?_; first|rfl|skip)|(refine DW.regL rfl (WF.of ?_) ?_; first|rfl|skip)|(simp (disch:=omega) only [go_sem, simprocAttr, qN, qO, qP, qQ, ca10, cb10, cc10, cd10, dr10, rF, rG])|exact qM rfl rfl rfl|(refine qG rfl ?_)|(refine qH rfl ?_)|(refine qI rfl ?_ ?_<;>intro hc<;>(try simp only [go_sem] at hc))|(refine qJ ?_ ?_<;>intro hc<;>(try simp only [hc])<;>(try simp only [go_sem] at hc)))
   refine ⟨⟨1, by omega⟩, ?_, Ent.to ?_ ?_⟩ <;> first | (show _ < _; (try simp only); omega) | (simp (disch:=omega) only [qR,qS,qTw,qU,get,Nat.reduceEqDiff,↓reduceIte,qV,qW,qX,qY,qZ,and_self,dI,i64_in,and_true,true_and,rA,rB,rC,rD])
   all_goals first | exact .refl _ | exact ⟨.refl _, .refl _⟩ | exact ⟨.refl _, .refl _, .refl _⟩ | exact ⟨.refl _, .refl _, .refl _, .refl _⟩
  ·repeat' (first|(with_reducible first|apply qA|apply qB|apply qC|apply qD|apply qE|apply qF)|(refine qL rfl (WF.of ?_) ?_; first|rfl|skip)|(refine DW.regL rfl (WF.of ?_) ?_; first|rfl|skip)|(simp (disch:=omega) only [go_sem, simprocAttr, qN, qO, qP, qQ, ca11, cb11, cc11, cd11, dr11, rF, rG])|exact qM rfl rfl rfl|(refine qG rfl ?_)|(refine qH rfl ?_)|(refine qI rfl ?_ ?_<;>intro hc<;>(try simp only [go_sem] at hc))|(refine qJ ?_ ?_<;>intro hc<;>(try simp only [hc])<;>(try simp only [go_sem] at hc)))
   refine ⟨⟨2, by omega⟩, ?_, Ent.to ?_ ?_⟩ <;> first | (show _ < _; (try simp only); omega) | (simp (disch:=omega) only [qR,qS,qTw,qU,get,Nat.reduceEqDiff,↓reduceIte,qV,qW,qX,qY,qZ,and_self,dI,i64_in,and_true,true_and,rA,rB,rC,rD])
   all_goals first | exact .refl _ | exact ⟨.refl _, .refl _⟩ | exact ⟨.refl _, .refl _, .refl _⟩ | exact ⟨.refl _, .refl _, .refl _, .refl _⟩
  ·repeat' (first|(with_reducible first|apply qA|apply qB|apply qC|apply qD|apply qE|apply qF)|(refine qL rfl (WF.of ?_) ?_; first|rfl|skip)|(refine DW.regL rfl (WF.of ?_) ?_; first|rfl|skip)|(simp (disch:=omega) only [go_sem, simprocAttr, qN, qO, qP, qQ, ca12, cb12, cc12, cd12, dr12, rF, rG])|exact qM rfl rfl rfl|(refine qG rfl ?_)|(refine qH rfl ?_)|(refine qI rfl ?_ ?_<;>intro hc<;>(try simp only [go_sem] at hc))|(refine qJ ?_ ?_<;>intro hc<;>(try simp only [hc])<;>(try simp only [go_sem] at hc)))
   refine ⟨⟨3, by omega⟩, ?_, Ent.to ?_ ?_⟩ <;> first | (show _ < _; (try simp only); omega) | (simp (disch:=omega) only [qR,qS,qTw,qU,get,Nat.reduceEqDiff,↓reduceIte,qV,qW,qX,qY,qZ,and_self,dI,i64_in,and_true,true_and,rA,rB,rC,rD])
   all_goals first | exact .refl _ | exact ⟨.refl _, .refl _⟩ | exact ⟨.refl _, .refl _, .refl _⟩ | exact ⟨.refl _, .refl _, .refl _, .refl _⟩
  ·repeat' (first|(with_reducible first|apply qA|apply qB|apply qC|apply qD|apply qE|apply qF)|(refine qL rfl (WF.of ?_) ?_; first|rfl|skip)|(refine DW.regL rfl (WF.of ?_) ?_; first|rfl|skip)|(simp (disch:=omega) only [go_sem, simprocAttr, qN, qO, qP, qQ])|exact qM rfl rfl rfl|(refine qG rfl ?_)|(refine qH rfl ?_)|(refine qI rfl ?_ ?_<;>intro hc<;>(try simp only [go_sem] at hc))|(refine qJ ?_ ?_<;>intro hc<;>(try simp only [hc])<;>(try simp only [go_sem] at hc)))
   refine ⟨⟨2, by omega⟩, ?_, Ent.to ?_ ?_⟩ <;> first | (show _ < _; (try simp only); omega) | (simp (disch:=omega) only [qR,qS,qTw,qU,get,Nat.reduceEqDiff,↓reduceIte,qV,qW,qX,qY,qZ,and_self,dI,i64_in,and_true,true_and,rA,rB,rC,rD, usF32])
   all_goals first | exact .refl _ | exact ⟨.refl _, .refl _⟩ | exact ⟨.refl _, .refl _, .refl _⟩ | exact ⟨.refl _, .refl _, .refl _, .refl _⟩
 ·repeat' (first|(with_reducible first|apply qA|apply qB|apply qC|apply qD|apply qE|apply qF)|(refine qL rfl (WF.of ?_) ?_; first|rfl|skip)|(refine DW.regL rfl (WF.of ?_) ?_; first|rfl|skip)|(simp (disch:=omega) only [go_sem, simprocAttr, qN, qO, qP, qQ, usF32])|exact qM rfl rfl rfl|(refine qG rfl ?_)|(refine qK (ow) (by decide) ?_)|(refine qK (sg) (by decide) ?_)|(refine qK (u2) (by decide) ?_)|(refine qH rfl ?_)|(refine qI rfl ?_ ?_<;>intro hc<;>(try simp only [go_sem] at hc))|(refine qJ ?_ ?_<;>intro hc<;>(try simp only [hc])<;>(try simp only [go_sem] at hc)))
  refine DW.loop (ι := { i : Nat // i ≤ 3 }) (fun i => ⟨215, [(26, dI i.1), (24, (.c (.sl false 2 (rows eRt [(n20, d20), (n21, d21), (n22, d22)])))), (23, dI 2), (22, .box 22 0), (21, dI Wp), (20, .box 20 0), (17, dI (X0 + X1 + X2)), (16, dI u), (13, dI W), (9, .box 9 0)], [(22, .box [(.c (.sl false 2 (rows eRt [(n00, d00), (n01, d01), (n02, d02)]))), (.c (.sl false 2 (rows eRt [(n10, d10), (n11, d11), (n12, d12)]))), nilS]), (20, .box [.c (.sl false 8 (rows Seat.eP Ps)), .c (.sl false 4 (rows eF Fs))]), (9, .box [dI 2900, dI P.tl, dI P.th, dI P.webs])]⟩) (fun i => 3 - i.1) ⟨0, by omega⟩ ?_ ?_
  ·refine Ent.to ?_ ?_ <;> simp (disch:=omega) only [qR,qS,qTw,qU,get,Nat.reduceEqDiff,↓reduceIte,qV,qW,qX,qY,qZ,and_self,dI,i64_in,and_true,true_and,rA,rB,rC,rD,usF32]
   all_goals first | exact .refl _ | exact ⟨.refl _, .refl _⟩ | exact ⟨.refl _, .refl _, .refl _⟩ | exact ⟨.refl _, .refl _, .refl _, .refl _⟩
  rintro ⟨i, hi⟩
  dsimp only
  rcases (by omega : i = 0 ∨ i = 1 ∨ i = 2 ∨ i = 3) with rfl | rfl | rfl | rfl
  ·repeat' (first|(with_reducible first|apply qA|apply qB|apply qC|apply qD|apply qE|apply qF)|(refine qL rfl (WF.of ?_) ?_; first|rfl|skip)|(refine DW.regL rfl (WF.of ?_) ?_; first|rfl|skip)|(simp (disch:=omega) only [go_sem, simprocAttr, qN, qO, qP, qQ, ca20, cb20, cc20, cd20, dr20, rF, rG])|exact qM rfl rfl rfl|(refine qG rfl ?_)|(refine qH rfl ?_)|(refine qI rfl ?_ ?_<;>intro hc<;>(try simp only [go_sem] at hc))|(refine qJ ?_ ?_<;>intro hc<;>(try simp only [hc])<;>(try simp only [go_sem] at hc)))
   refine ⟨⟨1, by omega⟩, ?_, Ent.to ?_ ?_⟩ <;> first | (show _ < _; (try simp only); omega) | (simp (disch:=omega) only [qR,qS,qTw,qU,get,Nat.reduceEqDiff,↓reduceIte,qV,qW,qX,qY,qZ,and_self,dI,i64_in,and_true,true_and,rA,rB,rC,rD])
   all_goals first | exact .refl _ | exact ⟨.refl _, .refl _⟩ | exact ⟨.refl _, .refl _, .refl _⟩ | exact ⟨.refl _, .refl _, .refl _, .refl _⟩
  ·repeat' (first|(with_reducible first|apply qA|apply qB|apply qC|apply qD|apply qE|apply qF)|(refine qL rfl (WF.of ?_) ?_; first|rfl|skip)|(refine DW.regL rfl (WF.of ?_) ?_; first|rfl|skip)|(simp (disch:=omega) only [go_sem, simprocAttr, qN, qO, qP, qQ, ca21, cb21, cc21, cd21, dr21, rF, rG])|exact qM rfl rfl rfl|(refine qG rfl ?_)|(refine qH rfl ?_)|(refine qI rfl ?_ ?_<;>intro hc<;>(try simp only [go_sem] at hc))|(refine qJ ?_ ?_<;>intro hc<;>(try simp only [hc])<;>(try simp only [go_sem] at hc)))
   refine ⟨⟨2, by omega⟩, ?_, Ent.to ?_ ?_⟩ <;> first | (show _ < _; (try simp only); omega) | (simp (disch:=omega) only [qR,qS,qTw,qU,get,Nat.reduceEqDiff,↓reduceIte,qV,qW,qX,qY,qZ,and_self,dI,i64_in,and_true,true_and,rA,rB,rC,rD])
   all_goals first | exact .refl _ | exact ⟨.refl _, .refl _⟩ | exact ⟨.refl _, .refl _, .refl _⟩ | exact ⟨.refl _, .refl _, .refl _, .refl _⟩
  ·repeat' (first|(with_reducible first|apply qA|apply qB|apply qC|apply qD|apply qE|apply qF)|(refine qL rfl (WF.of ?_) ?_; first|rfl|skip)|(refine DW.regL rfl (WF.of ?_) ?_; first|rfl|skip)|(simp (disch:=omega) only [go_sem, simprocAttr, qN, qO, qP, qQ, ca22, cb22, cc22, cd22, dr22, rF, rG])|exact qM rfl rfl rfl|(refine qG rfl ?_)|(refine qH rfl ?_)|(refine qI rfl ?_ ?_<;>intro hc<;>(try simp only [go_sem] at hc))|(refine qJ ?_ ?_<;>intro hc<;>(try simp only [hc])<;>(try simp only [go_sem] at hc)))
   refine ⟨⟨3, by omega⟩, ?_, Ent.to ?_ ?_⟩ <;> first | (show _ < _; (try simp only); omega) | (simp (disch:=omega) only [qR,qS,qTw,qU,get,Nat.reduceEqDiff,↓reduceIte,qV,qW,qX,qY,qZ,and_self,dI,i64_in,and_true,true_and,rA,rB,rC,rD])
   all_goals first | exact .refl _ | exact ⟨.refl _, .refl _⟩ | exact ⟨.refl _, .refl _, .refl _⟩ | exact ⟨.refl _, .refl _, .refl _, .refl _⟩
  ·repeat' (first|(with_reducible first|apply qA|apply qB|apply qC|apply qD|apply qE|apply qF)|(refine qL rfl (WF.of ?_) ?_; first|rfl|skip)|(refine DW.regL rfl (WF.of ?_) ?_; first|rfl|skip)|(simp (disch:=omega) only [go_sem, simprocAttr, qN, qO, qP, qQ])|exact qM rfl rfl rfl|(refine qG rfl ?_)|(refine qH rfl ?_)|(refine qI rfl ?_ ?_<;>intro hc<;>(try simp only [go_sem] at hc))|(refine qJ ?_ ?_<;>intro hc<;>(try simp only [hc])<;>(try simp only [go_sem] at hc)))
   refine ⟨⟨3, by omega⟩, ?_, Ent.to ?_ ?_⟩ <;> first | (show _ < _; (try simp only); omega) | (simp (disch:=omega) only [qR,qS,qTw,qU,get,Nat.reduceEqDiff,↓reduceIte,qV,qW,qX,qY,qZ,and_self,dI,i64_in,and_true,true_and,rA,rB,rC,rD, usF33])
   all_goals first | exact .refl _ | exact ⟨.refl _, .refl _⟩ | exact ⟨.refl _, .refl _, .refl _⟩ | exact ⟨.refl _, .refl _, .refl _, .refl _⟩
 repeat' (first|(with_reducible first|apply qA|apply qB|apply qC|apply qD|apply qE|apply qF)|(refine qL rfl (WF.of ?_) ?_; first|rfl|skip)|(refine DW.regL rfl (WF.of ?_) ?_; first|rfl|skip)|(simp (disch:=omega) only [go_sem, simprocAttr, qN, qO, qP, qQ, usF33])|exact qM rfl rfl rfl|(refine qG rfl ?_)|(refine qH rfl ?_)|(refine qI rfl ?_ ?_<;>intro hc<;>(try simp only [go_sem] at hc))|(refine qJ ?_ ?_<;>intro hc<;>(try simp only [hc])<;>(try simp only [go_sem] at hc)))
 refine DW.loop (ι := { i : Nat // i ≤ 3 }) (fun i => ⟨215, [(27, dI i.1), (22, .box 22 0), (21, dI Wp), (20, .box 20 0), (9, .box 9 0)], [(22, .box [(.c (.sl false 2 (rows eRt [(n00, d00), (n01, d01), (n02, d02)]))), (.c (.sl false 2 (rows eRt [(n10, d10), (n11, d11), (n12, d12)]))), (.c (.sl false 2 (rows eRt [(n20, d20), (n21, d21), (n22, d22)])))]), (20, .box [.c (.sl false 8 (rows Seat.eP Ps)), .c (.sl false 4 (rows eF Fs))]), (9, .box [dI 2900, dI P.tl, dI P.th, dI P.webs])]⟩) (fun i => 3 - i.1) ⟨0, by omega⟩ ?_ ?_
 ·refine Ent.to ?_ ?_ <;> simp (disch:=omega) only [qR,qS,qTw,qU,get,Nat.reduceEqDiff,↓reduceIte,qV,qW,qX,qY,qZ,and_self,dI,i64_in,and_true,true_and,rA,rB,rC,rD,usF33]
  all_goals first | exact .refl _ | exact ⟨.refl _, .refl _⟩ | exact ⟨.refl _, .refl _, .refl _⟩ | exact ⟨.refl _, .refl _, .refl _, .refl _⟩
 rintro ⟨i, hi⟩
 dsimp only
 rcases (by omega : i = 0 ∨ i = 1 ∨ i = 2 ∨ i = 3) with rfl | rfl | rfl | rfl
 ·repeat' (first|(with_reducible first|apply qA|apply qB|apply qC|apply qD|apply qE|apply qF)|(refine qL rfl (WF.of ?_) ?_; first|rfl|skip)|(refine DW.regL rfl (WF.of ?_) ?_; first|rfl|skip)|(simp (disch:=omega) only [go_sem, simprocAttr, qN, qO, qP, qQ])|exact qM rfl rfl rfl|(refine qG rfl ?_)|(refine qH rfl ?_)|(refine qI rfl ?_ ?_<;>intro hc<;>(try simp only [go_sem] at hc))|(refine qJ ?_ ?_<;>intro hc<;>(try simp only [hc])<;>(try simp only [go_sem] at hc)))
  refine DW.loop (ι := { i : Nat // i ≤ 3 }) (fun i => ⟨215, [(29, dI i.1), (28, .box 28 0), (27, dI 0), (22, .box 22 0), (21, dI Wp), (20, .box 20 0), (9, .box 9 0)], [(28, .box (arF3 v00 v10 v20 i.1)), (22, .box [(.c (.sl false 2 (rows eRt [(n00, d00), (n01, d01), (n02, d02)]))), (.c (.sl false 2 (rows eRt [(n10, d10), (n11, d11), (n12, d12)]))), (.c (.sl false 2 (rows eRt [(n20, d20), (n21, d21), (n22, d22)])))]), (20, .box [.c (.sl false 8 (rows Seat.eP Ps)), .c (.sl false 4 (rows eF Fs))]), (9, .box [dI 2900, dI P.tl, dI P.th, dI P.webs])]⟩) (fun i => 3 - i.1) ⟨0, by omega⟩ ?_ ?_
  ·refine Ent.to ?_ ?_ <;> simp (disch:=omega) only [qR,qS,qTw,qU,get,Nat.reduceEqDiff,↓reduceIte,qV,qW,qX,qY,qZ,and_self,dI,i64_in,and_true,true_and,rA,rB,rC,rD,arF30]
   all_goals first | exact .refl _ | exact ⟨.refl _, .refl _⟩ | exact ⟨.refl _, .refl _, .refl _⟩ | exact ⟨.refl _, .refl _, .refl _, .refl _⟩
  rintro ⟨i, hi⟩
  dsimp only
  rcases (by omega : i = 0 ∨ i = 1 ∨ i = 2 ∨ i = 3) with rfl | rfl | rfl | rfl
  ·repeat' (first|(with_reducible first|apply qA|apply qB|apply qC|apply qD|apply qE|apply qF)|(refine qL rfl (WF.of ?_) ?_; first|rfl|skip)|(refine DW.regL rfl (WF.of ?_) ?_; first|rfl|skip)|(simp (disch:=omega) only [go_sem, simprocAttr, qN, qO, qP, qQ, arF30, cb00, dq00, dm00, rF, rG])|exact qM rfl rfl rfl|(refine qG rfl ?_)|(refine qH rfl ?_)|(refine qI rfl ?_ ?_<;>intro hc<;>(try simp only [go_sem] at hc))|(refine qJ ?_ ?_<;>intro hc<;>(try simp only [hc])<;>(try simp only [go_sem] at hc)))
   refine ⟨⟨1, by omega⟩, ?_, Ent.to ?_ ?_⟩ <;> first | (show _ < _; (try simp only); omega) | (simp (disch:=omega) only [qR,qS,qTw,qU,get,Nat.reduceEqDiff,↓reduceIte,qV,qW,qX,qY,qZ,and_self,dI,i64_in,and_true,true_and,rA,rB,rC,rD, arF30,arF31])
   all_goals first | exact .refl _ | exact ⟨.refl _, .refl _⟩ | exact ⟨.refl _, .refl _, .refl _⟩ | exact ⟨.refl _, .refl _, .refl _, .refl _⟩
  ·repeat' (first|(with_reducible first|apply qA|apply qB|apply qC|apply qD|apply qE|apply qF)|(refine qL rfl (WF.of ?_) ?_; first|rfl|skip)|(refine DW.regL rfl (WF.of ?_) ?_; first|rfl|skip)|(simp (disch:=omega) only [go_sem, simprocAttr, qN, qO, qP, qQ, arF31, cb10, dq10, dm10, rF, rG])|exact qM rfl rfl rfl|(refine qG rfl ?_)|(refine qH rfl ?_)|(refine qI rfl ?_ ?_<;>intro hc<;>(try simp only [go_sem] at hc))|(refine qJ ?_ ?_<;>intro hc<;>(try simp only [hc])<;>(try simp only [go_sem] at hc)))
   refine ⟨⟨2, by omega⟩, ?_, Ent.to ?_ ?_⟩ <;> first | (show _ < _; (try simp only); omega) | (simp (disch:=omega) only [qR,qS,qTw,qU,get,Nat.reduceEqDiff,↓reduceIte,qV,qW,qX,qY,qZ,and_self,dI,i64_in,and_true,true_and,rA,rB,rC,rD, arF31,arF32])
   all_goals first | exact .refl _ | exact ⟨.refl _, .refl _⟩ | exact ⟨.refl _, .refl _, .refl _⟩ | exact ⟨.refl _, .refl _, .refl _, .refl _⟩
  ·repeat' (first|(with_reducible first|apply qA|apply qB|apply qC|apply qD|apply qE|apply qF)|(refine qL rfl (WF.of ?_) ?_; first|rfl|skip)|(refine DW.regL rfl (WF.of ?_) ?_; first|rfl|skip)|(simp (disch:=omega) only [go_sem, simprocAttr, qN, qO, qP, qQ, arF32, cb20, dq20, dm20, rF, rG])|exact qM rfl rfl rfl|(refine qG rfl ?_)|(refine qH rfl ?_)|(refine qI rfl ?_ ?_<;>intro hc<;>(try simp only [go_sem] at hc))|(refine qJ ?_ ?_<;>intro hc<;>(try simp only [hc])<;>(try simp only [go_sem] at hc)))
   refine ⟨⟨3, by omega⟩, ?_, Ent.to ?_ ?_⟩ <;> first | (show _ < _; (try simp only); omega) | (simp (disch:=omega) only [qR,qS,qTw,qU,get,Nat.reduceEqDiff,↓reduceIte,qV,qW,qX,qY,qZ,and_self,dI,i64_in,and_true,true_and,rA,rB,rC,rD, arF32,arF33])
   all_goals first | exact .refl _ | exact ⟨.refl _, .refl _⟩ | exact ⟨.refl _, .refl _, .refl _⟩ | exact ⟨.refl _, .refl _, .refl _, .refl _⟩
  ·repeat' (first|(with_reducible first|apply qA|apply qB|apply qC|apply qD|apply qE|apply qF)|(refine qL rfl (WF.of ?_) ?_; first|rfl|skip)|(refine DW.regL rfl (WF.of ?_) ?_; first|rfl|skip)|(simp (disch:=omega) only [go_sem, simprocAttr, qN, qO, qP, qQ, arF33, h0])|exact qM rfl rfl rfl|(refine qG rfl ?_)|(refine qH rfl ?_)|(refine qI rfl ?_ ?_<;>intro hc<;>(try simp only [go_sem] at hc))|(refine qJ ?_ ?_<;>intro hc<;>(try simp only [hc])<;>(try simp only [go_sem] at hc)))
   refine ⟨⟨1, by omega⟩, ?_, Ent.to ?_ ?_⟩ <;> first | (show _ < _; (try simp only); omega) | (simp (disch:=omega) only [qR,qS,qTw,qU,get,Nat.reduceEqDiff,↓reduceIte,qV,qW,qX,qY,qZ,and_self,dI,i64_in,and_true,true_and,rA,rB,rC,rD])
   all_goals first | exact .refl _ | exact ⟨.refl _, .refl _⟩ | exact ⟨.refl _, .refl _, .refl _⟩ | exact ⟨.refl _, .refl _, .refl _, .refl _⟩
 ·repeat' (first|(with_reducible first|apply qA|apply qB|apply qC|apply qD|apply qE|apply qF)|(refine qL rfl (WF.of ?_) ?_; first|rfl|skip)|(refine DW.regL rfl (WF.of ?_) ?_; first|rfl|skip)|(simp (disch:=omega) only [go_sem, simprocAttr, qN, qO, qP, qQ])|exact qM rfl rfl rfl|(refine qG rfl ?_)|(refine qH rfl ?_)|(refine qI rfl ?_ ?_<;>intro hc<;>(try simp only [go_sem] at hc))|(refine qJ ?_ ?_<;>intro hc<;>(try simp only [hc])<;>(try simp only [go_sem] at hc)))
  refine DW.loop (ι := { i : Nat // i ≤ 3 }) (fun i => ⟨215, [(29, dI i.1), (28, .box 28 0), (27, dI 1), (22, .box 22 0), (21, dI Wp), (20, .box 20 0), (9, .box 9 0)], [(28, .box (arF3 v01 v11 v21 i.1)), (22, .box [(.c (.sl false 2 (rows eRt [(n00, d00), (n01, d01), (n02, d02)]))), (.c (.sl false 2 (rows eRt [(n10, d10), (n11, d11), (n12, d12)]))), (.c (.sl false 2 (rows eRt [(n20, d20), (n21, d21), (n22, d22)])))]), (20, .box [.c (.sl false 8 (rows Seat.eP Ps)), .c (.sl false 4 (rows eF Fs))]), (9, .box [dI 2900, dI P.tl, dI P.th, dI P.webs])]⟩) (fun i => 3 - i.1) ⟨0, by omega⟩ ?_ ?_
  ·refine Ent.to ?_ ?_ <;> simp (disch:=omega) only [qR,qS,qTw,qU,get,Nat.reduceEqDiff,↓reduceIte,qV,qW,qX,qY,qZ,and_self,dI,i64_in,and_true,true_and,rA,rB,rC,rD,arF30]
   all_goals first | exact .refl _ | exact ⟨.refl _, .refl _⟩ | exact ⟨.refl _, .refl _, .refl _⟩ | exact ⟨.refl _, .refl _, .refl _, .refl _⟩
  rintro ⟨i, hi⟩
  dsimp only
  rcases (by omega : i = 0 ∨ i = 1 ∨ i = 2 ∨ i = 3) with rfl | rfl | rfl | rfl
  ·repeat' (first|(with_reducible first|apply qA|apply qB|apply qC|apply qD|apply qE|apply qF)|(refine qL rfl (WF.of ?_) ?_; first|rfl|skip)|(refine DW.regL rfl (WF.of ?_) ?_; first|rfl|skip)|(simp (disch:=omega) only [go_sem, simprocAttr, qN, qO, qP, qQ, arF30, cb01, dq01, dm01, rF, rG])|exact qM rfl rfl rfl|(refine qG rfl ?_)|(refine qH rfl ?_)|(refine qI rfl ?_ ?_<;>intro hc<;>(try simp only [go_sem] at hc))|(refine qJ ?_ ?_<;>intro hc<;>(try simp only [hc])<;>(try simp only [go_sem] at hc)))
   refine ⟨⟨1, by omega⟩, ?_, Ent.to ?_ ?_⟩ <;> first | (show _ < _; (try simp only); omega) | (simp (disch:=omega) only [qR,qS,qTw,qU,get,Nat.reduceEqDiff,↓reduceIte,qV,qW,qX,qY,qZ,and_self,dI,i64_in,and_true,true_and,rA,rB,rC,rD, arF30,arF31])
   all_goals first | exact .refl _ | exact ⟨.refl _, .refl _⟩ | exact ⟨.refl _, .refl _, .refl _⟩ | exact ⟨.refl _, .refl _, .refl _, .refl _⟩
  ·repeat' (first|(with_reducible first|apply qA|apply qB|apply qC|apply qD|apply qE|apply qF)|(refine qL rfl (WF.of ?_) ?_; first|rfl|skip)|(refine DW.regL rfl (WF.of ?_) ?_; first|rfl|skip)|(simp (disch:=omega) only [go_sem, simprocAttr, qN, qO, qP, qQ, arF31, cb11, dq11, dm11, rF, rG])|exact qM rfl rfl rfl|(refine qG rfl ?_)|(refine qH rfl ?_)|(refine qI rfl ?_ ?_<;>intro hc<;>(try simp only [go_sem] at hc))|(refine qJ ?_ ?_<;>intro hc<;>(try simp only [hc])<;>(try simp only [go_sem] at hc)))
   refine ⟨⟨2, by omega⟩, ?_, Ent.to ?_ ?_⟩ <;> first | (show _ < _; (try simp only); omega) | (simp (disch:=omega) only [qR,qS,qTw,qU,get,Nat.reduceEqDiff,↓reduceIte,qV,qW,qX,qY,qZ,and_self,dI,i64_in,and_true,true_and,rA,rB,rC,rD, arF31,arF32])
   all_goals first | exact .refl _ | exact ⟨.refl _, .refl _⟩ | exact ⟨.refl _, .refl _, .refl _⟩ | exact ⟨.refl _, .refl _, .refl _, .refl _⟩
  ·repeat' (first|(with_reducible first|apply qA|apply qB|apply qC|apply qD|apply qE|apply qF)|(refine qL rfl (WF.of ?_) ?_; first|rfl|skip)|(refine DW.regL rfl (WF.of ?_) ?_; first|rfl|skip)|(simp (disch:=omega) only [go_sem, simprocAttr, qN, qO, qP, qQ, arF32, cb21, dq21, dm21, rF, rG])|exact qM rfl rfl rfl|(refine qG rfl ?_)|(refine qH rfl ?_)|(refine qI rfl ?_ ?_<;>intro hc<;>(try simp only [go_sem] at hc))|(refine qJ ?_ ?_<;>intro hc<;>(try simp only [hc])<;>(try simp only [go_sem] at hc)))
   refine ⟨⟨3, by omega⟩, ?_, Ent.to ?_ ?_⟩ <;> first | (show _ < _; (try simp only); omega) | (simp (disch:=omega) only [qR,qS,qTw,qU,get,Nat.reduceEqDiff,↓reduceIte,qV,qW,qX,qY,qZ,and_self,dI,i64_in,and_true,true_and,rA,rB,rC,rD, arF32,arF33])
   all_goals first | exact .refl _ | exact ⟨.refl _, .refl _⟩ | exact ⟨.refl _, .refl _, .refl _⟩ | exact ⟨.refl _, .refl _, .refl _, .refl _⟩
  ·repeat' (first|(with_reducible first|apply qA|apply qB|apply qC|apply qD|apply qE|apply qF)|(refine qL rfl (WF.of ?_) ?_; first|rfl|skip)|(refine DW.regL rfl (WF.of ?_) ?_; first|rfl|skip)|(simp (disch:=omega) only [go_sem, simprocAttr, qN, qO, qP, qQ, arF33, h1])|exact qM rfl rfl rfl|(refine qG rfl ?_)|(refine qH rfl ?_)|(refine qI rfl ?_ ?_<;>intro hc<;>(try simp only [go_sem] at hc))|(refine qJ ?_ ?_<;>intro hc<;>(try simp only [hc])<;>(try simp only [go_sem] at hc)))
   refine ⟨⟨2, by omega⟩, ?_, Ent.to ?_ ?_⟩ <;> first | (show _ < _; (try simp only); omega) | (simp (disch:=omega) only [qR,qS,qTw,qU,get,Nat.reduceEqDiff,↓reduceIte,qV,qW,qX,qY,qZ,and_self,dI,i64_in,and_true,true_and,rA,rB,rC,rD])
   all_goals first | exact .refl _ | exact ⟨.refl _, .refl _⟩ | exact ⟨.refl _, .refl _, .refl _⟩ | exact ⟨.refl _, .refl _, .refl _, .refl _⟩
 ·repeat' (first|(with_reducible first|apply qA|apply qB|apply qC|apply qD|apply qE|apply qF)|(refine qL rfl (WF.of ?_) ?_; first|rfl|skip)|(refine DW.regL rfl (WF.of ?_) ?_; first|rfl|skip)|(simp (disch:=omega) only [go_sem, simprocAttr, qN, qO, qP, qQ])|exact qM rfl rfl rfl|(refine qG rfl ?_)|(refine qH rfl ?_)|(refine qI rfl ?_ ?_<;>intro hc<;>(try simp only [go_sem] at hc))|(refine qJ ?_ ?_<;>intro hc<;>(try simp only [hc])<;>(try simp only [go_sem] at hc)))
  refine DW.loop (ι := { i : Nat // i ≤ 3 }) (fun i => ⟨215, [(29, dI i.1), (28, .box 28 0), (27, dI 2), (22, .box 22 0), (21, dI Wp), (20, .box 20 0), (9, .box 9 0)], [(28, .box (arF3 v02 v12 v22 i.1)), (22, .box [(.c (.sl false 2 (rows eRt [(n00, d00), (n01, d01), (n02, d02)]))), (.c (.sl false 2 (rows eRt [(n10, d10), (n11, d11), (n12, d12)]))), (.c (.sl false 2 (rows eRt [(n20, d20), (n21, d21), (n22, d22)])))]), (20, .box [.c (.sl false 8 (rows Seat.eP Ps)), .c (.sl false 4 (rows eF Fs))]), (9, .box [dI 2900, dI P.tl, dI P.th, dI P.webs])]⟩) (fun i => 3 - i.1) ⟨0, by omega⟩ ?_ ?_
  ·refine Ent.to ?_ ?_ <;> simp (disch:=omega) only [qR,qS,qTw,qU,get,Nat.reduceEqDiff,↓reduceIte,qV,qW,qX,qY,qZ,and_self,dI,i64_in,and_true,true_and,rA,rB,rC,rD,arF30]
   all_goals first | exact .refl _ | exact ⟨.refl _, .refl _⟩ | exact ⟨.refl _, .refl _, .refl _⟩ | exact ⟨.refl _, .refl _, .refl _, .refl _⟩
  rintro ⟨i, hi⟩
  dsimp only
  rcases (by omega : i = 0 ∨ i = 1 ∨ i = 2 ∨ i = 3) with rfl | rfl | rfl | rfl
  ·repeat' (first|(with_reducible first|apply qA|apply qB|apply qC|apply qD|apply qE|apply qF)|(refine qL rfl (WF.of ?_) ?_; first|rfl|skip)|(refine DW.regL rfl (WF.of ?_) ?_; first|rfl|skip)|(simp (disch:=omega) only [go_sem, simprocAttr, qN, qO, qP, qQ, arF30, cb02, dq02, dm02, rF, rG])|exact qM rfl rfl rfl|(refine qG rfl ?_)|(refine qH rfl ?_)|(refine qI rfl ?_ ?_<;>intro hc<;>(try simp only [go_sem] at hc))|(refine qJ ?_ ?_<;>intro hc<;>(try simp only [hc])<;>(try simp only [go_sem] at hc)))
   refine ⟨⟨1, by omega⟩, ?_, Ent.to ?_ ?_⟩ <;> first | (show _ < _; (try simp only); omega) | (simp (disch:=omega) only [qR,qS,qTw,qU,get,Nat.reduceEqDiff,↓reduceIte,qV,qW,qX,qY,qZ,and_self,dI,i64_in,and_true,true_and,rA,rB,rC,rD, arF30,arF31])
   all_goals first | exact .refl _ | exact ⟨.refl _, .refl _⟩ | exact ⟨.refl _, .refl _, .refl _⟩ | exact ⟨.refl _, .refl _, .refl _, .refl _⟩
  ·repeat' (first|(with_reducible first|apply qA|apply qB|apply qC|apply qD|apply qE|apply qF)|(refine qL rfl (WF.of ?_) ?_; first|rfl|skip)|(refine DW.regL rfl (WF.of ?_) ?_; first|rfl|skip)|(simp (disch:=omega) only [go_sem, simprocAttr, qN, qO, qP, qQ, arF31, cb12, dq12, dm12, rF, rG])|exact qM rfl rfl rfl|(refine qG rfl ?_)|(refine qH rfl ?_)|(refine qI rfl ?_ ?_<;>intro hc<;>(try simp only [go_sem] at hc))|(refine qJ ?_ ?_<;>intro hc<;>(try simp only [hc])<;>(try simp only [go_sem] at hc)))
   refine ⟨⟨2, by omega⟩, ?_, Ent.to ?_ ?_⟩ <;> first | (show _ < _; (try simp only); omega) | (simp (disch:=omega) only [qR,qS,qTw,qU,get,Nat.reduceEqDiff,↓reduceIte,qV,qW,qX,qY,qZ,and_self,dI,i64_in,and_true,true_and,rA,rB,rC,rD, arF31,arF32])
   all_goals first | exact .refl _ | exact ⟨.refl _, .refl _⟩ | exact ⟨.refl _, .refl _, .refl _⟩ | exact ⟨.refl _, .refl _, .refl _, .refl _⟩
  ·repeat' (first|(with_reducible first|apply qA|apply qB|apply qC|apply qD|apply qE|apply qF)|(refine qL rfl (WF.of ?_) ?_; first|rfl|skip)|(refine DW.regL rfl (WF.of ?_) ?_; first|rfl|skip)|(simp (disch:=omega) only [go_sem, simprocAttr, qN, qO, qP, qQ, arF32, cb22, dq22, dm22, rF, rG])|exact qM rfl rfl rfl|(refine qG rfl ?_)|(refine qH rfl ?_)|(refine qI rfl ?_ ?_<;>intro hc<;>(try simp only [go_sem] at hc))|(refine qJ ?_ ?_<;>intro hc<;>(try simp only [hc])<;>(try simp only [go_sem] at hc)))
   refine ⟨⟨3, by omega⟩, ?_, Ent.to ?_ ?_⟩ <;> first | (show _ < _; (try simp only); omega) | (simp (disch:=omega) only [qR,qS,qTw,qU,get,Nat.reduceEqDiff,↓reduceIte,qV,qW,qX,qY,qZ,and_self,dI,i64_in,and_true,true_and,rA,rB,rC,rD, arF32,arF33])
   all_goals first | exact .refl _ | exact ⟨.refl _, .refl _⟩ | exact ⟨.refl _, .refl _, .refl _⟩ | exact ⟨.refl _, .refl _, .refl _, .refl _⟩
  ·repeat' (first|(with_reducible first|apply qA|apply qB|apply qC|apply qD|apply qE|apply qF)|(refine qL rfl (WF.of ?_) ?_; first|rfl|skip)|(refine DW.regL rfl (WF.of ?_) ?_; first|rfl|skip)|(simp (disch:=omega) only [go_sem, simprocAttr, qN, qO, qP, qQ, arF33, h2])|exact qM rfl rfl rfl|(refine qG rfl ?_)|(refine qH rfl ?_)|(refine qI rfl ?_ ?_<;>intro hc<;>(try simp only [go_sem] at hc))|(refine qJ ?_ ?_<;>intro hc<;>(try simp only [hc])<;>(try simp only [go_sem] at hc)))
   refine ⟨⟨3, by omega⟩, ?_, Ent.to ?_ ?_⟩ <;> first | (show _ < _; (try simp only); omega) | (simp (disch:=omega) only [qR,qS,qTw,qU,get,Nat.reduceEqDiff,↓reduceIte,qV,qW,qX,qY,qZ,and_self,dI,i64_in,and_true,true_and,rA,rB,rC,rD])
   all_goals first | exact .refl _ | exact ⟨.refl _, .refl _⟩ | exact ⟨.refl _, .refl _, .refl _⟩ | exact ⟨.refl _, .refl _, .refl _, .refl _⟩
 repeat' (first|(with_reducible first|apply qA|apply qB|apply qC|apply qD|apply qE|apply qF)|(refine qL rfl (WF.of ?_) ?_; first|rfl|skip)|(refine DW.regL rfl (WF.of ?_) ?_; first|rfl|skip)|(simp (disch:=omega) only [go_sem, simprocAttr, qN, qO, qP, qQ])|exact qM rfl rfl rfl|(refine qG rfl ?_)|(refine qK (bp) (by decide) ?_)|(refine qK (tp) (by decide) ?_)|(refine qH rfl ?_)|(refine qI rfl ?_ ?_<;>intro hc<;>(try simp only [go_sem] at hc))|(refine qJ ?_ ?_<;>intro hc<;>(try simp only [hc])<;>(try simp only [go_sem] at hc)))
end Go.Dw.Seat.Tr
end
section
set_option linter.unusedSimpArgs false
set_option maxRecDepth 100000
namespace Go.Dw.Seat
open Go Go.Dw Go.Proofs Go.IntWalk
def AllLt (b : Nat) (l : List Nat) : Prop := ∀ x ∈ l, x < b
def eN (l : List Nat) : List C := l.map fun n : Nat => .v (.int .u8 (n : Int))
def e1 (n : Nat) : List C := [.v (.int .u8 n)]
theorem trimAreaY (l : List Nat) (hl : l.length = 31 ∧ AllLt 256 l) (s : List Nat) (hs : s.length = 25 ∧ AllLt 256 s) :
  DCall Try.prog 5 [.agg ((eN l).map D.c), .agg ((eN s).map D.c)] [] (bD true) [] := by
 obtain ⟨h1, h2⟩ := hl
 obtain ⟨h3, h4⟩ := hs
 match l, h1, s, h3 with
 | [a0, a1, a2, a3, a4, a5, a6, b0, b1, b2, b3, b4, b5, b6, c0, c1, c2, c3, c4, c5, c6, t, s0, s1, s2, s3, s4, s5, s6, s7, s8], _, [d0, d1, d2, d3, d4, d5, d6, d7, d8, d9, d10, d11, e0, e1, e2, e3, e4, e5, f0, f1, f2, f3, f4, f5, f6], _ =>
  exact Tr.tpTrimArea ⟨⟨a0, a1, a2, a3, a4, a5, a6⟩, ⟨b0, b1, b2, b3, b4, b5, b6⟩, ⟨c0, c1, c2, c3, c4, c5, c6⟩, t, s0, s1, s2, s3, s4, s5, s6, s7, s8⟩
   ⟨⟨h2 _ (by simp), h2 _ (by simp), h2 _ (by simp), h2 _ (by simp), h2 _ (by simp), h2 _ (by simp), h2 _ (by simp)⟩, ⟨h2 _ (by simp), h2 _ (by simp), h2 _ (by simp), h2 _ (by simp), h2 _ (by simp), h2 _ (by simp), h2 _ (by simp)⟩, ⟨h2 _ (by simp), h2 _ (by simp), h2 _ (by simp), h2 _ (by simp), h2 _ (by simp), h2 _ (by simp), h2 _ (by simp)⟩, h2 _ (by simp), h2 _ (by simp), h2 _ (by simp), h2 _ (by simp), h2 _ (by simp), h2 _ (by simp), h2 _ (by simp), h2 _ (by simp), h2 _ (by simp), h2 _ (by simp)⟩
   ⟨⟨d0, d1, d2, d3⟩, ⟨d4, d5, d6, d7⟩, ⟨d8, d9, d10, d11⟩, ⟨e0, e1, e2⟩, ⟨e3, e4, e5⟩, [f0, f1, f2, f3, f4, f5, f6]⟩
   ⟨⟨h4 _ (by simp), h4 _ (by simp), h4 _ (by simp), h4 _ (by simp)⟩, ⟨h4 _ (by simp), h4 _ (by simp), h4 _ (by simp), h4 _ (by simp)⟩, ⟨h4 _ (by simp), h4 _ (by simp), h4 _ (by simp), h4 _ (by simp)⟩, ⟨h4 _ (by simp), h4 _ (by simp), h4 _ (by simp)⟩, ⟨h4 _ (by simp), h4 _ (by simp), h4 _ (by simp)⟩, rfl⟩
end Go.Dw.Seat
end
section
set_option linter.unusedSimpArgs false
set_option maxRecDepth 100000
namespace Go.Dw.Seat
open Go Go.Dw Go.Proofs Go.ChangeShapes Go.WideShapes Go.ChangeAt Go.RowKit
theorem tOwn : ownKnob Try.prog.godebug = none := by kernel_rfl
theorem tLaid : laidOutB Try.prog = true := by kernel_rfl
theorem u4 : Try.prog.underlying 4 = some .bool := by kernel_rfl
theorem uT5 : Try.prog.underlying 5 = some (.int .u8) := by kernel_rfl
theorem clT5 : Try.prog.cellsOf 5 = 1 := by kernel_rfl
def bV (l : List Nat) : List Value := l.map fun n : Nat => Value.int .u8 (n : Int)
section
variable {H : Type} {enc : TypeId × Value → H} {w : World} {base : Nat} {spare : Nat → Bool} {held : Bool}
theorem wf8 {n : Int} (h : (Lit.int .u8 n).wf = true) : ∃ v : Nat, n = v ∧ v < 256 := by
 have e1 : IntKind.min .u8 = 0 := by decide
 have e2 : IntKind.max .u8 = 255 := by decide
 simp only [Lit.wf, e1, e2, Bool.and_eq_true, decide_eq_true_eq] at h
 exact ⟨n.toNat, by omega, by omega⟩
theorem rep_bytes : ∀ l : List Nat, RepVs w A0 (eN l) (bV l)
 | [] => rfl
 | _ :: l => ⟨_, _, rfl, ⟨rfl, rfl⟩, rep_bytes l⟩
theorem rd_U8 {fuel : Nat} {cs : List Value} {x : DataW H × List MemPlace} (h : DataW.trod enc Try.prog w base spare held fuel 5 cs = some x) : ∃ l : List Nat, (l.length = 1 ∧ AllLt 256 l) ∧ cs = bV l := by
 obtain ⟨n, e, hw⟩ := rd_int uT5 h
 obtain ⟨v, rfl, hv⟩ := wf8 hw
 exact ⟨[v], ⟨rfl, fun x hx => by rw [List.mem_singleton] at hx; rw [hx]; exact hv⟩, e⟩
theorem bV_app (a b : List Nat) : bV (a ++ b) = bV a ++ bV b := by simp [bV]
theorem lt_app {b : Nat} {l l' : List Nat} (h : AllLt b l) (h' : AllLt b l') : AllLt b (l ++ l') := fun x hx => by
 rcases List.mem_append.1 hx with h1 | h1
 ·exact h x h1
 ·exact h' x h1
theorem rd_arrB {fuel : Nat} {cs : List Value} {x : DataW H × List MemPlace} {t e : TypeId} {n k : Nat} (ht : Try.prog.underlying t = some (.array n e)) (he : Try.prog.cellsOf e = k) (hc : Try.prog.cellsOf t = n * k)
  (hrd : ∀ m cs x, DataW.trod enc Try.prog w base spare held m e cs = some x → ∃ l : List Nat, (l.length = k ∧ AllLt 256 l) ∧ cs = bV l) (h : DataW.trod enc Try.prog w base spare held fuel t cs = some x) : ∃ l : List Nat, (l.length = n * k ∧ AllLt 256 l) ∧ cs = bV l := by
 obtain ⟨hl, m, hf⟩ := rd_array ht h
 rw [hc] at hl
 have key : ∀ j, j ≤ n → ∃ l : List Nat, (l.length = j * k ∧ AllLt 256 l) ∧ cs.take (j * k) = bV l := by
  intro j
  induction j with
  | zero => intro _; exact ⟨[], ⟨by simp, fun x hx => by cases hx⟩, by simp [bV]⟩
  | succ j ih =>
   intro hj
   obtain ⟨l, ⟨h1, h2⟩, h3⟩ := ih (by omega)
   obtain ⟨y, hy⟩ := hf j (by omega)
   rw [he] at hy
   obtain ⟨l', ⟨h4, h5⟩, h6⟩ := hrd _ _ _ hy
   refine ⟨l ++ l', ⟨by rw [List.length_append, h1, h4, Nat.succ_mul], lt_app h2 h5⟩, ?_⟩
   rw [Nat.succ_mul, List.take_add, h3, h6, bV_app]
 obtain ⟨l, h1, h2⟩ := key n (Nat.le_refl _)
 rw [List.take_of_length_le (by omega)] at h2
 exact ⟨l, h1, h2⟩
theorem uT85 : Try.prog.underlying 85 = some (.array 7 5) := by kernel_rfl
theorem clT85 : Try.prog.cellsOf 85 = 7 := by kernel_rfl
theorem rd_T85 {fuel : Nat} {cs : List Value} {x : DataW H × List MemPlace} (h : DataW.trod enc Try.prog w base spare held fuel 85 cs = some x) : ∃ l : List Nat, (l.length = 7 ∧ AllLt 256 l) ∧ cs = bV l := rd_arrB (n := 7) (k := 1) uT85 clT5 clT85 (fun _ _ _ h => rd_U8 h) h
theorem uT86 : Try.prog.underlying 86 = some (.array 3 85) := by kernel_rfl
theorem clT86 : Try.prog.cellsOf 86 = 21 := by kernel_rfl
theorem rd_T86 {fuel : Nat} {cs : List Value} {x : DataW H × List MemPlace} (h : DataW.trod enc Try.prog w base spare held fuel 86 cs = some x) : ∃ l : List Nat, (l.length = 21 ∧ AllLt 256 l) ∧ cs = bV l := rd_arrB (n := 3) (k := 7) uT86 clT85 clT86 (fun _ _ _ h => rd_T85 h) h
theorem uT87 : Try.prog.underlying 87 = some (.array 3 5) := by kernel_rfl
theorem clT87 : Try.prog.cellsOf 87 = 3 := by kernel_rfl
theorem rd_T87 {fuel : Nat} {cs : List Value} {x : DataW H × List MemPlace} (h : DataW.trod enc Try.prog w base spare held fuel 87 cs = some x) : ∃ l : List Nat, (l.length = 3 ∧ AllLt 256 l) ∧ cs = bV l := rd_arrB (n := 3) (k := 1) uT87 clT5 clT87 (fun _ _ _ h => rd_U8 h) h
theorem uT88 : Try.prog.underlying 88 = some (.array 3 87) := by kernel_rfl
theorem clT88 : Try.prog.cellsOf 88 = 9 := by kernel_rfl
theorem rd_T88 {fuel : Nat} {cs : List Value} {x : DataW H × List MemPlace} (h : DataW.trod enc Try.prog w base spare held fuel 88 cs = some x) : ∃ l : List Nat, (l.length = 9 ∧ AllLt 256 l) ∧ cs = bV l := rd_arrB (n := 3) (k := 3) uT88 clT87 clT88 (fun _ _ _ h => rd_T87 h) h
theorem uT90 : structIs Try.prog 90 [(86, 0), (5, 21), (88, 22)] = true := by kernel_rfl
theorem clT90 : Try.prog.cellsOf 90 = 31 := by kernel_rfl
theorem rd_T90 {fuel : Nat} {cs : List Value} {x : DataW H × List MemPlace} (h : DataW.trod enc Try.prog w base spare held fuel 90 cs = some x) : ∃ l : List Nat, (l.length = 31 ∧ AllLt 256 l) ∧ cs = bV l := by
 obtain ⟨hl, m, hf⟩ := rd_struct uT90 h
 rw [clT90] at hl
 obtain ⟨y0, h0⟩ := hf 0 86 0 rfl
 obtain ⟨y1, h1⟩ := hf 1 5 21 rfl
 obtain ⟨y2, h2⟩ := hf 2 88 22 rfl
 rw [clT86] at h0
 rw [clT5] at h1
 rw [clT88] at h2
 obtain ⟨l0, ⟨q0, p0⟩, e0⟩ := rd_T86 h0
 obtain ⟨l1, ⟨q1, p1⟩, e1⟩ := rd_U8 h1
 obtain ⟨l2, ⟨q2, p2⟩, e2⟩ := rd_T88 h2
 refine ⟨l0 ++ l1 ++ l2, ⟨by simp only [List.length_append, q0, q1, q2], lt_app (lt_app p0 p1) p2⟩, ?_⟩
 rw [bV_app, bV_app, ← e0, ← e1, ← e2, List.drop_zero]
 have k1 : cs = cs.take 21 ++ cs.drop 21 := (List.take_append_drop _ _).symm
 have k2 : cs.drop 21 = (cs.drop 21).take 1 ++ (cs.drop 21).drop 1 := (List.take_append_drop _ _).symm
 have k3 : (cs.drop 21).drop 1 = cs.drop 22 := by rw [List.drop_drop]
 have k4 : (cs.drop 22).take 9 = cs.drop 22 := List.take_of_length_le (by rw [List.length_drop]; omega)
 rw [k3] at k2
 rw [List.append_assoc]
 first | (rw [k4]; exact k1.trans (congrArg _ k2)) | (show cs = cs.take 21 ++ ((cs.drop 21).take 1 ++ (cs.drop 22).take 9); rw [k4]; exact k1.trans (congrArg _ k2))
theorem uT91 : Try.prog.underlying 91 = some (.array 4 5) := by kernel_rfl
theorem clT91 : Try.prog.cellsOf 91 = 4 := by kernel_rfl
theorem rd_T91 {fuel : Nat} {cs : List Value} {x : DataW H × List MemPlace} (h : DataW.trod enc Try.prog w base spare held fuel 91 cs = some x) : ∃ l : List Nat, (l.length = 4 ∧ AllLt 256 l) ∧ cs = bV l := rd_arrB (n := 4) (k := 1) uT91 clT5 clT91 (fun _ _ _ h => rd_U8 h) h
theorem uT92 : Try.prog.underlying 92 = some (.array 3 91) := by kernel_rfl
theorem clT92 : Try.prog.cellsOf 92 = 12 := by kernel_rfl
theorem rd_T92 {fuel : Nat} {cs : List Value} {x : DataW H × List MemPlace} (h : DataW.trod enc Try.prog w base spare held fuel 92 cs = some x) : ∃ l : List Nat, (l.length = 12 ∧ AllLt 256 l) ∧ cs = bV l := rd_arrB (n := 3) (k := 4) uT92 clT91 clT92 (fun _ _ _ h => rd_T91 h) h
theorem uT93 : Try.prog.underlying 93 = some (.array 2 87) := by kernel_rfl
theorem clT93 : Try.prog.cellsOf 93 = 6 := by kernel_rfl
theorem rd_T93 {fuel : Nat} {cs : List Value} {x : DataW H × List MemPlace} (h : DataW.trod enc Try.prog w base spare held fuel 93 cs = some x) : ∃ l : List Nat, (l.length = 6 ∧ AllLt 256 l) ∧ cs = bV l := rd_arrB (n := 2) (k := 3) uT93 clT87 clT93 (fun _ _ _ h => rd_T87 h) h
theorem uT95 : structIs Try.prog 95 [(92, 0), (93, 12), (85, 18)] = true := by kernel_rfl
theorem clT95 : Try.prog.cellsOf 95 = 25 := by kernel_rfl
theorem rd_T95 {fuel : Nat} {cs : List Value} {x : DataW H × List MemPlace} (h : DataW.trod enc Try.prog w base spare held fuel 95 cs = some x) : ∃ l : List Nat, (l.length = 25 ∧ AllLt 256 l) ∧ cs = bV l := by
 obtain ⟨hl, m, hf⟩ := rd_struct uT95 h
 rw [clT95] at hl
 obtain ⟨y0, h0⟩ := hf 0 92 0 rfl
 obtain ⟨y1, h1⟩ := hf 1 93 12 rfl
 obtain ⟨y2, h2⟩ := hf 2 85 18 rfl
 rw [clT92] at h0
 rw [clT93] at h1
 rw [clT85] at h2
 obtain ⟨l0, ⟨q0, p0⟩, e0⟩ := rd_T92 h0
 obtain ⟨l1, ⟨q1, p1⟩, e1⟩ := rd_T93 h1
 obtain ⟨l2, ⟨q2, p2⟩, e2⟩ := rd_T85 h2
 refine ⟨l0 ++ l1 ++ l2, ⟨by simp only [List.length_append, q0, q1, q2], lt_app (lt_app p0 p1) p2⟩, ?_⟩
 rw [bV_app, bV_app, ← e0, ← e1, ← e2, List.drop_zero]
 have k1 : cs = cs.take 12 ++ cs.drop 12 := (List.take_append_drop _ _).symm
 have k2 : cs.drop 12 = (cs.drop 12).take 6 ++ (cs.drop 12).drop 6 := (List.take_append_drop _ _).symm
 have k3 : (cs.drop 12).drop 6 = cs.drop 18 := by rw [List.drop_drop]
 have k4 : (cs.drop 18).take 7 = cs.drop 18 := List.take_of_length_le (by rw [List.length_drop]; omega)
 rw [k3] at k2
 rw [List.append_assoc]
 first | (rw [k4]; exact k1.trans (congrArg _ k2)) | (show cs = cs.take 12 ++ ((cs.drop 12).take 6 ++ (cs.drop 18).take 7); rw [k4]; exact k1.trans (congrArg _ k2))
end
set_option maxHeartbeats 800000 in
theorem topTrimAreaLifted (os : Os) (started : os.Started) (H : Type) (enc : TypeId × Value → H) :
  ReturnsInHanded {} Try.checked os 5 .any (Ytnbgonichmcfaaa.Rows.topTrimAreaSpec.pre6 enc Try.prog Try.f5 Ytnbgonichmcfaaa.Rows.topTrimAreaRow.domain false) (Ytnbgonichmcfaaa.Rows.topTrimAreaSpec.post enc Try.prog Try.f5 false true false false) := by
 refine returnsInHanded_of_change (C := Try.checked) tOwn started (by kernel_rfl) Try.func5
  (ChangeSpec.witness6 (enc := enc) (C := Try.checked) false ⟨#[], #[.agg #[.int .u8 0, .int .u8 0, .int .u8 0, .int .u8 0, .int .u8 0, .int .u8 0, .int .u8 0, .int .u8 0, .int .u8 0, .int .u8 0, .int .u8 0, .int .u8 0, .int .u8 0, .int .u8 0, .int .u8 0, .int .u8 0, .int .u8 0, .int .u8 0, .int .u8 0, .int .u8 0, .int .u8 0, .int .u8 0, .int .u8 0, .int .u8 0, .int .u8 0, .int .u8 0, .int .u8 0, .int .u8 0, .int .u8 0, .int .u8 0, .int .u8 0], .agg #[.int .u8 0, .int .u8 0, .int .u8 0, .int .u8 0, .int .u8 0, .int .u8 0, .int .u8 0, .int .u8 0, .int .u8 0, .int .u8 0, .int .u8 0, .int .u8 0, .int .u8 0, .int .u8 0, .int .u8 0, .int .u8 0, .int .u8 0, .int .u8 0, .int .u8 0, .int .u8 0, .int .u8 0, .int .u8 0, .int .u8 0, .int .u8 0, .int .u8 0]], []⟩ 8 (by kernel_rfl) (by kernel_rfl) (by kernel_rfl) (by kernel_rfl)) ?_
 intro W base args ds gs before hval0 hW _ _
 have hval : ∀ (j : Nat) t v, Try.f5.params[j]? = some t → args[j]? = some v → Value.okWide Try.prog W .any base t v := hval0
 have hW' : DataW.Whole enc Try.prog Try.f5.params.toList [] false W args.toList ds gs before := hW
 obtain ⟨p, q, hA, hV, rfl, hfz, hnd⟩ := hW
 have hA : DataW.TrodAll enc Try.prog W 0 (fun _ => true) true [90, 95] args.toList ds p := hA
 obtain ⟨rfl, rfl⟩ := trodVars_none hV
 obtain ⟨v0, vs0, d0, ds0, p0, q0, hargs, rfl, rfl, h0, r0⟩ := trodAll_cons hA
 obtain ⟨v1, vs1, d1, ds1, p1, q1, rfl, rfl, rfl, h1, r1⟩ := trodAll_cons r0
 obtain ⟨rfl, rfl, rfl⟩ := trodAll_nil r1
 obtain rfl : args = #[v0, v1] := by cases args; simp_all
 obtain ⟨f0, hu0, _⟩ := structIs_spec uT90
 obtain ⟨c0, rfl, _⟩ := okWide_struct hu0 (hval 0 90 v0 rfl rfl)
 obtain ⟨f1, hu1, _⟩ := structIs_spec uT95
 obtain ⟨c1, rfl, _⟩ := okWide_struct hu1 (hval 1 95 v1 rfl rfl)
 obtain ⟨fu0, h0⟩ := h0
 obtain ⟨fu1, h1⟩ := h1
 obtain ⟨s0, ho0, e0⟩ := rd_T90 h0
 have hr0 : RepVs W A0 (eN s0) c0.toList := by
  have e : c0.toList = bV s0 := by simpa [Value.cells] using e0
  rw [e]; exact rep_bytes s0
 obtain ⟨s1, ho1, e1⟩ := rd_T95 h1
 have hr1 : RepVs W A0 (eN s1) c1.toList := by
  have e : c1.toList = bV s1 := by simpa [Value.cells] using e1
  rw [e]; exact rep_bytes s1
 refine ((trimAreaY s0 ho0 s1 ho1).calls (W := W) (vs := [.agg c0, .agg c1]) (laid0 W) (fun G => ?_)).mono ?_
 ·exact ⟨_, _, rfl, ⟨c0, rfl, RepDs.ofVs hr0⟩, _, _, rfl, ⟨c1, rfl, RepDs.ofVs hr1⟩, rfl⟩
 ·rintro e W' ⟨v, rfl, ⟨G', A', hr⟩, hb⟩
  obtain ⟨rfl, _⟩ := hr
  exact ⟨_, rfl, post_true tLaid (by decide +kernel) hW' hb rfl rfl u4 rfl rfl rfl⟩
theorem topTrimAreaHolds : Ytnbgonichmcfaaa.Rows.topTrimAreaRow.holds Ytnbgonichmcfaaa.Try.pinned (OpenSpec.ofChange Ytnbgonichmcfaaa.Rows.topTrimAreaSpec) :=
 OpenClaim.holds_of_wide 5 Try.f5 rfl rfl rfl rfl rfl rfl rfl ⟨rfl, rfl, rfl, rfl, rfl⟩ rfl rfl rfl rfl rfl (by kernel_rfl) Try.func5 (by kernel_rfl)
  (of_decide_eq_true (by kernel_rfl)) (by unfold Func.isWrapper; first | (rw [if_pos (by decide +kernel)]; kernel_rfl) | (rw [if_neg (by decide +kernel)]; exact ⟨rfl, rfl⟩))
  (fun os started H enc _ => topTrimAreaLifted os started H enc)
end Go.Dw.Seat
namespace Go.Proofs.Ytnbgonichmcfaaa
theorem topTrimAreaSaid : Rows.TopTrimAreaSaid := Go.Dw.Seat.topTrimAreaHolds
end Go.Proofs.Ytnbgonichmcfaaa
end
