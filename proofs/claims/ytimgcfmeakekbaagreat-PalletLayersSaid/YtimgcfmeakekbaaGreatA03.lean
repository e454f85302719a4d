/- The law PalletLayers returns true for every input, and changes nothing that was there before: the full statement PalletLayersSaid, without conditions. -/
import Derived.Test.YtimgcfmeakekbaaGreatA02
import Derived.ProofKit
import Derived.OpenShut
import Derived.Test.YtimgcfmeakekbaaGreatRows
set_option linter.unusedVariables false
set_option linter.unusedSimpArgs false
section
set_option linter.unusedSimpArgs false
set_option maxRecDepth 100000
namespace Go.Dw.Seat
open Go Go.Dw Go.Proofs Go.IntWalk
theorem rgt_one {p : PBs} {b : PBx} {l : List PPl} (h : opE p b [l] = 0) : rgtE p b [l] = if (fltF p b l).2 = 0 then 0 else 9 := by
 unfold rgtE
 rw [if_neg (by simpa using h)]
 simp
theorem rgt_err {p : PBs} {b : PBx} {ls : List (List PPl)} (h : ¬ opE p b ls = 0) : rgtE p b ls = opE p b ls := if_pos h
set_option maxHeartbeats 8000000 in
theorem laLayersW (s : PBs) (b : PBx) (l : List PPl) (hm : l.length ≤ maxLen) (keep : List (Int × Int)) (hmk : keep.length ≤ maxLen) (days : Int) : DCall Tryz.prog 3 [bedD s b,lyD false l,.agg [.c (.sl false 2 (rows eK keep)),dI days]] [] (bD true) [] := by
 have hk := laKnown
 have h0 := reOpen false s b l hm
 by_cases g1 : 220 < (l.length : Int)
 ·have d1 : decide (220 < (l.length : Int)) = true := decide_eq_true g1
  have hm : l.length ≤ 9223372036854775807 := hm
  refine DCall.of Tryz.func3 sf3 hb3 (Nat.le_of_ble_eq_true rfl) (okRes_nil fun _ => rfl) ?_; simp only [s3,idxs,Nat.reduceAdd]
  repeat' (first|(with_reducible first|apply qA|apply qB|apply qC|apply qD|apply qE|apply qF)|(refine qL rfl (WF.of ?_) ?_; first|rfl|skip)|(simp (disch:=omega) only [go_sem,simprocAttr,qN,qO,qP,qQ,d1])|exact qM rfl rfl rfl|(refine qG rfl ?_)|(refine qK (h0) (by decide) ?_)|(refine qK (hk) (by decide) ?_)|(refine qH rfl ?_)|(refine qI rfl ?_ ?_<;>intro hc<;>(try simp only [go_sem] at hc))|(refine qJ ?_ ?_<;>intro hc<;>(try simp only [hc])<;>(try simp only [go_sem] at hc)))
 have d1 : decide (220 < (l.length : Int)) = false := decide_eq_false g1
 by_cases g2 : 15 < (keep.length : Int)
 ·have d2 : decide (15 < (keep.length : Int)) = true := decide_eq_true g2
  have hmk : keep.length ≤ 9223372036854775807 := hmk
  refine DCall.of Tryz.func3 sf3 hb3 (Nat.le_of_ble_eq_true rfl) (okRes_nil fun _ => rfl) ?_; simp only [s3,idxs,Nat.reduceAdd]
  repeat' (first|(with_reducible first|apply qA|apply qB|apply qC|apply qD|apply qE|apply qF)|(refine qL rfl (WF.of ?_) ?_; first|rfl|skip)|(simp (disch:=omega) only [go_sem,simprocAttr,qN,qO,qP,qQ,d1,d2])|exact qM rfl rfl rfl|(refine qG rfl ?_)|(refine qK (h0) (by decide) ?_)|(refine qK (hk) (by decide) ?_)|(refine qH rfl ?_)|(refine qI rfl ?_ ?_<;>intro hc<;>(try simp only [go_sem] at hc))|(refine qJ ?_ ?_<;>intro hc<;>(try simp only [hc])<;>(try simp only [go_sem] at hc)))
 have d2 : decide (15 < (keep.length : Int)) = false := decide_eq_false g2
 have hl : l.length ≤ 2 ^ 36 := by omega
 have hkl : keep.length ≤ 2 ^ 36 := by omega
 have ho := laOwn false l hl
 have hst := laSteps false keep hkl
 have hB := plBind s b l hl
 have hS := reSame false false l l hl hl true (sameY rfl rfl)
 have hT := reTables false false keep hkl
 by_cases h : opE s b [l] = 0
 case neg =>
  have hr := rgt_err h
  have hL := plLayersN s b l hl keep days (.inl (by rw [hr]; exact h))
  rw [hr] at hB hL
  rw [if_neg h,if_neg h] at hB
  rw [if_pos h] at hL
  generalize opE s b [l] = e at *
  have d3 : (e == 0) = false := by simpa using h
  have d4 : (e != 0) = true := by simpa using h
  have d5 : (e == e) = true := by simp
  refine DCall.of Tryz.func3 sf3 hb3 (Nat.le_of_ble_eq_true rfl) (okRes_nil fun _ => rfl) ?_; simp only [s3,idxs,Nat.reduceAdd]
  repeat' (first|(with_reducible first|apply qA|apply qB|apply qC|apply qD|apply qE|apply qF)|(refine qL rfl (WF.of ?_) ?_; first|rfl|skip)|(simp (disch:=omega) only [go_sem,simprocAttr,qN,qO,qP,qQ,d1,d2,d3,d4,d5,rD])|exact qM rfl rfl rfl|(refine qG rfl ?_)|(refine qK (h0) (by decide) ?_)|(refine qK (ho) (by decide) ?_)|(refine qK (hst) (by decide) ?_)|(refine qK (hB) (by decide) ?_)|(refine qK (hL) (by decide) ?_)|(refine qK (hS) (by decide) ?_)|(refine qK (hT) (by decide) ?_)|(refine qK (hk) (by decide) ?_)|(refine qH rfl ?_)|(refine qI rfl ?_ ?_<;>intro hc<;>(try simp only [go_sem] at hc))|(refine qJ ?_ ?_<;>intro hc<;>(try simp only [hc])<;>(try simp only [go_sem] at hc)))
 obtain ⟨⟨hc0,hy⟩,hp,hb⟩ := op_ok h
 have hmem := ly_ok hy l (by simp)
 rw [h] at h0
 by_cases g3 : 60 < (l.length : Int)
 ·have d3 : decide (60 < (l.length : Int)) = true := decide_eq_true g3
  refine DCall.of Tryz.func3 sf3 hb3 (Nat.le_of_ble_eq_true rfl) (okRes_nil fun _ => rfl) ?_; simp only [s3,idxs,Nat.reduceAdd]
  repeat' (first|(with_reducible first|apply qA|apply qB|apply qC|apply qD|apply qE|apply qF)|(refine qL rfl (WF.of ?_) ?_; first|rfl|skip)|(simp (disch:=omega) only [go_sem,simprocAttr,qN,qO,qP,qQ,d1,d2,d3])|exact qM rfl rfl rfl|(refine qG rfl ?_)|(refine qK (h0) (by decide) ?_)|(refine qK (hk) (by decide) ?_)|(refine qH rfl ?_)|(refine qI rfl ?_ ?_<;>intro hc<;>(try simp only [go_sem] at hc))|(refine qJ ?_ ?_<;>intro hc<;>(try simp only [hc])<;>(try simp only [go_sem] at hc)))
 have d3 : decide (60 < (l.length : Int)) = false := decide_eq_false g3
 have hrf := reFault s b hp hb false l (by omega) (fun q hq => fine_of (hmem.2 q hq))
 have hrg := rgt_one h
 by_cases hf : (fltF s b l).2 = 0
 case neg =>
  rw [if_neg hf] at hrg
  have hL := plLayersN s b l hl keep days (.inl (by rw [hrg]; decide))
  rw [hrg] at hB hL
  rw [if_neg (by decide),if_neg (by decide)] at hB
  rw [if_pos (by decide)] at hL
  generalize (fltF s b l).1 = i at *
  generalize (fltF s b l).2 = f at *
  have d5 : (f != 0) = true := by simpa using hf
  refine DCall.of Tryz.func3 sf3 hb3 (Nat.le_of_ble_eq_true rfl) (okRes_nil fun _ => rfl) ?_; simp only [s3,idxs,Nat.reduceAdd]
  repeat' (first|(with_reducible first|apply qA|apply qB|apply qC|apply qD|apply qE|apply qF)|(refine qL rfl (WF.of ?_) ?_; first|rfl|skip)|(simp (disch:=omega) only [go_sem,simprocAttr,qN,qO,qP,qQ,d1,d2,d3,d5,rD])|exact qM rfl rfl rfl|(refine qG rfl ?_)|(refine qK (h0) (by decide) ?_)|(refine qK (ho) (by decide) ?_)|(refine qK (hst) (by decide) ?_)|(refine qK (hB) (by decide) ?_)|(refine qK (hL) (by decide) ?_)|(refine qK (hS) (by decide) ?_)|(refine qK (hT) (by decide) ?_)|(refine qK (hrf) (by decide) ?_)|(refine qK (hk) (by decide) ?_)|(refine qH rfl ?_)|(refine qI rfl ?_ ?_<;>intro hc<;>(try simp only [go_sem] at hc))|(refine qJ ?_ ?_<;>intro hc<;>(try simp only [hc])<;>(try simp only [go_sem] at hc)))
 rw [if_pos hf] at hrg
 have hrb := reBind s b hp hb false l (by omega) hmem.2
 rw [hf] at hrf
 rw [hrg,if_pos rfl,if_pos rfl] at hB
 generalize (bindS s b l 4).1 = B1 at *
 generalize (bindS s b l 4).2 = B2 at *
 have c1 : (B1 != B1) = false := by simp
 have c2 : (B2 != B2) = false := by simp
 by_cases hn : l = []
 ·have hL := plLayersN s b l hl keep days (.inr hn)
  rw [hrg,if_neg (by simp)] at hL
  have d4 : ((l.length : Int) == 0) = true := by rw [hn]; rfl
  generalize (fltF s b l).1 = i at *
  refine DCall.of Tryz.func3 sf3 hb3 (Nat.le_of_ble_eq_true rfl) (okRes_nil fun _ => rfl) ?_; simp only [s3,idxs,Nat.reduceAdd]
  repeat' (first|(with_reducible first|apply qA|apply qB|apply qC|apply qD|apply qE|apply qF)|(refine qL rfl (WF.of ?_) ?_; first|rfl|skip)|(simp (disch:=omega) only [go_sem,simprocAttr,qN,qO,qP,qQ,d1,d2,d3,d4,c1,c2,rD])|exact qM rfl rfl rfl|(refine qG rfl ?_)|(refine qK (h0) (by decide) ?_)|(refine qK (ho) (by decide) ?_)|(refine qK (hst) (by decide) ?_)|(refine qK (hB) (by decide) ?_)|(refine qK (hL) (by decide) ?_)|(refine qK (hS) (by decide) ?_)|(refine qK (hT) (by decide) ?_)|(refine qK (hrf) (by decide) ?_)|(refine qK (hrb) (by decide) ?_)|(refine qK (hk) (by decide) ?_)|(refine qH rfl ?_)|(refine qI rfl ?_ ?_<;>intro hc<;>(try simp only [go_sem] at hc))|(refine qJ ?_ ?_<;>intro hc<;>(try simp only [hc])<;>(try simp only [go_sem] at hc)))
 have hnl : 0 < l.length := List.length_pos_iff.2 hn
 have d4 : ((l.length : Int) == 0) = false := by rw [beq_eq_false_iff_ne]; omega
 have hTh := reThrough false keep days hkl
 generalize (fltF s b l).1 = i at *
 by_cases ht : thrE keep days = 0
 case neg =>
  have hL := plLayersT s b l hl keep hkl days hrg hn ht
  generalize thrE keep days = e at *
  have d5 : (e != 0) = true := by simpa using ht
  have d6 : (e == 0) = false := by simpa using ht
  have d7 : (e == e) = true := by simp
  refine DCall.of Tryz.func3 sf3 hb3 (Nat.le_of_ble_eq_true rfl) (okRes_nil fun _ => rfl) ?_; simp only [s3,idxs,Nat.reduceAdd]
  repeat' (first|(with_reducible first|apply qA|apply qB|apply qC|apply qD|apply qE|apply qF)|(refine qL rfl (WF.of ?_) ?_; first|rfl|skip)|(simp (disch:=omega) only [go_sem,simprocAttr,qN,qO,qP,qQ,d1,d2,d3,d4,d5,d6,d7,c1,c2,rD])|exact qM rfl rfl rfl|(refine qG rfl ?_)|(refine qK (h0) (by decide) ?_)|(refine qK (ho) (by decide) ?_)|(refine qK (hst) (by decide) ?_)|(refine qK (hB) (by decide) ?_)|(refine qK (hL) (by decide) ?_)|(refine qK (hS) (by decide) ?_)|(refine qK (hT) (by decide) ?_)|(refine qK (hrf) (by decide) ?_)|(refine qK (hrb) (by decide) ?_)|(refine qK (hTh) (by decide) ?_)|(refine qK (hk) (by decide) ?_)|(refine qH rfl ?_)|(refine qI rfl ?_ ?_<;>intro hc<;>(try simp only [go_sem] at hc))|(refine qJ ?_ ?_<;>intro hc<;>(try simp only [hc])<;>(try simp only [go_sem] at hc)))
 have hok := thrE_ok ht
 have hL := plLayersX s b l hl keep days hok
 rw [hrg,if_pos ⟨rfl,hn⟩,if_neg (by simp),if_neg hn] at hL
 have hrl := reLayers s b hp hb l.length (by omega) false keep days hok
 rw [ht] at hTh
 generalize layI s b l.length (highI (lodF b) keep days) = N at *
 have d5 : (N == N) = true := by simp
 refine DCall.of Tryz.func3 sf3 hb3 (Nat.le_of_ble_eq_true rfl) (okRes_nil fun _ => rfl) ?_; simp only [s3,idxs,Nat.reduceAdd]
 repeat' (first|(with_reducible first|apply qA|apply qB|apply qC|apply qD|apply qE|apply qF)|(refine qL rfl (WF.of ?_) ?_; first|rfl|skip)|(simp (disch:=omega) only [go_sem,simprocAttr,qN,qO,qP,qQ,d1,d2,d3,d4,d5,c1,c2,rD])|exact qM rfl rfl rfl|(refine qG rfl ?_)|(refine qK (h0) (by decide) ?_)|(refine qK (ho) (by decide) ?_)|(refine qK (hst) (by decide) ?_)|(refine qK (hB) (by decide) ?_)|(refine qK (hL) (by decide) ?_)|(refine qK (hS) (by decide) ?_)|(refine qK (hT) (by decide) ?_)|(refine qK (hrf) (by decide) ?_)|(refine qK (hrb) (by decide) ?_)|(refine qK (hTh) (by decide) ?_)|(refine qK (hrl) (by decide) ?_)|(refine qK (hk) (by decide) ?_)|(refine qH rfl ?_)|(refine qI rfl ?_ ?_<;>intro hc<;>(try simp only [go_sem] at hc))|(refine qJ ?_ ?_<;>intro hc<;>(try simp only [hc])<;>(try simp only [go_sem] at hc)))
end Go.Dw.Seat
end
section
set_option linter.unusedSimpArgs false
set_option maxRecDepth 100000
namespace Go.Dw.Seat
open Go Go.Dw Go.Proofs Go.ChangeShapes Go.WideShapes Go.ChangeAt Go.RowKit
theorem tOwn : ownKnob Tryz.prog.godebug = none := by kernel_rfl
theorem tLaid : laidOutB Tryz.prog = true := by kernel_rfl
theorem u3 : Tryz.prog.underlying 3 = some (.int .i64) := by kernel_rfl
theorem u4 : Tryz.prog.underlying 4 = some .bool := by kernel_rfl
theorem u23 : structIs Tryz.prog 23 [(3,0),(3,1),(3,2),(3,3),(3,4),(3,5)] = true := by kernel_rfl
theorem u25 : structIs Tryz.prog 25 [(3,0),(3,1)] = true := by kernel_rfl
theorem u27 : structIs Tryz.prog 27 [(3,0),(3,1),(3,2),(25,3),(25,5)] = true := by kernel_rfl
theorem u29 : structIs Tryz.prog 29 [(23,0),(27,6)] = true := by kernel_rfl
theorem u30 : Tryz.prog.underlying 30 = some (.slice 56) := by kernel_rfl
theorem u31 : Tryz.prog.underlying 31 = some (.slice 97) := by kernel_rfl
theorem u33 : structIs Tryz.prog 33 [(31,0),(3,1)] = true := by kernel_rfl
theorem u56 : structIs Tryz.prog 56 [(3,0),(3,1),(4,2)] = true := by kernel_rfl
theorem u97 : structIs Tryz.prog 97 [(3,0),(3,1)] = true := by kernel_rfl
theorem cl3 : Tryz.prog.cellsOf 3 = 1 := by kernel_rfl
theorem cl4 : Tryz.prog.cellsOf 4 = 1 := by kernel_rfl
theorem cl23 : Tryz.prog.cellsOf 23 = 6 := by kernel_rfl
theorem cl25 : Tryz.prog.cellsOf 25 = 2 := by kernel_rfl
theorem cl27 : Tryz.prog.cellsOf 27 = 7 := by kernel_rfl
theorem cl29 : Tryz.prog.cellsOf 29 = 13 := by kernel_rfl
theorem cl31 : Tryz.prog.cellsOf 31 = 1 := by kernel_rfl
theorem cl33 : Tryz.prog.cellsOf 33 = 2 := by kernel_rfl
theorem cl56 : Tryz.prog.cellsOf 56 = 3 := by kernel_rfl
theorem cl97 : Tryz.prog.cellsOf 97 = 2 := by kernel_rfl
section
variable {H : Type} {enc : TypeId × Value → H} {w : World} {base : Nat} {spare : Nat → Bool} {held : Bool} {fuel : Nat} {cs : List Value} {x : DataW H × List MemPlace}
theorem rd_Span (h : DataW.trod enc Tryz.prog w base spare held fuel 25 cs = some x) : ∃ a b : Int,cs = [.int .i64 a,.int .i64 b] := by
 obtain ⟨hl,m,hf⟩ := rd_struct u25 h
 rw [cl25] at hl
 obtain ⟨y0,h0⟩ := hf 0 3 0 rfl
 obtain ⟨y1,h1⟩ := hf 1 3 1 rfl
 rw [cl3] at h0 h1
 match cs,hl with
 | [a,b],_ =>
  obtain ⟨n0,e0,_⟩ := rd_int u3 h0
  obtain ⟨n1,e1,_⟩ := rd_int u3 h1
  simp at e0 e1
  subst e0; subst e1
  exact ⟨n0,n1,rfl⟩
def cBs (p : PBs) : List C := [.v (.int .i64 p.lg),.v (.int .i64 p.wd),.v (.int .i64 p.hi),.v (.int .i64 p.ov),.v (.int .i64 p.top),.v (.int .i64 p.load)]
def cBx (b : PBx) : List C := [.v (.int .i64 b.lg),.v (.int .i64 b.wd),.v (.int .i64 b.hi),.v (.int .i64 b.wl),.v (.int .i64 b.wh),.v (.int .i64 b.sl),.v (.int .i64 b.sh)]
theorem rd_Bs (h : DataW.trod enc Tryz.prog w base spare held fuel 23 cs = some x) : ∃ p : PBs,cs = [.int .i64 p.lg,.int .i64 p.wd,.int .i64 p.hi,.int .i64 p.ov,.int .i64 p.top,.int .i64 p.load] := by
 obtain ⟨hl,m,hf⟩ := rd_struct u23 h
 rw [cl23] at hl
 obtain ⟨y0,h0⟩ := hf 0 3 0 rfl
 obtain ⟨y1,h1⟩ := hf 1 3 1 rfl
 obtain ⟨y2,h2⟩ := hf 2 3 2 rfl
 obtain ⟨y3,h3⟩ := hf 3 3 3 rfl
 obtain ⟨y4,h4⟩ := hf 4 3 4 rfl
 obtain ⟨y5,h5⟩ := hf 5 3 5 rfl
 rw [cl3] at h0 h1 h2 h3 h4 h5
 match cs,hl with
 | [a,b,c,d,e,f],_ =>
  obtain ⟨n0,e0,_⟩ := rd_int u3 h0
  obtain ⟨n1,e1,_⟩ := rd_int u3 h1
  obtain ⟨n2,e2,_⟩ := rd_int u3 h2
  obtain ⟨n3,e3,_⟩ := rd_int u3 h3
  obtain ⟨n4,e4,_⟩ := rd_int u3 h4
  obtain ⟨n5,e5,_⟩ := rd_int u3 h5
  simp at e0 e1 e2 e3 e4 e5
  subst e0; subst e1; subst e2; subst e3; subst e4; subst e5
  exact ⟨⟨n0,n1,n2,n3,n4,n5⟩,rfl⟩
theorem rd_Bx (h : DataW.trod enc Tryz.prog w base spare held fuel 27 cs = some x) : ∃ b : PBx,cs = [.int .i64 b.lg,.int .i64 b.wd,.int .i64 b.hi,.int .i64 b.wl,.int .i64 b.wh,.int .i64 b.sl,.int .i64 b.sh] := by
 obtain ⟨hl,m,hf⟩ := rd_struct u27 h
 rw [cl27] at hl
 obtain ⟨y0,h0⟩ := hf 0 3 0 rfl
 obtain ⟨y1,h1⟩ := hf 1 3 1 rfl
 obtain ⟨y2,h2⟩ := hf 2 3 2 rfl
 obtain ⟨y3,h3⟩ := hf 3 25 3 rfl
 obtain ⟨y4,h4⟩ := hf 4 25 5 rfl
 rw [cl3] at h0 h1 h2
 rw [cl25] at h3 h4
 match cs,hl with
 | [a,b,c,d,e,f,g],_ =>
  obtain ⟨n0,e0,_⟩ := rd_int u3 h0
  obtain ⟨n1,e1,_⟩ := rd_int u3 h1
  obtain ⟨n2,e2,_⟩ := rd_int u3 h2
  obtain ⟨n3,n4,e3⟩ := rd_Span h3
  obtain ⟨n5,n6,e4⟩ := rd_Span h4
  simp at e0 e1 e2 e3 e4
  obtain ⟨rfl,rfl⟩ := e3
  obtain ⟨rfl,rfl⟩ := e4
  subst e0; subst e1; subst e2
  exact ⟨⟨n0,n1,n2,n3,n4,n5,n6⟩,rfl⟩
structure PBd where
 p : PBs
 b : PBx
def cBd (x : PBd) : List C := cBs x.p ++ cBx x.b
theorem rd_Bed (h : DataW.trod enc Tryz.prog w base spare held fuel 29 cs = some x) : ∃ s : PBd,RepVs w A0 (cBd s) cs := by
 obtain ⟨hl,m,hf⟩ := rd_struct u29 h
 rw [cl29] at hl
 obtain ⟨y0,h0⟩ := hf 0 23 0 rfl
 obtain ⟨y1,h1⟩ := hf 1 27 6 rfl
 rw [cl23] at h0
 rw [cl27] at h1
 obtain ⟨p,e0⟩ := rd_Bs h0
 obtain ⟨b,e1⟩ := rd_Bx h1
 have s1 : (cs.drop 6).take 7 = cs.drop 6 := List.take_of_length_le (by rw [List.length_drop]; omega)
 rw [s1] at e1
 rw [List.drop_zero] at e0
 have hcs : cs = cs.take 6 ++ cs.drop 6 := (List.take_append_drop 6 cs).symm
 rw [e0,e1] at hcs
 subst hcs
 exact ⟨⟨p,b⟩,_,_,rfl,⟨rfl,rfl⟩,_,_,rfl,⟨rfl,rfl⟩,_,_,rfl,⟨rfl,rfl⟩,_,_,rfl,⟨rfl,rfl⟩,_,_,rfl,⟨rfl,rfl⟩,_,_,rfl,⟨rfl,rfl⟩,_,_,rfl,⟨rfl,rfl⟩,_,_,rfl,⟨rfl,rfl⟩,_,_,rfl,⟨rfl,rfl⟩,_,_,rfl,⟨rfl,rfl⟩,_,_,rfl,⟨rfl,rfl⟩,_,_,rfl,⟨rfl,rfl⟩,_,_,rfl,⟨rfl,rfl⟩,rfl⟩
theorem rd_Place (h : DataW.trod enc Tryz.prog w base spare held fuel 56 cs = some x) : ∃ q : PPl,RepVs w A0 (eP q) cs := by
 obtain ⟨hl,m,hf⟩ := rd_struct u56 h
 rw [cl56] at hl
 obtain ⟨y0,h0⟩ := hf 0 3 0 rfl
 obtain ⟨y1,h1⟩ := hf 1 3 1 rfl
 obtain ⟨y2,h2⟩ := hf 2 4 2 rfl
 rw [cl3] at h0 h1
 rw [cl4] at h2
 match cs,hl with
 | [a,b,c],_ =>
  obtain ⟨n0,e0,_⟩ := rd_int u3 h0
  obtain ⟨n1,e1,_⟩ := rd_int u3 h1
  obtain ⟨t,e2,_⟩ := DataW.trod_bool u4 h2
  simp at e0 e1 e2
  subst e0; subst e1; subst e2
  exact ⟨⟨n0,n1,t⟩,_,_,rfl,⟨rfl,rfl⟩,_,_,rfl,⟨rfl,rfl⟩,_,_,rfl,⟨rfl,rfl⟩,rfl⟩
theorem rd_Lay (h : DataW.trod enc Tryz.prog w base spare held fuel 30 cs = some x) : ∃ (l : List PPl) (v : Value),cs = [v] ∧ RepC w A0 (.sl false 3 (rows eP l)) v ∧ l.length ≤ maxLen := by
 obtain ⟨l,v,e',hr,hm,_⟩ := rd_slice (f := eP) u30 cl56 (by decide) (fun _ => rfl) (fun m cs x h => rd_Place h) h
 exact ⟨l,v,e',hr,hm⟩
theorem rd_Step (h : DataW.trod enc Tryz.prog w base spare held fuel 97 cs = some x) : ∃ q : Int × Int,RepVs w A0 (eK q) cs := by
 obtain ⟨hl,m,hf⟩ := rd_struct u97 h
 rw [cl97] at hl
 obtain ⟨y0,h0⟩ := hf 0 3 0 rfl
 obtain ⟨y1,h1⟩ := hf 1 3 1 rfl
 rw [cl3] at h0 h1
 match cs,hl with
 | [a,b],_ =>
  obtain ⟨n0,e0,_⟩ := rd_int u3 h0
  obtain ⟨n1,e1,_⟩ := rd_int u3 h1
  simp at e0 e1
  subst e0; subst e1
  exact ⟨(n0,n1),_,_,rfl,⟨rfl,rfl⟩,_,_,rfl,⟨rfl,rfl⟩,rfl⟩
theorem rd_Steps (h : DataW.trod enc Tryz.prog w base spare held fuel 31 cs = some x) : ∃ (l : List (Int × Int)) (v : Value),cs = [v] ∧ RepC w A0 (.sl false 2 (rows eK l)) v ∧ l.length ≤ maxLen := by
 obtain ⟨l,v,e',hr,hm,_⟩ := rd_slice (f := eK) u31 cl97 (by decide) (fun _ => rfl) (fun m cs x h => rd_Step h) h
 exact ⟨l,v,e',hr,hm⟩
structure PDy where
 k : List (Int × Int)
 d : Int
def cDy (s : PDy) : List C := [.sl false 2 (rows eK s.k),.v (.int .i64 s.d)]
theorem rd_Days (h : DataW.trod enc Tryz.prog w base spare held fuel 33 cs = some x) : ∃ s : PDy,s.k.length ≤ maxLen ∧ RepVs w A0 (cDy s) cs := by
 obtain ⟨hl,m,hf⟩ := rd_struct u33 h
 rw [cl33] at hl
 obtain ⟨y0,h0⟩ := hf 0 31 0 rfl
 obtain ⟨y1,h1⟩ := hf 1 3 1 rfl
 rw [cl31] at h0
 rw [cl3] at h1
 match cs,hl with
 | [a,b],_ =>
  obtain ⟨l,v,e0,hr,hm⟩ := rd_Steps h0
  obtain ⟨n1,e1,_⟩ := rd_int u3 h1
  simp at e0 e1
  subst e0; subst e1
  exact ⟨⟨l,n1⟩,hm,_,_,rfl,hr,_,_,rfl,⟨rfl,rfl⟩,rfl⟩
end
theorem laLayers2 (s : PBs) (b : PBx) (l : List PPl) (hm : l.length ≤ maxLen) (d : PDy) (hmk : d.k.length ≤ maxLen) : DCall Tryz.prog 3 [bedD s b,lyD false l,.agg ((cDy d).map D.c)] [] (bD true) [] := laLayersW s b l hm d.k hmk d.d
end Go.Dw.Seat
end
section
set_option linter.unusedSimpArgs false
set_option maxRecDepth 100000
namespace Go.Dw.Seat
open Go Go.Dw Go.Proofs Go.ChangeShapes Go.WideShapes Go.ChangeAt Go.RowKit
set_option maxHeartbeats 800000 in
theorem palletLayersLifted (os : Os) (started : os.Started) (H : Type) (enc : TypeId × Value → H) :
  ReturnsInHanded {} Tryz.checked os 3 .any (YtimgcfmeakekbaaGreat.Rows.palletLayersSpec.pre6 enc Tryz.prog Tryz.f3 YtimgcfmeakekbaaGreat.Rows.palletLayersRow.domain false) (YtimgcfmeakekbaaGreat.Rows.palletLayersSpec.post enc Tryz.prog Tryz.f3 false true false false) := by
 refine returnsInHanded_of_change (C := Tryz.checked) tOwn started (by kernel_rfl) Tryz.func3
  (ChangeSpec.witness6 (enc := enc) (C := Tryz.checked) false ⟨#[],#[.agg #[.int .i64 0,.int .i64 0,.int .i64 0,.int .i64 0,.int .i64 0,.int .i64 0,.int .i64 0,.int .i64 0,.int .i64 0,.int .i64 0,.int .i64 0,.int .i64 0,.int .i64 0],.slice none 0 0,.agg #[.slice none 0 0,.int .i64 0]],[]⟩ 8 (by kernel_rfl) (by kernel_rfl) (by kernel_rfl) (by kernel_rfl)) ?_
 intro W base args ds gs before hval0 hW _ _
 have hval : ∀ (j : Nat) t v,Tryz.f3.params[j]? = some t → args[j]? = some v → Value.okWide Tryz.prog W .any base t v := hval0
 have hW' : DataW.Whole enc Tryz.prog Tryz.f3.params.toList [] false W args.toList ds gs before := hW
 obtain ⟨p,q,hA,hV,rfl,hfz,hnd⟩ := hW
 have hA : DataW.TrodAll enc Tryz.prog W 0 (fun _ => true) true [29,30,33] args.toList ds p := hA
 obtain ⟨rfl,rfl⟩ := trodVars_none hV
 obtain ⟨v0,vs0,d0,ds0,p0,q0,hargs,rfl,rfl,h0,r0⟩ := trodAll_cons hA
 obtain ⟨v1,vs1,d1,ds1,p1,q1,rfl,rfl,rfl,h1,r1⟩ := trodAll_cons r0
 obtain ⟨v2,vs2,d2,ds2,p2,q2,rfl,rfl,rfl,h2,r2⟩ := trodAll_cons r1
 obtain ⟨rfl,rfl,rfl⟩ := trodAll_nil r2
 obtain rfl : args = #[v0,v1,v2] := by cases args; simp_all
 obtain ⟨f0,hu0,_⟩ := structIs_spec u29
 obtain ⟨c0,rfl,_⟩ := okWide_struct hu0 (hval 0 29 v0 rfl rfl)
 obtain ⟨a1,l1,k1,rfl⟩ := okWide_slice u30 (hval 1 30 v1 rfl rfl)
 obtain ⟨f2,hu2,_⟩ := structIs_spec u33
 obtain ⟨c2,rfl,_⟩ := okWide_struct hu2 (hval 2 33 v2 rfl rfl)
 obtain ⟨fu0,h0⟩ := h0
 obtain ⟨fu1,h1⟩ := h1
 obtain ⟨fu2,h2⟩ := h2
 obtain ⟨s0,hr0⟩ := rd_Bed h0
 have hr0 : RepVs W A0 (cBd s0) c0.toList := by simpa [Value.cells] using hr0
 obtain ⟨s1,sv1,e1,hs1,hl1⟩ := rd_Lay h1
 have e1 : sv1 = Value.slice a1 l1 k1 := by simpa [Value.cells] using e1.symm
 subst e1
 obtain ⟨s2,ho2,hr2⟩ := rd_Days h2
 have hr2 : RepVs W A0 (cDy s2) c2.toList := by simpa [Value.cells] using hr2
 refine ((laLayers2 s0.p s0.b  s1 hl1 s2 ho2).calls (W := W) (vs := [.agg c0,.slice a1 l1 k1,.agg c2]) (laid0 W) (fun G => ?_)).mono ?_
 ·exact ⟨_,_,rfl,⟨c0,rfl,RepDs.ofVs hr0⟩,_,_,rfl,hs1,_,_,rfl,⟨c2,rfl,RepDs.ofVs hr2⟩,rfl⟩
 ·rintro e W' ⟨v,rfl,⟨G',A',hr⟩,hb⟩
  obtain ⟨rfl,_⟩ := hr
  exact ⟨_,rfl,post_true tLaid (by decide +kernel) hW' hb rfl rfl u4 rfl rfl rfl⟩
theorem palletLayersHolds : YtimgcfmeakekbaaGreat.Rows.palletLayersRow.holds YtimgcfmeakekbaaGreat.Tryz.pinned (OpenSpec.ofChange YtimgcfmeakekbaaGreat.Rows.palletLayersSpec) :=
 OpenClaim.holds_of_wide 3 Tryz.f3 rfl rfl rfl rfl rfl rfl rfl ⟨rfl,rfl,rfl,rfl,rfl⟩ rfl rfl rfl rfl rfl (by kernel_rfl) Tryz.func3 (by kernel_rfl)
  (of_decide_eq_true (by kernel_rfl)) (by unfold Func.isWrapper; first | (rw [if_pos (by decide +kernel)]; kernel_rfl) | (rw [if_neg (by decide +kernel)]; exact ⟨rfl,rfl⟩))
  (fun os started H enc _ => palletLayersLifted os started H enc)
end Go.Dw.Seat
namespace Go.Proofs.YtimgcfmeakekbaaGreat
theorem palletLayersSaid : Rows.PalletLayersSaid := Go.Dw.Seat.palletLayersHolds
end Go.Proofs.YtimgcfmeakekbaaGreat
end
