/- Helpers of a proof. -/
import Derived.Test.YtnbgonichmcfaaaDoorW46
import Derived.Test.YtnbgonichmcfaaaDoorProg
set_option linter.unusedVariables false
set_option linter.unusedSimpArgs false
section
namespace Go.Dw.Seat
open Go Go.Dw Go.Proofs
def tab64 : List Value := [0, 1, 56, 2, 57, 49, 28, 3, 61, 58, 42, 50, 38, 29, 17, 4, 62, 47, 59, 36, 45, 43, 51, 22, 53, 39, 33, 30, 24, 18, 12, 5, 63, 55, 48, 27, 60, 41, 37, 16, 46, 35, 44, 21, 52, 32, 23, 11, 54, 26, 40, 15, 34, 20, 31, 10, 25, 14, 19, 9, 13, 8, 7, 6].map (fun n => Value.int .u8 n)
instance laysI : Lays := ⟨[(1, tab64)]⟩
theorem lays_l : (Lays.l : List (Nat × List Value)) = [(1, tab64)] := rfl
attribute [go_sem] lays_l
theorem el0 : elemI Tryd.prog 0 = none := by kernel_rfl
theorem ty1 : tyI Tryd.prog 1 = some ⟨false, 1, [.nilFunc], 8⟩ := by kernel_rfl
theorem el1 : elemI Tryd.prog 1 = none := by kernel_rfl
theorem ty2 : tyI Tryd.prog 2 = some ⟨false, 1, [(.int .i64 0)], 8⟩ := by kernel_rfl
theorem el2 : elemI Tryd.prog 2 = none := by kernel_rfl
theorem it2 : intI Tryd.prog 2 = some .i64 := by kernel_rfl
theorem ty3 : tyI Tryd.prog 3 = some ⟨false, 1, [(.int .i64 0)], 8⟩ := by kernel_rfl
theorem el3 : elemI Tryd.prog 3 = none := by kernel_rfl
theorem it3 : intI Tryd.prog 3 = some .i64 := by kernel_rfl
theorem ty4 : tyI Tryd.prog 4 = some ⟨false, 1, [(.bool false)], 1⟩ := by kernel_rfl
theorem el4 : elemI Tryd.prog 4 = none := by kernel_rfl
theorem bl4 : blI Tryd.prog 4 = true := by kernel_rfl
theorem ty5 : tyI Tryd.prog 5 = some ⟨false, 1, [(.int .u8 0)], 1⟩ := by kernel_rfl
theorem el5 : elemI Tryd.prog 5 = none := by kernel_rfl
theorem it5 : intI Tryd.prog 5 = some .u8 := by kernel_rfl
theorem ty6 : tyI Tryd.prog 6 = some ⟨false, 1, [(.int .u8 0)], 1⟩ := by kernel_rfl
theorem el6 : elemI Tryd.prog 6 = none := by kernel_rfl
theorem it6 : intI Tryd.prog 6 = some .u8 := by kernel_rfl
theorem ty7 : tyI Tryd.prog 7 = some ⟨true, 4, [(.int .i64 0), (.int .i64 0), (.bool false), (.int .u8 0)], 24⟩ := by kernel_rfl
theorem el7 : elemI Tryd.prog 7 = none := by kernel_rfl
theorem eq7 : eqTy Tryd.prog 7 = some (.st [(0, 1, .it), (1, 1, .it), (2, 1, .bl), (3, 1, .it)]) := by kernel_rfl
theorem pl7 : placesI Tryd.prog 7 = some [(0, 1), (1, 1), (2, 1), (3, 1)] := by kernel_rfl
theorem fi7_0 : fieldI Tryd.prog 7 0 = some (0, 1, false) := by kernel_rfl
theorem fi7_1 : fieldI Tryd.prog 7 1 = some (1, 1, false) := by kernel_rfl
theorem fi7_2 : fieldI Tryd.prog 7 2 = some (2, 1, false) := by kernel_rfl
theorem fi7_3 : fieldI Tryd.prog 7 3 = some (3, 1, false) := by kernel_rfl
theorem ty8 : tyI Tryd.prog 8 = some ⟨true, 4, [(.int .i64 0), (.int .i64 0), (.bool false), (.int .u8 0)], 24⟩ := by kernel_rfl
theorem el8 : elemI Tryd.prog 8 = none := by kernel_rfl
theorem eq8 : eqTy Tryd.prog 8 = some (.st [(0, 1, .it), (1, 1, .it), (2, 1, .bl), (3, 1, .it)]) := by kernel_rfl
theorem pl8 : placesI Tryd.prog 8 = some [(0, 1), (1, 1), (2, 1), (3, 1)] := by kernel_rfl
theorem fi8_0 : fieldI Tryd.prog 8 0 = some (0, 1, false) := by kernel_rfl
theorem fi8_1 : fieldI Tryd.prog 8 1 = some (1, 1, false) := by kernel_rfl
theorem fi8_2 : fieldI Tryd.prog 8 2 = some (2, 1, false) := by kernel_rfl
theorem fi8_3 : fieldI Tryd.prog 8 3 = some (3, 1, false) := by kernel_rfl
theorem ty9 : tyI Tryd.prog 9 = some ⟨false, 1, [(.string ⟨#[]⟩)], 16⟩ := by kernel_rfl
theorem el9 : elemI Tryd.prog 9 = none := by kernel_rfl
theorem ty10 : tyI Tryd.prog 10 = some ⟨false, 1, [(.string ⟨#[]⟩)], 16⟩ := by kernel_rfl
theorem el10 : elemI Tryd.prog 10 = none := by kernel_rfl
theorem ty11 : tyI Tryd.prog 11 = some ⟨false, 1, [(.string ⟨#[]⟩)], 16⟩ := by kernel_rfl
theorem el11 : elemI Tryd.prog 11 = none := by kernel_rfl
theorem ty12 : tyI Tryd.prog 12 = some ⟨false, 1, [(.int .u64 0)], 8⟩ := by kernel_rfl
theorem el12 : elemI Tryd.prog 12 = none := by kernel_rfl
theorem it12 : intI Tryd.prog 12 = some .u64 := by kernel_rfl
theorem ty13 : tyI Tryd.prog 13 = some ⟨true, 2, [(.string ⟨#[]⟩), (.int .u64 0)], 24⟩ := by kernel_rfl
theorem el13 : elemI Tryd.prog 13 = none := by kernel_rfl
theorem pl13 : placesI Tryd.prog 13 = some [(0, 1), (1, 1)] := by kernel_rfl
theorem fi13_0 : fieldI Tryd.prog 13 0 = some (0, 1, false) := by kernel_rfl
theorem fi13_1 : fieldI Tryd.prog 13 1 = some (1, 1, false) := by kernel_rfl
theorem ty14 : tyI Tryd.prog 14 = some ⟨true, 2, [(.string ⟨#[]⟩), (.int .u64 0)], 24⟩ := by kernel_rfl
theorem el14 : elemI Tryd.prog 14 = none := by kernel_rfl
theorem pl14 : placesI Tryd.prog 14 = some [(0, 1), (1, 1)] := by kernel_rfl
theorem fi14_0 : fieldI Tryd.prog 14 0 = some (0, 1, false) := by kernel_rfl
theorem fi14_1 : fieldI Tryd.prog 14 1 = some (1, 1, false) := by kernel_rfl
theorem ty15 : tyI Tryd.prog 15 = some ⟨false, 1, [(.pointer none)], 8⟩ := by kernel_rfl
theorem el15 : elemI Tryd.prog 15 = none := by kernel_rfl
theorem ty16 : tyI Tryd.prog 16 = some ⟨false, 1, [(.pointer none)], 8⟩ := by kernel_rfl
theorem el16 : elemI Tryd.prog 16 = none := by kernel_rfl
theorem ty17 : tyI Tryd.prog 17 = some ⟨false, 1, [(.pointer none)], 8⟩ := by kernel_rfl
theorem el17 : elemI Tryd.prog 17 = none := by kernel_rfl
theorem ty18 : tyI Tryd.prog 18 = some ⟨true, 1, [(.pointer none)], 8⟩ := by kernel_rfl
theorem el18 : elemI Tryd.prog 18 = none := by kernel_rfl
theorem pl18 : placesI Tryd.prog 18 = some [(0, 1)] := by kernel_rfl
theorem fi18_0 : fieldI Tryd.prog 18 0 = some (0, 1, false) := by kernel_rfl
theorem ty19 : tyI Tryd.prog 19 = some ⟨true, 1, [(.pointer none)], 8⟩ := by kernel_rfl
theorem el19 : elemI Tryd.prog 19 = none := by kernel_rfl
theorem pl19 : placesI Tryd.prog 19 = some [(0, 1)] := by kernel_rfl
theorem fi19_0 : fieldI Tryd.prog 19 0 = some (0, 1, false) := by kernel_rfl
theorem ty20 : tyI Tryd.prog 20 = some ⟨false, 1, [.nilIface], 16⟩ := by kernel_rfl
theorem el20 : elemI Tryd.prog 20 = none := by kernel_rfl
theorem ty21 : tyI Tryd.prog 21 = some ⟨false, 1, [(.int .i32 0)], 4⟩ := by kernel_rfl
theorem el21 : elemI Tryd.prog 21 = none := by kernel_rfl
theorem it21 : intI Tryd.prog 21 = some .i32 := by kernel_rfl
theorem ty22 : tyI Tryd.prog 22 = some ⟨true, 3, [(.int .u8 0), (.int .u8 0), (.int .u8 0)], 3⟩ := by kernel_rfl
theorem el22 : elemI Tryd.prog 22 = none := by kernel_rfl
theorem ar22 : arrI Tryd.prog 22 = some (3, 5) := by kernel_rfl
theorem pl22 : placesI Tryd.prog 22 = some [(0, 1), (1, 1), (2, 1)] := by kernel_rfl
theorem ty23 : tyI Tryd.prog 23 = some ⟨true, 7, [(.int .u8 0), (.int .u8 0), (.int .u8 0), (.int .u8 0), (.int .u8 0), (.int .u8 0), (.int .u8 0)], 7⟩ := by kernel_rfl
theorem el23 : elemI Tryd.prog 23 = none := by kernel_rfl
theorem ar23 : arrI Tryd.prog 23 = some (7, 5) := by kernel_rfl
theorem pl23 : placesI Tryd.prog 23 = some [(0, 1), (1, 1), (2, 1), (3, 1), (4, 1), (5, 1), (6, 1)] := by kernel_rfl
theorem ty24 : tyI Tryd.prog 24 = some ⟨true, 2, [(.int .u8 0), (.int .u8 0)], 2⟩ := by kernel_rfl
theorem el24 : elemI Tryd.prog 24 = none := by kernel_rfl
theorem ar24 : arrI Tryd.prog 24 = some (2, 5) := by kernel_rfl
theorem pl24 : placesI Tryd.prog 24 = some [(0, 1), (1, 1)] := by kernel_rfl
theorem ty25 : tyI Tryd.prog 25 = some ⟨true, 3, [(.int .i64 0), (.int .i64 0), (.int .i64 0)], 24⟩ := by kernel_rfl
theorem el25 : elemI Tryd.prog 25 = none := by kernel_rfl
theorem eq25 : eqTy Tryd.prog 25 = some (.st [(0, 1, .it), (1, 1, .it), (2, 1, .it)]) := by kernel_rfl
theorem pl25 : placesI Tryd.prog 25 = some [(0, 1), (1, 1), (2, 1)] := by kernel_rfl
theorem fi25_0 : fieldI Tryd.prog 25 0 = some (0, 1, false) := by kernel_rfl
theorem fi25_1 : fieldI Tryd.prog 25 1 = some (1, 1, false) := by kernel_rfl
theorem fi25_2 : fieldI Tryd.prog 25 2 = some (2, 1, false) := by kernel_rfl
theorem ty26 : tyI Tryd.prog 26 = some ⟨true, 3, [(.int .i64 0), (.int .i64 0), (.int .i64 0)], 24⟩ := by kernel_rfl
theorem el26 : elemI Tryd.prog 26 = none := by kernel_rfl
theorem eq26 : eqTy Tryd.prog 26 = some (.st [(0, 1, .it), (1, 1, .it), (2, 1, .it)]) := by kernel_rfl
theorem pl26 : placesI Tryd.prog 26 = some [(0, 1), (1, 1), (2, 1)] := by kernel_rfl
theorem fi26_0 : fieldI Tryd.prog 26 0 = some (0, 1, false) := by kernel_rfl
theorem fi26_1 : fieldI Tryd.prog 26 1 = some (1, 1, false) := by kernel_rfl
theorem fi26_2 : fieldI Tryd.prog 26 2 = some (2, 1, false) := by kernel_rfl
theorem ty27 : tyI Tryd.prog 27 = some ⟨true, 2, [(.int .i64 0), (.int .i64 0)], 16⟩ := by kernel_rfl
theorem el27 : elemI Tryd.prog 27 = none := by kernel_rfl
theorem eq27 : eqTy Tryd.prog 27 = some (.st [(0, 1, .it), (1, 1, .it)]) := by kernel_rfl
theorem pl27 : placesI Tryd.prog 27 = some [(0, 1), (1, 1)] := by kernel_rfl
theorem fi27_0 : fieldI Tryd.prog 27 0 = some (0, 1, false) := by kernel_rfl
theorem fi27_1 : fieldI Tryd.prog 27 1 = some (1, 1, false) := by kernel_rfl
theorem ty28 : tyI Tryd.prog 28 = some ⟨true, 2, [(.int .i64 0), (.int .i64 0)], 16⟩ := by kernel_rfl
theorem el28 : elemI Tryd.prog 28 = none := by kernel_rfl
theorem eq28 : eqTy Tryd.prog 28 = some (.st [(0, 1, .it), (1, 1, .it)]) := by kernel_rfl
theorem pl28 : placesI Tryd.prog 28 = some [(0, 1), (1, 1)] := by kernel_rfl
theorem fi28_0 : fieldI Tryd.prog 28 0 = some (0, 1, false) := by kernel_rfl
theorem fi28_1 : fieldI Tryd.prog 28 1 = some (1, 1, false) := by kernel_rfl
theorem ty29 : tyI Tryd.prog 29 = some ⟨false, 1, [(.int .i64 0)], 8⟩ := by kernel_rfl
theorem el29 : elemI Tryd.prog 29 = none := by kernel_rfl
theorem it29 : intI Tryd.prog 29 = some .i64 := by kernel_rfl
theorem el30 : elemI Tryd.prog 30 = none := by kernel_rfl
theorem ty31 : tyI Tryd.prog 31 = some ⟨false, 1, [.nilFunc], 8⟩ := by kernel_rfl
theorem el31 : elemI Tryd.prog 31 = none := by kernel_rfl
theorem ty32 : tyI Tryd.prog 32 = some ⟨false, 1, [.nilFunc], 8⟩ := by kernel_rfl
theorem el32 : elemI Tryd.prog 32 = none := by kernel_rfl
theorem ty33 : tyI Tryd.prog 33 = some ⟨true, 4, [(.int .i64 0), (.int .i64 0), (.int .i64 0), (.int .i64 0)], 32⟩ := by kernel_rfl
theorem el33 : elemI Tryd.prog 33 = none := by kernel_rfl
theorem eq33 : eqTy Tryd.prog 33 = some (.st [(0, 2, (.st [(0, 1, .it), (1, 1, .it)])), (2, 2, (.st [(0, 1, .it), (1, 1, .it)]))]) := by kernel_rfl
theorem pl33 : placesI Tryd.prog 33 = some [(0, 2), (2, 2)] := by kernel_rfl
theorem fi33_0 : fieldI Tryd.prog 33 0 = some (0, 2, true) := by kernel_rfl
theorem fi33_1 : fieldI Tryd.prog 33 1 = some (2, 2, true) := by kernel_rfl
theorem ty34 : tyI Tryd.prog 34 = some ⟨true, 4, [(.int .i64 0), (.int .i64 0), (.int .i64 0), (.int .i64 0)], 32⟩ := by kernel_rfl
theorem el34 : elemI Tryd.prog 34 = none := by kernel_rfl
theorem eq34 : eqTy Tryd.prog 34 = some (.st [(0, 2, (.st [(0, 1, .it), (1, 1, .it)])), (2, 2, (.st [(0, 1, .it), (1, 1, .it)]))]) := by kernel_rfl
theorem pl34 : placesI Tryd.prog 34 = some [(0, 2), (2, 2)] := by kernel_rfl
theorem fi34_0 : fieldI Tryd.prog 34 0 = some (0, 2, true) := by kernel_rfl
theorem fi34_1 : fieldI Tryd.prog 34 1 = some (2, 2, true) := by kernel_rfl
theorem ty35 : tyI Tryd.prog 35 = some ⟨true, 2, [(.int .i64 0), (.int .i64 0)], 16⟩ := by kernel_rfl
theorem el35 : elemI Tryd.prog 35 = none := by kernel_rfl
theorem eq35 : eqTy Tryd.prog 35 = some (.st [(0, 1, .it), (1, 1, .it)]) := by kernel_rfl
theorem pl35 : placesI Tryd.prog 35 = some [(0, 1), (1, 1)] := by kernel_rfl
theorem fi35_0 : fieldI Tryd.prog 35 0 = some (0, 1, false) := by kernel_rfl
theorem fi35_1 : fieldI Tryd.prog 35 1 = some (1, 1, false) := by kernel_rfl
theorem ty36 : tyI Tryd.prog 36 = some ⟨true, 2, [(.int .i64 0), (.int .i64 0)], 16⟩ := by kernel_rfl
theorem el36 : elemI Tryd.prog 36 = none := by kernel_rfl
theorem eq36 : eqTy Tryd.prog 36 = some (.st [(0, 1, .it), (1, 1, .it)]) := by kernel_rfl
theorem pl36 : placesI Tryd.prog 36 = some [(0, 1), (1, 1)] := by kernel_rfl
theorem fi36_0 : fieldI Tryd.prog 36 0 = some (0, 1, false) := by kernel_rfl
theorem fi36_1 : fieldI Tryd.prog 36 1 = some (1, 1, false) := by kernel_rfl
theorem ty37 : tyI Tryd.prog 37 = some ⟨true, 5, [(.int .i64 0), (.int .i64 0), (.int .i64 0), (.int .i64 0), (.int .i64 0)], 40⟩ := by kernel_rfl
theorem el37 : elemI Tryd.prog 37 = none := by kernel_rfl
theorem eq37 : eqTy Tryd.prog 37 = some (.st [(0, 2, (.st [(0, 1, .it), (1, 1, .it)])), (2, 2, (.st [(0, 1, .it), (1, 1, .it)])), (4, 1, .it)]) := by kernel_rfl
theorem pl37 : placesI Tryd.prog 37 = some [(0, 2), (2, 2), (4, 1)] := by kernel_rfl
theorem fi37_0 : fieldI Tryd.prog 37 0 = some (0, 2, true) := by kernel_rfl
theorem fi37_1 : fieldI Tryd.prog 37 1 = some (2, 2, true) := by kernel_rfl
theorem fi37_2 : fieldI Tryd.prog 37 2 = some (4, 1, false) := by kernel_rfl
theorem ty38 : tyI Tryd.prog 38 = some ⟨true, 5, [(.int .i64 0), (.int .i64 0), (.int .i64 0), (.int .i64 0), (.int .i64 0)], 40⟩ := by kernel_rfl
theorem el38 : elemI Tryd.prog 38 = none := by kernel_rfl
theorem eq38 : eqTy Tryd.prog 38 = some (.st [(0, 2, (.st [(0, 1, .it), (1, 1, .it)])), (2, 2, (.st [(0, 1, .it), (1, 1, .it)])), (4, 1, .it)]) := by kernel_rfl
theorem pl38 : placesI Tryd.prog 38 = some [(0, 2), (2, 2), (4, 1)] := by kernel_rfl
theorem fi38_0 : fieldI Tryd.prog 38 0 = some (0, 2, true) := by kernel_rfl
theorem fi38_1 : fieldI Tryd.prog 38 1 = some (2, 2, true) := by kernel_rfl
theorem fi38_2 : fieldI Tryd.prog 38 2 = some (4, 1, false) := by kernel_rfl
theorem ty39 : tyI Tryd.prog 39 = some ⟨true, 3, [(.int .i64 0), (.int .i64 0), (.int .i64 0)], 24⟩ := by kernel_rfl
theorem el39 : elemI Tryd.prog 39 = none := by kernel_rfl
theorem eq39 : eqTy Tryd.prog 39 = some (.st [(0, 2, (.st [(0, 1, .it), (1, 1, .it)])), (2, 1, .it)]) := by kernel_rfl
theorem pl39 : placesI Tryd.prog 39 = some [(0, 2), (2, 1)] := by kernel_rfl
theorem fi39_0 : fieldI Tryd.prog 39 0 = some (0, 2, true) := by kernel_rfl
theorem fi39_1 : fieldI Tryd.prog 39 1 = some (2, 1, false) := by kernel_rfl
theorem ty40 : tyI Tryd.prog 40 = some ⟨true, 3, [(.int .i64 0), (.int .i64 0), (.int .i64 0)], 24⟩ := by kernel_rfl
theorem el40 : elemI Tryd.prog 40 = none := by kernel_rfl
theorem eq40 : eqTy Tryd.prog 40 = some (.st [(0, 2, (.st [(0, 1, .it), (1, 1, .it)])), (2, 1, .it)]) := by kernel_rfl
theorem pl40 : placesI Tryd.prog 40 = some [(0, 2), (2, 1)] := by kernel_rfl
theorem fi40_0 : fieldI Tryd.prog 40 0 = some (0, 2, true) := by kernel_rfl
theorem fi40_1 : fieldI Tryd.prog 40 1 = some (2, 1, false) := by kernel_rfl
theorem el41 : elemI Tryd.prog 41 = none := by kernel_rfl
theorem ty42 : tyI Tryd.prog 42 = some ⟨false, 1, [.nilFunc], 8⟩ := by kernel_rfl
theorem el42 : elemI Tryd.prog 42 = none := by kernel_rfl
theorem ty43 : tyI Tryd.prog 43 = some ⟨false, 1, [(.slice none 0 0)], 24⟩ := by kernel_rfl
theorem el43 : elemI Tryd.prog 43 = some 3 := by kernel_rfl
theorem el44 : elemI Tryd.prog 44 = none := by kernel_rfl
theorem ty45 : tyI Tryd.prog 45 = some ⟨false, 1, [.nilFunc], 8⟩ := by kernel_rfl
theorem el45 : elemI Tryd.prog 45 = none := by kernel_rfl
theorem ty46 : tyI Tryd.prog 46 = some ⟨false, 1, [(.slice none 0 0)], 24⟩ := by kernel_rfl
theorem el46 : elemI Tryd.prog 46 = some 38 := by kernel_rfl
theorem ty47 : tyI Tryd.prog 47 = some ⟨false, 1, [(.slice none 0 0)], 24⟩ := by kernel_rfl
theorem el47 : elemI Tryd.prog 47 = some 40 := by kernel_rfl
theorem el48 : elemI Tryd.prog 48 = none := by kernel_rfl
theorem ty49 : tyI Tryd.prog 49 = some ⟨false, 1, [.nilFunc], 8⟩ := by kernel_rfl
theorem el49 : elemI Tryd.prog 49 = none := by kernel_rfl
theorem ty50 : tyI Tryd.prog 50 = some ⟨false, 1, [(.slice none 0 0)], 24⟩ := by kernel_rfl
theorem el50 : elemI Tryd.prog 50 = some 34 := by kernel_rfl
theorem ty51 : tyI Tryd.prog 51 = some ⟨false, 1, [.nilFunc], 8⟩ := by kernel_rfl
theorem el51 : elemI Tryd.prog 51 = none := by kernel_rfl
theorem ty52 : tyI Tryd.prog 52 = some ⟨false, 1, [.nilFunc], 8⟩ := by kernel_rfl
theorem el52 : elemI Tryd.prog 52 = none := by kernel_rfl
theorem ty53 : tyI Tryd.prog 53 = some ⟨false, 1, [.nilFunc], 8⟩ := by kernel_rfl
theorem el53 : elemI Tryd.prog 53 = none := by kernel_rfl
theorem ty54 : tyI Tryd.prog 54 = some ⟨false, 1, [(.slice none 0 0)], 24⟩ := by kernel_rfl
theorem el54 : elemI Tryd.prog 54 = some 59 := by kernel_rfl
theorem ty55 : tyI Tryd.prog 55 = some ⟨false, 1, [(.slice none 0 0)], 24⟩ := by kernel_rfl
theorem el55 : elemI Tryd.prog 55 = some 22 := by kernel_rfl
theorem ty56 : tyI Tryd.prog 56 = some ⟨false, 1, [(.slice none 0 0)], 24⟩ := by kernel_rfl
theorem el56 : elemI Tryd.prog 56 = some 5 := by kernel_rfl
theorem ty57 : tyI Tryd.prog 57 = some ⟨true, 3, [(.slice none 0 0), (.slice none 0 0), (.slice none 0 0)], 72⟩ := by kernel_rfl
theorem el57 : elemI Tryd.prog 57 = none := by kernel_rfl
theorem pl57 : placesI Tryd.prog 57 = some [(0, 1), (1, 1), (2, 1)] := by kernel_rfl
theorem fi57_0 : fieldI Tryd.prog 57 0 = some (0, 1, false) := by kernel_rfl
theorem fi57_1 : fieldI Tryd.prog 57 1 = some (1, 1, false) := by kernel_rfl
theorem fi57_2 : fieldI Tryd.prog 57 2 = some (2, 1, false) := by kernel_rfl
theorem ty58 : tyI Tryd.prog 58 = some ⟨true, 3, [(.slice none 0 0), (.slice none 0 0), (.slice none 0 0)], 72⟩ := by kernel_rfl
theorem el58 : elemI Tryd.prog 58 = none := by kernel_rfl
theorem pl58 : placesI Tryd.prog 58 = some [(0, 1), (1, 1), (2, 1)] := by kernel_rfl
theorem fi58_0 : fieldI Tryd.prog 58 0 = some (0, 1, false) := by kernel_rfl
theorem fi58_1 : fieldI Tryd.prog 58 1 = some (1, 1, false) := by kernel_rfl
theorem fi58_2 : fieldI Tryd.prog 58 2 = some (2, 1, false) := by kernel_rfl
theorem ty59 : tyI Tryd.prog 59 = some ⟨true, 6, [(.int .u8 0), (.int .u8 0), (.int .u8 0), (.int .u8 0), (.int .u8 0), (.int .u8 0)], 6⟩ := by kernel_rfl
theorem el59 : elemI Tryd.prog 59 = none := by kernel_rfl
theorem ar59 : arrI Tryd.prog 59 = some (6, 5) := by kernel_rfl
theorem pl59 : placesI Tryd.prog 59 = some [(0, 1), (1, 1), (2, 1), (3, 1), (4, 1), (5, 1)] := by kernel_rfl
theorem ty60 : tyI Tryd.prog 60 = some ⟨false, 1, [(.slice none 0 0)], 24⟩ := by kernel_rfl
theorem el60 : elemI Tryd.prog 60 = some 128 := by kernel_rfl
theorem ty61 : tyI Tryd.prog 61 = some ⟨false, 1, [(.slice none 0 0)], 24⟩ := by kernel_rfl
theorem el61 : elemI Tryd.prog 61 = some 130 := by kernel_rfl
theorem ty62 : tyI Tryd.prog 62 = some ⟨true, 2, [(.slice none 0 0), (.slice none 0 0)], 48⟩ := by kernel_rfl
theorem el62 : elemI Tryd.prog 62 = none := by kernel_rfl
theorem pl62 : placesI Tryd.prog 62 = some [(0, 1), (1, 1)] := by kernel_rfl
theorem fi62_0 : fieldI Tryd.prog 62 0 = some (0, 1, false) := by kernel_rfl
theorem fi62_1 : fieldI Tryd.prog 62 1 = some (1, 1, false) := by kernel_rfl
theorem ty63 : tyI Tryd.prog 63 = some ⟨true, 2, [(.slice none 0 0), (.slice none 0 0)], 48⟩ := by kernel_rfl
theorem el63 : elemI Tryd.prog 63 = none := by kernel_rfl
theorem pl63 : placesI Tryd.prog 63 = some [(0, 1), (1, 1)] := by kernel_rfl
theorem fi63_0 : fieldI Tryd.prog 63 0 = some (0, 1, false) := by kernel_rfl
theorem fi63_1 : fieldI Tryd.prog 63 1 = some (1, 1, false) := by kernel_rfl
theorem ty64 : tyI Tryd.prog 64 = some ⟨false, 1, [.nilFunc], 8⟩ := by kernel_rfl
theorem el64 : elemI Tryd.prog 64 = none := by kernel_rfl
theorem ty65 : tyI Tryd.prog 65 = some ⟨false, 1, [(.slice none 0 0)], 24⟩ := by kernel_rfl
theorem el65 : elemI Tryd.prog 65 = some 75 := by kernel_rfl
theorem ty66 : tyI Tryd.prog 66 = some ⟨true, 2, [(.slice none 0 0), (.slice none 0 0)], 48⟩ := by kernel_rfl
theorem el66 : elemI Tryd.prog 66 = none := by kernel_rfl
theorem pl66 : placesI Tryd.prog 66 = some [(0, 1), (1, 1)] := by kernel_rfl
theorem fi66_0 : fieldI Tryd.prog 66 0 = some (0, 1, false) := by kernel_rfl
theorem fi66_1 : fieldI Tryd.prog 66 1 = some (1, 1, false) := by kernel_rfl
theorem ty67 : tyI Tryd.prog 67 = some ⟨true, 2, [(.slice none 0 0), (.slice none 0 0)], 48⟩ := by kernel_rfl
theorem el67 : elemI Tryd.prog 67 = none := by kernel_rfl
theorem pl67 : placesI Tryd.prog 67 = some [(0, 1), (1, 1)] := by kernel_rfl
theorem fi67_0 : fieldI Tryd.prog 67 0 = some (0, 1, false) := by kernel_rfl
theorem fi67_1 : fieldI Tryd.prog 67 1 = some (1, 1, false) := by kernel_rfl
theorem ty68 : tyI Tryd.prog 68 = some ⟨false, 1, [.nilFunc], 8⟩ := by kernel_rfl
theorem el68 : elemI Tryd.prog 68 = none := by kernel_rfl
theorem el69 : elemI Tryd.prog 69 = none := by kernel_rfl
theorem ty70 : tyI Tryd.prog 70 = some ⟨false, 1, [.nilFunc], 8⟩ := by kernel_rfl
theorem el70 : elemI Tryd.prog 70 = none := by kernel_rfl
theorem ty71 : tyI Tryd.prog 71 = some ⟨false, 1, [.nilFunc], 8⟩ := by kernel_rfl
theorem el71 : elemI Tryd.prog 71 = none := by kernel_rfl
theorem ty72 : tyI Tryd.prog 72 = some ⟨false, 1, [.nilFunc], 8⟩ := by kernel_rfl
theorem el72 : elemI Tryd.prog 72 = none := by kernel_rfl
theorem ty73 : tyI Tryd.prog 73 = some ⟨false, 1, [.nilFunc], 8⟩ := by kernel_rfl
theorem el73 : elemI Tryd.prog 73 = none := by kernel_rfl
theorem ty74 : tyI Tryd.prog 74 = some ⟨true, 4, [(.int .i64 0), (.int .i64 0), (.int .i64 0), (.int .i64 0)], 32⟩ := by kernel_rfl
theorem el74 : elemI Tryd.prog 74 = none := by kernel_rfl
theorem eq74 : eqTy Tryd.prog 74 = some (.st [(0, 2, (.st [(0, 1, .it), (1, 1, .it)])), (2, 2, (.st [(0, 1, .it), (1, 1, .it)]))]) := by kernel_rfl
theorem pl74 : placesI Tryd.prog 74 = some [(0, 2), (2, 2)] := by kernel_rfl
theorem fi74_0 : fieldI Tryd.prog 74 0 = some (0, 2, true) := by kernel_rfl
theorem fi74_1 : fieldI Tryd.prog 74 1 = some (2, 2, true) := by kernel_rfl
theorem ty75 : tyI Tryd.prog 75 = some ⟨true, 4, [(.int .i64 0), (.int .i64 0), (.int .i64 0), (.int .i64 0)], 32⟩ := by kernel_rfl
theorem el75 : elemI Tryd.prog 75 = none := by kernel_rfl
theorem eq75 : eqTy Tryd.prog 75 = some (.st [(0, 2, (.st [(0, 1, .it), (1, 1, .it)])), (2, 2, (.st [(0, 1, .it), (1, 1, .it)]))]) := by kernel_rfl
theorem pl75 : placesI Tryd.prog 75 = some [(0, 2), (2, 2)] := by kernel_rfl
theorem fi75_0 : fieldI Tryd.prog 75 0 = some (0, 2, true) := by kernel_rfl
theorem fi75_1 : fieldI Tryd.prog 75 1 = some (2, 2, true) := by kernel_rfl
theorem ty76 : tyI Tryd.prog 76 = some ⟨true, 2, [(.int .i64 0), (.int .i64 0)], 16⟩ := by kernel_rfl
theorem el76 : elemI Tryd.prog 76 = none := by kernel_rfl
theorem eq76 : eqTy Tryd.prog 76 = some (.st [(0, 1, .it), (1, 1, .it)]) := by kernel_rfl
theorem pl76 : placesI Tryd.prog 76 = some [(0, 1), (1, 1)] := by kernel_rfl
theorem fi76_0 : fieldI Tryd.prog 76 0 = some (0, 1, false) := by kernel_rfl
theorem fi76_1 : fieldI Tryd.prog 76 1 = some (1, 1, false) := by kernel_rfl
theorem ty77 : tyI Tryd.prog 77 = some ⟨true, 2, [(.int .i64 0), (.int .i64 0)], 16⟩ := by kernel_rfl
theorem el77 : elemI Tryd.prog 77 = none := by kernel_rfl
theorem eq77 : eqTy Tryd.prog 77 = some (.st [(0, 1, .it), (1, 1, .it)]) := by kernel_rfl
theorem pl77 : placesI Tryd.prog 77 = some [(0, 1), (1, 1)] := by kernel_rfl
theorem fi77_0 : fieldI Tryd.prog 77 0 = some (0, 1, false) := by kernel_rfl
theorem fi77_1 : fieldI Tryd.prog 77 1 = some (1, 1, false) := by kernel_rfl
theorem ty78 : tyI Tryd.prog 78 = some ⟨false, 1, [(.slice none 0 0)], 24⟩ := by kernel_rfl
theorem el78 : elemI Tryd.prog 78 = some 77 := by kernel_rfl
theorem ty79 : tyI Tryd.prog 79 = some ⟨false, 1, [.nilFunc], 8⟩ := by kernel_rfl
theorem el79 : elemI Tryd.prog 79 = none := by kernel_rfl
theorem ty80 : tyI Tryd.prog 80 = some ⟨false, 1, [.nilFunc], 8⟩ := by kernel_rfl
theorem el80 : elemI Tryd.prog 80 = none := by kernel_rfl
theorem ty81 : tyI Tryd.prog 81 = some ⟨true, 6, [(.bool false), (.bool false), (.bool false), (.bool false), (.bool false), (.bool false)], 6⟩ := by kernel_rfl
theorem el81 : elemI Tryd.prog 81 = none := by kernel_rfl
theorem ar81 : arrI Tryd.prog 81 = some (6, 4) := by kernel_rfl
theorem pl81 : placesI Tryd.prog 81 = some [(0, 1), (1, 1), (2, 1), (3, 1), (4, 1), (5, 1)] := by kernel_rfl
theorem ty82 : tyI Tryd.prog 82 = some ⟨false, 1, [(.slice none 0 0)], 24⟩ := by kernel_rfl
theorem el82 : elemI Tryd.prog 82 = some 28 := by kernel_rfl
theorem el83 : elemI Tryd.prog 83 = none := by kernel_rfl
theorem ty84 : tyI Tryd.prog 84 = some ⟨false, 1, [.nilFunc], 8⟩ := by kernel_rfl
theorem el84 : elemI Tryd.prog 84 = none := by kernel_rfl
theorem el85 : elemI Tryd.prog 85 = none := by kernel_rfl
theorem ty86 : tyI Tryd.prog 86 = some ⟨false, 1, [.nilFunc], 8⟩ := by kernel_rfl
theorem el86 : elemI Tryd.prog 86 = none := by kernel_rfl
theorem ty87 : tyI Tryd.prog 87 = some ⟨false, 1, [.nilFunc], 8⟩ := by kernel_rfl
theorem el87 : elemI Tryd.prog 87 = none := by kernel_rfl
theorem ty88 : tyI Tryd.prog 88 = some ⟨false, 1, [.nilFunc], 8⟩ := by kernel_rfl
theorem el88 : elemI Tryd.prog 88 = none := by kernel_rfl
theorem ty89 : tyI Tryd.prog 89 = some ⟨false, 1, [.nilFunc], 8⟩ := by kernel_rfl
theorem el89 : elemI Tryd.prog 89 = none := by kernel_rfl
theorem ty90 : tyI Tryd.prog 90 = some ⟨true, 3, [(.int .i64 0), (.int .i64 0), (.int .i64 0)], 24⟩ := by kernel_rfl
theorem el90 : elemI Tryd.prog 90 = none := by kernel_rfl
theorem eq90 : eqTy Tryd.prog 90 = some (.st [(0, 3, (.st [(0, 1, .it), (1, 1, .it), (2, 1, .it)]))]) := by kernel_rfl
theorem pl90 : placesI Tryd.prog 90 = some [(0, 3)] := by kernel_rfl
theorem fi90_0 : fieldI Tryd.prog 90 0 = some (0, 3, true) := by kernel_rfl
theorem ty91 : tyI Tryd.prog 91 = some ⟨true, 3, [(.int .i64 0), (.int .i64 0), (.int .i64 0)], 24⟩ := by kernel_rfl
theorem el91 : elemI Tryd.prog 91 = none := by kernel_rfl
theorem eq91 : eqTy Tryd.prog 91 = some (.st [(0, 3, (.st [(0, 1, .it), (1, 1, .it), (2, 1, .it)]))]) := by kernel_rfl
theorem pl91 : placesI Tryd.prog 91 = some [(0, 3)] := by kernel_rfl
theorem fi91_0 : fieldI Tryd.prog 91 0 = some (0, 3, true) := by kernel_rfl
theorem ty92 : tyI Tryd.prog 92 = some ⟨false, 1, [.nilFunc], 8⟩ := by kernel_rfl
theorem el92 : elemI Tryd.prog 92 = none := by kernel_rfl
theorem ty93 : tyI Tryd.prog 93 = some ⟨false, 1, [.nilFunc], 8⟩ := by kernel_rfl
theorem el93 : elemI Tryd.prog 93 = none := by kernel_rfl
theorem ty94 : tyI Tryd.prog 94 = some ⟨false, 1, [.nilFunc], 8⟩ := by kernel_rfl
theorem el94 : elemI Tryd.prog 94 = none := by kernel_rfl
theorem ty95 : tyI Tryd.prog 95 = some ⟨true, 2, [(.int .i64 0), (.int .i64 0)], 16⟩ := by kernel_rfl
theorem el95 : elemI Tryd.prog 95 = none := by kernel_rfl
theorem eq95 : eqTy Tryd.prog 95 = some (.st [(0, 2, (.st [(0, 1, .it), (1, 1, .it)]))]) := by kernel_rfl
theorem pl95 : placesI Tryd.prog 95 = some [(0, 2)] := by kernel_rfl
theorem fi95_0 : fieldI Tryd.prog 95 0 = some (0, 2, true) := by kernel_rfl
theorem ty96 : tyI Tryd.prog 96 = some ⟨true, 2, [(.int .i64 0), (.int .i64 0)], 16⟩ := by kernel_rfl
theorem el96 : elemI Tryd.prog 96 = none := by kernel_rfl
theorem eq96 : eqTy Tryd.prog 96 = some (.st [(0, 2, (.st [(0, 1, .it), (1, 1, .it)]))]) := by kernel_rfl
theorem pl96 : placesI Tryd.prog 96 = some [(0, 2)] := by kernel_rfl
theorem fi96_0 : fieldI Tryd.prog 96 0 = some (0, 2, true) := by kernel_rfl
theorem ty97 : tyI Tryd.prog 97 = some ⟨false, 1, [.nilFunc], 8⟩ := by kernel_rfl
theorem el97 : elemI Tryd.prog 97 = none := by kernel_rfl
theorem ty98 : tyI Tryd.prog 98 = some ⟨false, 1, [.nilFunc], 8⟩ := by kernel_rfl
theorem el98 : elemI Tryd.prog 98 = none := by kernel_rfl
theorem ty99 : tyI Tryd.prog 99 = some ⟨false, 1, [(.pointer none)], 8⟩ := by kernel_rfl
theorem el99 : elemI Tryd.prog 99 = none := by kernel_rfl
theorem el100 : elemI Tryd.prog 100 = none := by kernel_rfl
theorem ty101 : tyI Tryd.prog 101 = some ⟨false, 1, [.nilFunc], 8⟩ := by kernel_rfl
theorem el101 : elemI Tryd.prog 101 = none := by kernel_rfl
theorem ty102 : tyI Tryd.prog 102 = some ⟨false, 1, [(.int .u64 0)], 8⟩ := by kernel_rfl
theorem el102 : elemI Tryd.prog 102 = none := by kernel_rfl
theorem it102 : intI Tryd.prog 102 = some .u64 := by kernel_rfl
theorem ty103 : tyI Tryd.prog 103 = some ⟨false, 1, [(.int .u64 0)], 8⟩ := by kernel_rfl
theorem el103 : elemI Tryd.prog 103 = none := by kernel_rfl
theorem it103 : intI Tryd.prog 103 = some .u64 := by kernel_rfl
theorem ty104 : tyI Tryd.prog 104 = some ⟨false, 1, [.nilFunc], 8⟩ := by kernel_rfl
theorem el104 : elemI Tryd.prog 104 = none := by kernel_rfl
theorem ty105 : tyI Tryd.prog 105 = some ⟨false, 1, [(.slice none 0 0)], 24⟩ := by kernel_rfl
theorem el105 : elemI Tryd.prog 105 = some 103 := by kernel_rfl
theorem ty106 : tyI Tryd.prog 106 = some ⟨true, 2, [(.slice none 0 0), (.slice none 0 0)], 48⟩ := by kernel_rfl
theorem el106 : elemI Tryd.prog 106 = none := by kernel_rfl
theorem pl106 : placesI Tryd.prog 106 = some [(0, 1), (1, 1)] := by kernel_rfl
theorem fi106_0 : fieldI Tryd.prog 106 0 = some (0, 1, false) := by kernel_rfl
theorem fi106_1 : fieldI Tryd.prog 106 1 = some (1, 1, false) := by kernel_rfl
theorem ty107 : tyI Tryd.prog 107 = some ⟨true, 2, [(.slice none 0 0), (.slice none 0 0)], 48⟩ := by kernel_rfl
theorem el107 : elemI Tryd.prog 107 = none := by kernel_rfl
theorem pl107 : placesI Tryd.prog 107 = some [(0, 1), (1, 1)] := by kernel_rfl
theorem fi107_0 : fieldI Tryd.prog 107 0 = some (0, 1, false) := by kernel_rfl
theorem fi107_1 : fieldI Tryd.prog 107 1 = some (1, 1, false) := by kernel_rfl
theorem ty108 : tyI Tryd.prog 108 = some ⟨false, 1, [.nilFunc], 8⟩ := by kernel_rfl
theorem el108 : elemI Tryd.prog 108 = none := by kernel_rfl
theorem ty109 : tyI Tryd.prog 109 = some ⟨false, 1, [.nilFunc], 8⟩ := by kernel_rfl
theorem el109 : elemI Tryd.prog 109 = none := by kernel_rfl
theorem ty110 : tyI Tryd.prog 110 = some ⟨false, 1, [.nilFunc], 8⟩ := by kernel_rfl
theorem el110 : elemI Tryd.prog 110 = none := by kernel_rfl
theorem ty111 : tyI Tryd.prog 111 = some ⟨false, 1, [.nilFunc], 8⟩ := by kernel_rfl
theorem el111 : elemI Tryd.prog 111 = none := by kernel_rfl
theorem ty112 : tyI Tryd.prog 112 = some ⟨false, 1, [.nilFunc], 8⟩ := by kernel_rfl
theorem el112 : elemI Tryd.prog 112 = none := by kernel_rfl
theorem ty113 : tyI Tryd.prog 113 = some ⟨false, 1, [.nilFunc], 8⟩ := by kernel_rfl
theorem el113 : elemI Tryd.prog 113 = none := by kernel_rfl
theorem ty114 : tyI Tryd.prog 114 = some ⟨false, 1, [.nilFunc], 8⟩ := by kernel_rfl
theorem el114 : elemI Tryd.prog 114 = none := by kernel_rfl
theorem ty115 : tyI Tryd.prog 115 = some ⟨true, 2, [(.int .i64 0), (.slice none 0 0)], 32⟩ := by kernel_rfl
theorem el115 : elemI Tryd.prog 115 = none := by kernel_rfl
theorem pl115 : placesI Tryd.prog 115 = some [(0, 1), (1, 1)] := by kernel_rfl
theorem fi115_0 : fieldI Tryd.prog 115 0 = some (0, 1, false) := by kernel_rfl
theorem fi115_1 : fieldI Tryd.prog 115 1 = some (1, 1, false) := by kernel_rfl
theorem ty116 : tyI Tryd.prog 116 = some ⟨true, 2, [(.int .i64 0), (.slice none 0 0)], 32⟩ := by kernel_rfl
theorem el116 : elemI Tryd.prog 116 = none := by kernel_rfl
theorem pl116 : placesI Tryd.prog 116 = some [(0, 1), (1, 1)] := by kernel_rfl
theorem fi116_0 : fieldI Tryd.prog 116 0 = some (0, 1, false) := by kernel_rfl
theorem fi116_1 : fieldI Tryd.prog 116 1 = some (1, 1, false) := by kernel_rfl
theorem ty117 : tyI Tryd.prog 117 = some ⟨false, 1, [.nilFunc], 8⟩ := by kernel_rfl
theorem el117 : elemI Tryd.prog 117 = none := by kernel_rfl
theorem ty118 : tyI Tryd.prog 118 = some ⟨false, 1, [(.int .i64 0)], 8⟩ := by kernel_rfl
theorem el118 : elemI Tryd.prog 118 = none := by kernel_rfl
theorem it118 : intI Tryd.prog 118 = some .i64 := by kernel_rfl
theorem ty119 : tyI Tryd.prog 119 = some ⟨true, 3, [(.int .i64 0), (.int .i64 0), (.int .i64 0)], 24⟩ := by kernel_rfl
theorem el119 : elemI Tryd.prog 119 = none := by kernel_rfl
theorem eq119 : eqTy Tryd.prog 119 = some (.st [(0, 1, .it), (1, 1, .it), (2, 1, .it)]) := by kernel_rfl
theorem pl119 : placesI Tryd.prog 119 = some [(0, 1), (1, 1), (2, 1)] := by kernel_rfl
theorem fi119_0 : fieldI Tryd.prog 119 0 = some (0, 1, false) := by kernel_rfl
theorem fi119_1 : fieldI Tryd.prog 119 1 = some (1, 1, false) := by kernel_rfl
theorem fi119_2 : fieldI Tryd.prog 119 2 = some (2, 1, false) := by kernel_rfl
theorem ty120 : tyI Tryd.prog 120 = some ⟨true, 3, [(.int .i64 0), (.int .i64 0), (.int .i64 0)], 24⟩ := by kernel_rfl
theorem el120 : elemI Tryd.prog 120 = none := by kernel_rfl
theorem eq120 : eqTy Tryd.prog 120 = some (.st [(0, 1, .it), (1, 1, .it), (2, 1, .it)]) := by kernel_rfl
theorem pl120 : placesI Tryd.prog 120 = some [(0, 1), (1, 1), (2, 1)] := by kernel_rfl
theorem fi120_0 : fieldI Tryd.prog 120 0 = some (0, 1, false) := by kernel_rfl
theorem fi120_1 : fieldI Tryd.prog 120 1 = some (1, 1, false) := by kernel_rfl
theorem fi120_2 : fieldI Tryd.prog 120 2 = some (2, 1, false) := by kernel_rfl
theorem ty121 : tyI Tryd.prog 121 = some ⟨false, 1, [(.slice none 0 0)], 24⟩ := by kernel_rfl
theorem el121 : elemI Tryd.prog 121 = some 120 := by kernel_rfl
theorem ty122 : tyI Tryd.prog 122 = some ⟨false, 1, [.nilFunc], 8⟩ := by kernel_rfl
theorem el122 : elemI Tryd.prog 122 = none := by kernel_rfl
theorem ty123 : tyI Tryd.prog 123 = some ⟨true, 3, [(.int .i64 0), (.int .i64 0), (.int .i64 0)], 24⟩ := by kernel_rfl
theorem el123 : elemI Tryd.prog 123 = none := by kernel_rfl
theorem eq123 : eqTy Tryd.prog 123 = some (.st [(0, 2, (.st [(0, 1, .it), (1, 1, .it)])), (2, 1, .it)]) := by kernel_rfl
theorem pl123 : placesI Tryd.prog 123 = some [(0, 2), (2, 1)] := by kernel_rfl
theorem fi123_0 : fieldI Tryd.prog 123 0 = some (0, 2, true) := by kernel_rfl
theorem fi123_1 : fieldI Tryd.prog 123 1 = some (2, 1, false) := by kernel_rfl
theorem ty124 : tyI Tryd.prog 124 = some ⟨true, 3, [(.int .i64 0), (.int .i64 0), (.int .i64 0)], 24⟩ := by kernel_rfl
theorem el124 : elemI Tryd.prog 124 = none := by kernel_rfl
theorem eq124 : eqTy Tryd.prog 124 = some (.st [(0, 2, (.st [(0, 1, .it), (1, 1, .it)])), (2, 1, .it)]) := by kernel_rfl
theorem pl124 : placesI Tryd.prog 124 = some [(0, 2), (2, 1)] := by kernel_rfl
theorem fi124_0 : fieldI Tryd.prog 124 0 = some (0, 2, true) := by kernel_rfl
theorem fi124_1 : fieldI Tryd.prog 124 1 = some (2, 1, false) := by kernel_rfl
theorem ty125 : tyI Tryd.prog 125 = some ⟨false, 1, [(.slice none 0 0)], 24⟩ := by kernel_rfl
theorem el125 : elemI Tryd.prog 125 = some 124 := by kernel_rfl
theorem ty126 : tyI Tryd.prog 126 = some ⟨false, 1, [(.int .i64 0)], 8⟩ := by kernel_rfl
theorem el126 : elemI Tryd.prog 126 = none := by kernel_rfl
theorem it126 : intI Tryd.prog 126 = some .i64 := by kernel_rfl
theorem ty127 : tyI Tryd.prog 127 = some ⟨true, 8, [(.int .i64 0), (.int .i64 0), (.int .i64 0), (.int .i64 0), (.int .i64 0), (.int .i64 0), (.int .i64 0), (.int .i64 0)], 64⟩ := by kernel_rfl
theorem el127 : elemI Tryd.prog 127 = none := by kernel_rfl
theorem eq127 : eqTy Tryd.prog 127 = some (.st [(0, 1, .it), (1, 1, .it), (2, 2, (.st [(0, 1, .it), (1, 1, .it)])), (4, 2, (.st [(0, 1, .it), (1, 1, .it)])), (6, 1, .it), (7, 1, .it)]) := by kernel_rfl
theorem pl127 : placesI Tryd.prog 127 = some [(0, 1), (1, 1), (2, 2), (4, 2), (6, 1), (7, 1)] := by kernel_rfl
theorem fi127_0 : fieldI Tryd.prog 127 0 = some (0, 1, false) := by kernel_rfl
theorem fi127_1 : fieldI Tryd.prog 127 1 = some (1, 1, false) := by kernel_rfl
theorem fi127_2 : fieldI Tryd.prog 127 2 = some (2, 2, true) := by kernel_rfl
theorem fi127_3 : fieldI Tryd.prog 127 3 = some (4, 2, true) := by kernel_rfl
theorem fi127_4 : fieldI Tryd.prog 127 4 = some (6, 1, false) := by kernel_rfl
theorem fi127_5 : fieldI Tryd.prog 127 5 = some (7, 1, false) := by kernel_rfl
theorem ty128 : tyI Tryd.prog 128 = some ⟨true, 8, [(.int .i64 0), (.int .i64 0), (.int .i64 0), (.int .i64 0), (.int .i64 0), (.int .i64 0), (.int .i64 0), (.int .i64 0)], 64⟩ := by kernel_rfl
theorem el128 : elemI Tryd.prog 128 = none := by kernel_rfl
theorem eq128 : eqTy Tryd.prog 128 = some (.st [(0, 1, .it), (1, 1, .it), (2, 2, (.st [(0, 1, .it), (1, 1, .it)])), (4, 2, (.st [(0, 1, .it), (1, 1, .it)])), (6, 1, .it), (7, 1, .it)]) := by kernel_rfl
theorem pl128 : placesI Tryd.prog 128 = some [(0, 1), (1, 1), (2, 2), (4, 2), (6, 1), (7, 1)] := by kernel_rfl
theorem fi128_0 : fieldI Tryd.prog 128 0 = some (0, 1, false) := by kernel_rfl
theorem fi128_1 : fieldI Tryd.prog 128 1 = some (1, 1, false) := by kernel_rfl
theorem fi128_2 : fieldI Tryd.prog 128 2 = some (2, 2, true) := by kernel_rfl
theorem fi128_3 : fieldI Tryd.prog 128 3 = some (4, 2, true) := by kernel_rfl
theorem fi128_4 : fieldI Tryd.prog 128 4 = some (6, 1, false) := by kernel_rfl
theorem fi128_5 : fieldI Tryd.prog 128 5 = some (7, 1, false) := by kernel_rfl
theorem ty129 : tyI Tryd.prog 129 = some ⟨true, 4, [(.int .i64 0), (.int .i64 0), (.int .i64 0), (.int .i64 0)], 32⟩ := by kernel_rfl
theorem el129 : elemI Tryd.prog 129 = none := by kernel_rfl
theorem eq129 : eqTy Tryd.prog 129 = some (.st [(0, 1, .it), (1, 1, .it), (2, 2, (.st [(0, 1, .it), (1, 1, .it)]))]) := by kernel_rfl
theorem pl129 : placesI Tryd.prog 129 = some [(0, 1), (1, 1), (2, 2)] := by kernel_rfl
theorem fi129_0 : fieldI Tryd.prog 129 0 = some (0, 1, false) := by kernel_rfl
theorem fi129_1 : fieldI Tryd.prog 129 1 = some (1, 1, false) := by kernel_rfl
theorem fi129_2 : fieldI Tryd.prog 129 2 = some (2, 2, true) := by kernel_rfl
theorem ty130 : tyI Tryd.prog 130 = some ⟨true, 4, [(.int .i64 0), (.int .i64 0), (.int .i64 0), (.int .i64 0)], 32⟩ := by kernel_rfl
theorem el130 : elemI Tryd.prog 130 = none := by kernel_rfl
theorem eq130 : eqTy Tryd.prog 130 = some (.st [(0, 1, .it), (1, 1, .it), (2, 2, (.st [(0, 1, .it), (1, 1, .it)]))]) := by kernel_rfl
theorem pl130 : placesI Tryd.prog 130 = some [(0, 1), (1, 1), (2, 2)] := by kernel_rfl
theorem fi130_0 : fieldI Tryd.prog 130 0 = some (0, 1, false) := by kernel_rfl
theorem fi130_1 : fieldI Tryd.prog 130 1 = some (1, 1, false) := by kernel_rfl
theorem fi130_2 : fieldI Tryd.prog 130 2 = some (2, 2, true) := by kernel_rfl
theorem ty131 : tyI Tryd.prog 131 = some ⟨true, 2, [(.slice none 0 0), (.slice none 0 0)], 48⟩ := by kernel_rfl
theorem el131 : elemI Tryd.prog 131 = none := by kernel_rfl
theorem ar131 : arrI Tryd.prog 131 = some (2, 43) := by kernel_rfl
theorem pl131 : placesI Tryd.prog 131 = some [(0, 1), (1, 1)] := by kernel_rfl
theorem ty132 : tyI Tryd.prog 132 = some ⟨false, 1, [.nilFunc], 8⟩ := by kernel_rfl
theorem el132 : elemI Tryd.prog 132 = none := by kernel_rfl
theorem ty133 : tyI Tryd.prog 133 = some ⟨true, 5, [(.slice none 0 0), (.slice none 0 0), (.slice none 0 0), (.slice none 0 0), (.int .i64 0)], 104⟩ := by kernel_rfl
theorem el133 : elemI Tryd.prog 133 = none := by kernel_rfl
theorem pl133 : placesI Tryd.prog 133 = some [(0, 2), (2, 2), (4, 1)] := by kernel_rfl
theorem fi133_0 : fieldI Tryd.prog 133 0 = some (0, 2, true) := by kernel_rfl
theorem fi133_1 : fieldI Tryd.prog 133 1 = some (2, 2, true) := by kernel_rfl
theorem fi133_2 : fieldI Tryd.prog 133 2 = some (4, 1, false) := by kernel_rfl
theorem ty134 : tyI Tryd.prog 134 = some ⟨true, 5, [(.slice none 0 0), (.slice none 0 0), (.slice none 0 0), (.slice none 0 0), (.int .i64 0)], 104⟩ := by kernel_rfl
theorem el134 : elemI Tryd.prog 134 = none := by kernel_rfl
theorem pl134 : placesI Tryd.prog 134 = some [(0, 2), (2, 2), (4, 1)] := by kernel_rfl
theorem fi134_0 : fieldI Tryd.prog 134 0 = some (0, 2, true) := by kernel_rfl
theorem fi134_1 : fieldI Tryd.prog 134 1 = some (2, 2, true) := by kernel_rfl
theorem fi134_2 : fieldI Tryd.prog 134 2 = some (4, 1, false) := by kernel_rfl
theorem el135 : elemI Tryd.prog 135 = none := by kernel_rfl
theorem ty136 : tyI Tryd.prog 136 = some ⟨false, 1, [.nilFunc], 8⟩ := by kernel_rfl
theorem el136 : elemI Tryd.prog 136 = none := by kernel_rfl
theorem el137 : elemI Tryd.prog 137 = none := by kernel_rfl
theorem ty138 : tyI Tryd.prog 138 = some ⟨false, 1, [.nilFunc], 8⟩ := by kernel_rfl
theorem el138 : elemI Tryd.prog 138 = none := by kernel_rfl
theorem ty139 : tyI Tryd.prog 139 = some ⟨false, 1, [.nilFunc], 8⟩ := by kernel_rfl
theorem el139 : elemI Tryd.prog 139 = none := by kernel_rfl
theorem ty140 : tyI Tryd.prog 140 = some ⟨false, 1, [(.pointer none)], 8⟩ := by kernel_rfl
theorem el140 : elemI Tryd.prog 140 = none := by kernel_rfl
theorem el141 : elemI Tryd.prog 141 = none := by kernel_rfl
theorem ty142 : tyI Tryd.prog 142 = some ⟨false, 1, [.nilFunc], 8⟩ := by kernel_rfl
theorem el142 : elemI Tryd.prog 142 = none := by kernel_rfl
theorem ty143 : tyI Tryd.prog 143 = some ⟨false, 1, [(.int .u64 0)], 8⟩ := by kernel_rfl
theorem el143 : elemI Tryd.prog 143 = none := by kernel_rfl
theorem it143 : intI Tryd.prog 143 = some .u64 := by kernel_rfl
theorem ty144 : tyI Tryd.prog 144 = some ⟨false, 1, [.nilFunc], 8⟩ := by kernel_rfl
theorem el144 : elemI Tryd.prog 144 = none := by kernel_rfl
theorem ty145 : tyI Tryd.prog 145 = some ⟨false, 1, [.nilFunc], 8⟩ := by kernel_rfl
theorem el145 : elemI Tryd.prog 145 = none := by kernel_rfl
theorem ty146 : tyI Tryd.prog 146 = some ⟨false, 1, [.nilFunc], 8⟩ := by kernel_rfl
theorem el146 : elemI Tryd.prog 146 = none := by kernel_rfl
theorem ty147 : tyI Tryd.prog 147 = some ⟨true, 6, [(.int .i64 0), (.int .i64 0), (.int .i64 0), (.int .i64 0), (.int .i64 0), (.int .i64 0)], 48⟩ := by kernel_rfl
theorem el147 : elemI Tryd.prog 147 = none := by kernel_rfl
theorem eq147 : eqTy Tryd.prog 147 = some (.st [(0, 2, (.st [(0, 1, .it), (1, 1, .it)])), (2, 2, (.st [(0, 1, .it), (1, 1, .it)])), (4, 1, .it), (5, 1, .it)]) := by kernel_rfl
theorem pl147 : placesI Tryd.prog 147 = some [(0, 2), (2, 2), (4, 1), (5, 1)] := by kernel_rfl
theorem fi147_0 : fieldI Tryd.prog 147 0 = some (0, 2, true) := by kernel_rfl
theorem fi147_1 : fieldI Tryd.prog 147 1 = some (2, 2, true) := by kernel_rfl
theorem fi147_2 : fieldI Tryd.prog 147 2 = some (4, 1, false) := by kernel_rfl
theorem fi147_3 : fieldI Tryd.prog 147 3 = some (5, 1, false) := by kernel_rfl
theorem ty148 : tyI Tryd.prog 148 = some ⟨true, 6, [(.int .i64 0), (.int .i64 0), (.int .i64 0), (.int .i64 0), (.int .i64 0), (.int .i64 0)], 48⟩ := by kernel_rfl
theorem el148 : elemI Tryd.prog 148 = none := by kernel_rfl
theorem eq148 : eqTy Tryd.prog 148 = some (.st [(0, 2, (.st [(0, 1, .it), (1, 1, .it)])), (2, 2, (.st [(0, 1, .it), (1, 1, .it)])), (4, 1, .it), (5, 1, .it)]) := by kernel_rfl
theorem pl148 : placesI Tryd.prog 148 = some [(0, 2), (2, 2), (4, 1), (5, 1)] := by kernel_rfl
theorem fi148_0 : fieldI Tryd.prog 148 0 = some (0, 2, true) := by kernel_rfl
theorem fi148_1 : fieldI Tryd.prog 148 1 = some (2, 2, true) := by kernel_rfl
theorem fi148_2 : fieldI Tryd.prog 148 2 = some (4, 1, false) := by kernel_rfl
theorem fi148_3 : fieldI Tryd.prog 148 3 = some (5, 1, false) := by kernel_rfl
theorem ty149 : tyI Tryd.prog 149 = some ⟨false, 1, [.nilFunc], 8⟩ := by kernel_rfl
theorem el149 : elemI Tryd.prog 149 = none := by kernel_rfl
theorem ty150 : tyI Tryd.prog 150 = some ⟨false, 1, [.nilFunc], 8⟩ := by kernel_rfl
theorem el150 : elemI Tryd.prog 150 = none := by kernel_rfl
theorem ty151 : tyI Tryd.prog 151 = some ⟨false, 1, [.nilFunc], 8⟩ := by kernel_rfl
theorem el151 : elemI Tryd.prog 151 = none := by kernel_rfl
theorem ty152 : tyI Tryd.prog 152 = some ⟨false, 1, [.nilFunc], 8⟩ := by kernel_rfl
theorem el152 : elemI Tryd.prog 152 = none := by kernel_rfl
theorem ty153 : tyI Tryd.prog 153 = some ⟨false, 1, [.nilFunc], 8⟩ := by kernel_rfl
theorem el153 : elemI Tryd.prog 153 = none := by kernel_rfl
theorem ty154 : tyI Tryd.prog 154 = some ⟨true, 2, [(.slice none 0 0), (.int .i64 0)], 32⟩ := by kernel_rfl
theorem el154 : elemI Tryd.prog 154 = none := by kernel_rfl
theorem pl154 : placesI Tryd.prog 154 = some [(0, 1), (1, 1)] := by kernel_rfl
theorem fi154_0 : fieldI Tryd.prog 154 0 = some (0, 1, false) := by kernel_rfl
theorem fi154_1 : fieldI Tryd.prog 154 1 = some (1, 1, false) := by kernel_rfl
theorem ty155 : tyI Tryd.prog 155 = some ⟨true, 2, [(.slice none 0 0), (.int .i64 0)], 32⟩ := by kernel_rfl
theorem el155 : elemI Tryd.prog 155 = none := by kernel_rfl
theorem pl155 : placesI Tryd.prog 155 = some [(0, 1), (1, 1)] := by kernel_rfl
theorem fi155_0 : fieldI Tryd.prog 155 0 = some (0, 1, false) := by kernel_rfl
theorem fi155_1 : fieldI Tryd.prog 155 1 = some (1, 1, false) := by kernel_rfl
theorem el156 : elemI Tryd.prog 156 = none := by kernel_rfl
theorem ty157 : tyI Tryd.prog 157 = some ⟨false, 1, [.nilFunc], 8⟩ := by kernel_rfl
theorem el157 : elemI Tryd.prog 157 = none := by kernel_rfl
theorem el158 : elemI Tryd.prog 158 = none := by kernel_rfl
theorem ty159 : tyI Tryd.prog 159 = some ⟨false, 1, [.nilFunc], 8⟩ := by kernel_rfl
theorem el159 : elemI Tryd.prog 159 = none := by kernel_rfl
theorem ty160 : tyI Tryd.prog 160 = some ⟨false, 1, [.nilFunc], 8⟩ := by kernel_rfl
theorem el160 : elemI Tryd.prog 160 = none := by kernel_rfl
theorem ty161 : tyI Tryd.prog 161 = some ⟨false, 1, [.nilFunc], 8⟩ := by kernel_rfl
theorem el161 : elemI Tryd.prog 161 = none := by kernel_rfl
theorem ty162 : tyI Tryd.prog 162 = some ⟨false, 1, [.nilFunc], 8⟩ := by kernel_rfl
theorem el162 : elemI Tryd.prog 162 = none := by kernel_rfl
theorem ty163 : tyI Tryd.prog 163 = some ⟨false, 1, [.nilFunc], 8⟩ := by kernel_rfl
theorem el163 : elemI Tryd.prog 163 = none := by kernel_rfl
theorem ty164 : tyI Tryd.prog 164 = some ⟨false, 1, [.nilFunc], 8⟩ := by kernel_rfl
theorem el164 : elemI Tryd.prog 164 = none := by kernel_rfl
theorem ty165 : tyI Tryd.prog 165 = some ⟨false, 1, [.nilFunc], 8⟩ := by kernel_rfl
theorem el165 : elemI Tryd.prog 165 = none := by kernel_rfl
theorem ty166 : tyI Tryd.prog 166 = some ⟨false, 1, [.nilFunc], 8⟩ := by kernel_rfl
theorem el166 : elemI Tryd.prog 166 = none := by kernel_rfl
theorem ty167 : tyI Tryd.prog 167 = some ⟨false, 1, [.nilFunc], 8⟩ := by kernel_rfl
theorem el167 : elemI Tryd.prog 167 = none := by kernel_rfl
theorem ty168 : tyI Tryd.prog 168 = some ⟨false, 1, [.nilFunc], 8⟩ := by kernel_rfl
theorem el168 : elemI Tryd.prog 168 = none := by kernel_rfl
theorem ty169 : tyI Tryd.prog 169 = some ⟨false, 1, [.nilFunc], 8⟩ := by kernel_rfl
theorem el169 : elemI Tryd.prog 169 = none := by kernel_rfl
theorem ty170 : tyI Tryd.prog 170 = some ⟨false, 1, [.nilFunc], 8⟩ := by kernel_rfl
theorem el170 : elemI Tryd.prog 170 = none := by kernel_rfl
theorem ty171 : tyI Tryd.prog 171 = some ⟨false, 1, [.nilFunc], 8⟩ := by kernel_rfl
theorem el171 : elemI Tryd.prog 171 = none := by kernel_rfl
theorem ty172 : tyI Tryd.prog 172 = some ⟨false, 1, [.nilFunc], 8⟩ := by kernel_rfl
theorem el172 : elemI Tryd.prog 172 = none := by kernel_rfl
theorem ty173 : tyI Tryd.prog 173 = some ⟨false, 1, [.nilFunc], 8⟩ := by kernel_rfl
theorem el173 : elemI Tryd.prog 173 = none := by kernel_rfl
theorem ty174 : tyI Tryd.prog 174 = some ⟨true, 2, [(.int .i64 0), (.slice none 0 0)], 32⟩ := by kernel_rfl
theorem el174 : elemI Tryd.prog 174 = none := by kernel_rfl
theorem pl174 : placesI Tryd.prog 174 = some [(0, 2)] := by kernel_rfl
theorem fi174_0 : fieldI Tryd.prog 174 0 = some (0, 2, true) := by kernel_rfl
theorem ty175 : tyI Tryd.prog 175 = some ⟨true, 2, [(.int .i64 0), (.slice none 0 0)], 32⟩ := by kernel_rfl
theorem el175 : elemI Tryd.prog 175 = none := by kernel_rfl
theorem pl175 : placesI Tryd.prog 175 = some [(0, 2)] := by kernel_rfl
theorem fi175_0 : fieldI Tryd.prog 175 0 = some (0, 2, true) := by kernel_rfl
theorem el176 : elemI Tryd.prog 176 = none := by kernel_rfl
theorem ty177 : tyI Tryd.prog 177 = some ⟨false, 1, [.nilFunc], 8⟩ := by kernel_rfl
theorem el177 : elemI Tryd.prog 177 = none := by kernel_rfl
theorem ty178 : tyI Tryd.prog 178 = some ⟨false, 1, [.nilFunc], 8⟩ := by kernel_rfl
theorem el178 : elemI Tryd.prog 178 = none := by kernel_rfl
theorem ty179 : tyI Tryd.prog 179 = some ⟨false, 1, [.nilFunc], 8⟩ := by kernel_rfl
theorem el179 : elemI Tryd.prog 179 = none := by kernel_rfl
theorem ty180 : tyI Tryd.prog 180 = some ⟨false, 1, [.nilFunc], 8⟩ := by kernel_rfl
theorem el180 : elemI Tryd.prog 180 = none := by kernel_rfl
theorem ty181 : tyI Tryd.prog 181 = some ⟨false, 1, [.nilFunc], 8⟩ := by kernel_rfl
theorem el181 : elemI Tryd.prog 181 = none := by kernel_rfl
theorem ty182 : tyI Tryd.prog 182 = some ⟨false, 1, [.nilFunc], 8⟩ := by kernel_rfl
theorem el182 : elemI Tryd.prog 182 = none := by kernel_rfl
theorem ty183 : tyI Tryd.prog 183 = some ⟨false, 1, [.nilFunc], 8⟩ := by kernel_rfl
theorem el183 : elemI Tryd.prog 183 = none := by kernel_rfl
theorem ty184 : tyI Tryd.prog 184 = some ⟨false, 1, [.nilFunc], 8⟩ := by kernel_rfl
theorem el184 : elemI Tryd.prog 184 = none := by kernel_rfl
theorem ty185 : tyI Tryd.prog 185 = some ⟨false, 1, [.nilFunc], 8⟩ := by kernel_rfl
theorem el185 : elemI Tryd.prog 185 = none := by kernel_rfl
theorem ty186 : tyI Tryd.prog 186 = some ⟨false, 1, [.nilFunc], 8⟩ := by kernel_rfl
theorem el186 : elemI Tryd.prog 186 = none := by kernel_rfl
theorem ty187 : tyI Tryd.prog 187 = some ⟨false, 1, [.nilFunc], 8⟩ := by kernel_rfl
theorem el187 : elemI Tryd.prog 187 = none := by kernel_rfl
theorem ty188 : tyI Tryd.prog 188 = some ⟨false, 1, [.nilFunc], 8⟩ := by kernel_rfl
theorem el188 : elemI Tryd.prog 188 = none := by kernel_rfl
theorem ty189 : tyI Tryd.prog 189 = some ⟨false, 1, [(.map none)], 8⟩ := by kernel_rfl
theorem el189 : elemI Tryd.prog 189 = none := by kernel_rfl
theorem mp189 : mapI Tryd.prog 189 = some ((.c (.v (.bool false))), (.int .u64)) := by kernel_rfl
theorem ty190 : tyI Tryd.prog 190 = some ⟨true, 3, [(.slice none 0 0), (.int .i64 0), (.map none)], 40⟩ := by kernel_rfl
theorem el190 : elemI Tryd.prog 190 = none := by kernel_rfl
theorem pl190 : placesI Tryd.prog 190 = some [(0, 1), (1, 1), (2, 1)] := by kernel_rfl
theorem fi190_0 : fieldI Tryd.prog 190 0 = some (0, 1, false) := by kernel_rfl
theorem fi190_1 : fieldI Tryd.prog 190 1 = some (1, 1, false) := by kernel_rfl
theorem fi190_2 : fieldI Tryd.prog 190 2 = some (2, 1, false) := by kernel_rfl
theorem ty191 : tyI Tryd.prog 191 = some ⟨true, 3, [(.slice none 0 0), (.int .i64 0), (.map none)], 40⟩ := by kernel_rfl
theorem el191 : elemI Tryd.prog 191 = none := by kernel_rfl
theorem pl191 : placesI Tryd.prog 191 = some [(0, 1), (1, 1), (2, 1)] := by kernel_rfl
theorem fi191_0 : fieldI Tryd.prog 191 0 = some (0, 1, false) := by kernel_rfl
theorem fi191_1 : fieldI Tryd.prog 191 1 = some (1, 1, false) := by kernel_rfl
theorem fi191_2 : fieldI Tryd.prog 191 2 = some (2, 1, false) := by kernel_rfl
theorem el192 : elemI Tryd.prog 192 = none := by kernel_rfl
theorem ty193 : tyI Tryd.prog 193 = some ⟨false, 1, [.nilFunc], 8⟩ := by kernel_rfl
theorem el193 : elemI Tryd.prog 193 = none := by kernel_rfl
theorem ty194 : tyI Tryd.prog 194 = some ⟨false, 1, [.nilFunc], 8⟩ := by kernel_rfl
theorem el194 : elemI Tryd.prog 194 = none := by kernel_rfl
theorem ty195 : tyI Tryd.prog 195 = some ⟨false, 1, [.nilFunc], 8⟩ := by kernel_rfl
theorem el195 : elemI Tryd.prog 195 = none := by kernel_rfl
theorem ty196 : tyI Tryd.prog 196 = some ⟨false, 1, [.nilFunc], 8⟩ := by kernel_rfl
theorem el196 : elemI Tryd.prog 196 = none := by kernel_rfl
theorem ty197 : tyI Tryd.prog 197 = some ⟨false, 1, [.nilFunc], 8⟩ := by kernel_rfl
theorem el197 : elemI Tryd.prog 197 = none := by kernel_rfl
theorem ty198 : tyI Tryd.prog 198 = some ⟨false, 1, [.nilFunc], 8⟩ := by kernel_rfl
theorem el198 : elemI Tryd.prog 198 = none := by kernel_rfl
theorem ty199 : tyI Tryd.prog 199 = some ⟨false, 1, [.nilFunc], 8⟩ := by kernel_rfl
theorem el199 : elemI Tryd.prog 199 = none := by kernel_rfl
theorem ty200 : tyI Tryd.prog 200 = some ⟨false, 1, [.nilFunc], 8⟩ := by kernel_rfl
theorem el200 : elemI Tryd.prog 200 = none := by kernel_rfl
theorem ty201 : tyI Tryd.prog 201 = some ⟨false, 1, [.nilFunc], 8⟩ := by kernel_rfl
theorem el201 : elemI Tryd.prog 201 = none := by kernel_rfl
theorem ty202 : tyI Tryd.prog 202 = some ⟨false, 1, [.nilFunc], 8⟩ := by kernel_rfl
theorem el202 : elemI Tryd.prog 202 = none := by kernel_rfl
theorem ty203 : tyI Tryd.prog 203 = some ⟨false, 1, [.nilFunc], 8⟩ := by kernel_rfl
theorem el203 : elemI Tryd.prog 203 = none := by kernel_rfl
theorem ty204 : tyI Tryd.prog 204 = some ⟨false, 1, [.nilFunc], 8⟩ := by kernel_rfl
theorem el204 : elemI Tryd.prog 204 = none := by kernel_rfl
theorem ty205 : tyI Tryd.prog 205 = some ⟨false, 1, [.nilFunc], 8⟩ := by kernel_rfl
theorem el205 : elemI Tryd.prog 205 = none := by kernel_rfl
theorem ty206 : tyI Tryd.prog 206 = some ⟨false, 1, [(.int .u32 0)], 4⟩ := by kernel_rfl
theorem el206 : elemI Tryd.prog 206 = none := by kernel_rfl
theorem it206 : intI Tryd.prog 206 = some .u32 := by kernel_rfl
theorem ty207 : tyI Tryd.prog 207 = some ⟨false, 1, [.nilFunc], 8⟩ := by kernel_rfl
theorem el207 : elemI Tryd.prog 207 = none := by kernel_rfl
theorem ty208 : tyI Tryd.prog 208 = some ⟨false, 1, [(.int .u64 0)], 8⟩ := by kernel_rfl
theorem el208 : elemI Tryd.prog 208 = none := by kernel_rfl
theorem it208 : intI Tryd.prog 208 = some .u64 := by kernel_rfl
theorem ty209 : tyI Tryd.prog 209 = some ⟨false, 1, [.nilFunc], 8⟩ := by kernel_rfl
theorem el209 : elemI Tryd.prog 209 = none := by kernel_rfl
theorem ty210 : tyI Tryd.prog 210 = some ⟨false, 1, [(.slice none 0 0)], 24⟩ := by kernel_rfl
theorem el210 : elemI Tryd.prog 210 = some 121 := by kernel_rfl
theorem ty211 : tyI Tryd.prog 211 = some ⟨false, 1, [.nilFunc], 8⟩ := by kernel_rfl
theorem el211 : elemI Tryd.prog 211 = none := by kernel_rfl
theorem ty212 : tyI Tryd.prog 212 = some ⟨false, 1, [.nilFunc], 8⟩ := by kernel_rfl
theorem el212 : elemI Tryd.prog 212 = none := by kernel_rfl
theorem ty213 : tyI Tryd.prog 213 = some ⟨false, 1, [.nilFunc], 8⟩ := by kernel_rfl
theorem el213 : elemI Tryd.prog 213 = none := by kernel_rfl
theorem ty214 : tyI Tryd.prog 214 = some ⟨false, 1, [.nilFunc], 8⟩ := by kernel_rfl
theorem el214 : elemI Tryd.prog 214 = none := by kernel_rfl
theorem ty215 : tyI Tryd.prog 215 = some ⟨false, 1, [.nilFunc], 8⟩ := by kernel_rfl
theorem el215 : elemI Tryd.prog 215 = none := by kernel_rfl
theorem ty216 : tyI Tryd.prog 216 = some ⟨false, 1, [.nilFunc], 8⟩ := by kernel_rfl
theorem el216 : elemI Tryd.prog 216 = none := by kernel_rfl
theorem ty217 : tyI Tryd.prog 217 = some ⟨false, 1, [.nilFunc], 8⟩ := by kernel_rfl
theorem el217 : elemI Tryd.prog 217 = none := by kernel_rfl
theorem ty218 : tyI Tryd.prog 218 = some ⟨false, 1, [.nilFunc], 8⟩ := by kernel_rfl
theorem el218 : elemI Tryd.prog 218 = none := by kernel_rfl
theorem ty219 : tyI Tryd.prog 219 = some ⟨false, 1, [(.slice none 0 0)], 24⟩ := by kernel_rfl
theorem el219 : elemI Tryd.prog 219 = some 126 := by kernel_rfl
theorem ty220 : tyI Tryd.prog 220 = some ⟨false, 1, [.nilFunc], 8⟩ := by kernel_rfl
theorem el220 : elemI Tryd.prog 220 = none := by kernel_rfl
theorem ty221 : tyI Tryd.prog 221 = some ⟨false, 1, [.nilFunc], 8⟩ := by kernel_rfl
theorem el221 : elemI Tryd.prog 221 = none := by kernel_rfl
theorem ty222 : tyI Tryd.prog 222 = some ⟨false, 1, [.nilFunc], 8⟩ := by kernel_rfl
theorem el222 : elemI Tryd.prog 222 = none := by kernel_rfl
theorem ty223 : tyI Tryd.prog 223 = some ⟨false, 1, [.nilFunc], 8⟩ := by kernel_rfl
theorem el223 : elemI Tryd.prog 223 = none := by kernel_rfl
theorem ty224 : tyI Tryd.prog 224 = some ⟨false, 1, [.nilFunc], 8⟩ := by kernel_rfl
theorem el224 : elemI Tryd.prog 224 = none := by kernel_rfl
theorem ty225 : tyI Tryd.prog 225 = some ⟨true, 32, [(.int .u8 0), (.int .u8 0), (.int .u8 0), (.int .u8 0), (.int .u8 0), (.int .u8 0), (.int .u8 0), (.int .u8 0), (.int .u8 0), (.int .u8 0), (.int .u8 0), (.int .u8 0), (.int .u8 0), (.int .u8 0), (.int .u8 0), (.int .u8 0), (.int .u8 0), (.int .u8 0), (.int .u8 0), (.int .u8 0), (.int .u8 0), (.int .u8 0), (.int .u8 0), (.int .u8 0), (.int .u8 0), (.int .u8 0), (.int .u8 0), (.int .u8 0), (.int .u8 0), (.int .u8 0), (.int .u8 0), (.int .u8 0)], 32⟩ := by kernel_rfl
theorem el225 : elemI Tryd.prog 225 = none := by kernel_rfl
theorem ar225 : arrI Tryd.prog 225 = some (32, 5) := by kernel_rfl
theorem pl225 : placesI Tryd.prog 225 = some [(0, 1), (1, 1), (2, 1), (3, 1), (4, 1), (5, 1), (6, 1), (7, 1), (8, 1), (9, 1), (10, 1), (11, 1), (12, 1), (13, 1), (14, 1), (15, 1), (16, 1), (17, 1), (18, 1), (19, 1), (20, 1), (21, 1), (22, 1), (23, 1), (24, 1), (25, 1), (26, 1), (27, 1), (28, 1), (29, 1), (30, 1), (31, 1)] := by kernel_rfl
theorem el226 : elemI Tryd.prog 226 = none := by kernel_rfl
theorem ar226 : arrI Tryd.prog 226 = some (64, 5) := by kernel_rfl
theorem ty227 : tyI Tryd.prog 227 = some ⟨false, 1, [.nilFunc], 8⟩ := by kernel_rfl
theorem el227 : elemI Tryd.prog 227 = none := by kernel_rfl
theorem ty228 : tyI Tryd.prog 228 = some ⟨false, 1, [.nilFunc], 8⟩ := by kernel_rfl
theorem el228 : elemI Tryd.prog 228 = none := by kernel_rfl
theorem ty229 : tyI Tryd.prog 229 = some ⟨false, 1, [.nilFunc], 8⟩ := by kernel_rfl
theorem el229 : elemI Tryd.prog 229 = none := by kernel_rfl
theorem ty230 : tyI Tryd.prog 230 = some ⟨false, 1, [.nilFunc], 8⟩ := by kernel_rfl
theorem el230 : elemI Tryd.prog 230 = none := by kernel_rfl
theorem ty231 : tyI Tryd.prog 231 = some ⟨false, 1, [.nilFunc], 8⟩ := by kernel_rfl
theorem el231 : elemI Tryd.prog 231 = none := by kernel_rfl
theorem ty232 : tyI Tryd.prog 232 = some ⟨false, 1, [.nilFunc], 8⟩ := by kernel_rfl
theorem el232 : elemI Tryd.prog 232 = none := by kernel_rfl
theorem ty233 : tyI Tryd.prog 233 = some ⟨false, 1, [.nilFunc], 8⟩ := by kernel_rfl
theorem el233 : elemI Tryd.prog 233 = none := by kernel_rfl
theorem ty234 : tyI Tryd.prog 234 = some ⟨false, 1, [.nilFunc], 8⟩ := by kernel_rfl
theorem el234 : elemI Tryd.prog 234 = none := by kernel_rfl
theorem ty235 : tyI Tryd.prog 235 = some ⟨false, 1, [.nilFunc], 8⟩ := by kernel_rfl
theorem el235 : elemI Tryd.prog 235 = none := by kernel_rfl
theorem ty236 : tyI Tryd.prog 236 = some ⟨false, 1, [.nilFunc], 8⟩ := by kernel_rfl
theorem el236 : elemI Tryd.prog 236 = none := by kernel_rfl
theorem ty237 : tyI Tryd.prog 237 = some ⟨false, 1, [.nilFunc], 8⟩ := by kernel_rfl
theorem el237 : elemI Tryd.prog 237 = none := by kernel_rfl
theorem ty238 : tyI Tryd.prog 238 = some ⟨true, 4, [(.pointer none), (.pointer none), (.pointer none), (.string ⟨#[]⟩)], 40⟩ := by kernel_rfl
theorem el238 : elemI Tryd.prog 238 = none := by kernel_rfl
theorem pl238 : placesI Tryd.prog 238 = some [(0, 1), (1, 1), (2, 1), (3, 1)] := by kernel_rfl
theorem fi238_0 : fieldI Tryd.prog 238 0 = some (0, 1, false) := by kernel_rfl
theorem fi238_1 : fieldI Tryd.prog 238 1 = some (1, 1, false) := by kernel_rfl
theorem fi238_2 : fieldI Tryd.prog 238 2 = some (2, 1, false) := by kernel_rfl
theorem fi238_3 : fieldI Tryd.prog 238 3 = some (3, 1, false) := by kernel_rfl
theorem ty239 : tyI Tryd.prog 239 = some ⟨true, 4, [(.pointer none), (.pointer none), (.pointer none), (.string ⟨#[]⟩)], 40⟩ := by kernel_rfl
theorem el239 : elemI Tryd.prog 239 = none := by kernel_rfl
theorem pl239 : placesI Tryd.prog 239 = some [(0, 1), (1, 1), (2, 1), (3, 1)] := by kernel_rfl
theorem fi239_0 : fieldI Tryd.prog 239 0 = some (0, 1, false) := by kernel_rfl
theorem fi239_1 : fieldI Tryd.prog 239 1 = some (1, 1, false) := by kernel_rfl
theorem fi239_2 : fieldI Tryd.prog 239 2 = some (2, 1, false) := by kernel_rfl
theorem fi239_3 : fieldI Tryd.prog 239 3 = some (3, 1, false) := by kernel_rfl
theorem ty240 : tyI Tryd.prog 240 = some ⟨true, 0, [], 0⟩ := by kernel_rfl
theorem el240 : elemI Tryd.prog 240 = none := by kernel_rfl
theorem ar240 : arrI Tryd.prog 240 = some (0, 16) := by kernel_rfl
theorem pl240 : placesI Tryd.prog 240 = some [] := by kernel_rfl
theorem ty241 : tyI Tryd.prog 241 = some ⟨true, 0, [], 0⟩ := by kernel_rfl
theorem el241 : elemI Tryd.prog 241 = none := by kernel_rfl
theorem pl241 : placesI Tryd.prog 241 = some [(0, 0)] := by kernel_rfl
theorem ty242 : tyI Tryd.prog 242 = some ⟨true, 0, [], 0⟩ := by kernel_rfl
theorem el242 : elemI Tryd.prog 242 = none := by kernel_rfl
theorem pl242 : placesI Tryd.prog 242 = some [(0, 0)] := by kernel_rfl
theorem ty243 : tyI Tryd.prog 243 = some ⟨false, 1, [(.int .u8 0)], 1⟩ := by kernel_rfl
theorem el243 : elemI Tryd.prog 243 = none := by kernel_rfl
theorem it243 : intI Tryd.prog 243 = some .u8 := by kernel_rfl
theorem ty244 : tyI Tryd.prog 244 = some ⟨false, 1, [(.int .u8 0)], 1⟩ := by kernel_rfl
theorem el244 : elemI Tryd.prog 244 = none := by kernel_rfl
theorem it244 : intI Tryd.prog 244 = some .u8 := by kernel_rfl
theorem ty245 : tyI Tryd.prog 245 = some ⟨false, 1, [.nilFunc], 8⟩ := by kernel_rfl
theorem el245 : elemI Tryd.prog 245 = none := by kernel_rfl
theorem ty246 : tyI Tryd.prog 246 = some ⟨false, 1, [(.pointer none)], 8⟩ := by kernel_rfl
theorem el246 : elemI Tryd.prog 246 = none := by kernel_rfl
theorem ty247 : tyI Tryd.prog 247 = some ⟨false, 1, [(.int .i32 0)], 4⟩ := by kernel_rfl
theorem el247 : elemI Tryd.prog 247 = none := by kernel_rfl
theorem it247 : intI Tryd.prog 247 = some .i32 := by kernel_rfl
theorem ty248 : tyI Tryd.prog 248 = some ⟨false, 1, [(.int .i32 0)], 4⟩ := by kernel_rfl
theorem el248 : elemI Tryd.prog 248 = none := by kernel_rfl
theorem it248 : intI Tryd.prog 248 = some .i32 := by kernel_rfl
theorem ty249 : tyI Tryd.prog 249 = some ⟨true, 11, [(.int .u64 0), (.int .u64 0), (.int .u32 0), (.int .u8 0), (.int .u8 0), (.int .u8 0), (.int .u8 0), .nilFunc, (.pointer none), (.int .i32 0), (.int .i32 0)], 48⟩ := by kernel_rfl
theorem el249 : elemI Tryd.prog 249 = none := by kernel_rfl
theorem pl249 : placesI Tryd.prog 249 = some [(0, 1), (1, 1), (2, 1), (3, 1), (4, 1), (5, 1), (6, 1), (7, 1), (8, 1), (9, 1), (10, 1)] := by kernel_rfl
theorem fi249_0 : fieldI Tryd.prog 249 0 = some (0, 1, false) := by kernel_rfl
theorem fi249_1 : fieldI Tryd.prog 249 1 = some (1, 1, false) := by kernel_rfl
theorem fi249_2 : fieldI Tryd.prog 249 2 = some (2, 1, false) := by kernel_rfl
theorem fi249_3 : fieldI Tryd.prog 249 3 = some (3, 1, false) := by kernel_rfl
theorem fi249_4 : fieldI Tryd.prog 249 4 = some (4, 1, false) := by kernel_rfl
theorem fi249_5 : fieldI Tryd.prog 249 5 = some (5, 1, false) := by kernel_rfl
theorem fi249_6 : fieldI Tryd.prog 249 6 = some (6, 1, false) := by kernel_rfl
theorem fi249_7 : fieldI Tryd.prog 249 7 = some (7, 1, false) := by kernel_rfl
theorem fi249_8 : fieldI Tryd.prog 249 8 = some (8, 1, false) := by kernel_rfl
theorem fi249_9 : fieldI Tryd.prog 249 9 = some (9, 1, false) := by kernel_rfl
theorem fi249_10 : fieldI Tryd.prog 249 10 = some (10, 1, false) := by kernel_rfl
theorem ty250 : tyI Tryd.prog 250 = some ⟨true, 11, [(.int .u64 0), (.int .u64 0), (.int .u32 0), (.int .u8 0), (.int .u8 0), (.int .u8 0), (.int .u8 0), .nilFunc, (.pointer none), (.int .i32 0), (.int .i32 0)], 48⟩ := by kernel_rfl
theorem el250 : elemI Tryd.prog 250 = none := by kernel_rfl
theorem pl250 : placesI Tryd.prog 250 = some [(0, 1), (1, 1), (2, 1), (3, 1), (4, 1), (5, 1), (6, 1), (7, 1), (8, 1), (9, 1), (10, 1)] := by kernel_rfl
theorem fi250_0 : fieldI Tryd.prog 250 0 = some (0, 1, false) := by kernel_rfl
theorem fi250_1 : fieldI Tryd.prog 250 1 = some (1, 1, false) := by kernel_rfl
theorem fi250_2 : fieldI Tryd.prog 250 2 = some (2, 1, false) := by kernel_rfl
theorem fi250_3 : fieldI Tryd.prog 250 3 = some (3, 1, false) := by kernel_rfl
theorem fi250_4 : fieldI Tryd.prog 250 4 = some (4, 1, false) := by kernel_rfl
theorem fi250_5 : fieldI Tryd.prog 250 5 = some (5, 1, false) := by kernel_rfl
theorem fi250_6 : fieldI Tryd.prog 250 6 = some (6, 1, false) := by kernel_rfl
theorem fi250_7 : fieldI Tryd.prog 250 7 = some (7, 1, false) := by kernel_rfl
theorem fi250_8 : fieldI Tryd.prog 250 8 = some (8, 1, false) := by kernel_rfl
theorem fi250_9 : fieldI Tryd.prog 250 9 = some (9, 1, false) := by kernel_rfl
theorem fi250_10 : fieldI Tryd.prog 250 10 = some (10, 1, false) := by kernel_rfl
theorem ty251 : tyI Tryd.prog 251 = some ⟨false, 1, [(.pointer none)], 8⟩ := by kernel_rfl
theorem el251 : elemI Tryd.prog 251 = none := by kernel_rfl
attribute [go_sem] el0 ty1 el1 ty2 el2 it2 ty3 el3 it3 ty4 el4 bl4 ty5 el5 it5 ty6 el6 it6 ty7 el7 eq7 pl7 fi7_0 fi7_1 fi7_2 fi7_3 ty8 el8 eq8 pl8 fi8_0 fi8_1 fi8_2 fi8_3 ty9 el9 ty10 el10 ty11 el11 ty12 el12 it12 ty13 el13 pl13 fi13_0 fi13_1 ty14 el14 pl14 fi14_0 fi14_1 ty15 el15 ty16 el16 ty17 el17 ty18 el18 pl18 fi18_0 ty19 el19 pl19 fi19_0 ty20 el20 ty21 el21 it21 ty22 el22 ar22 pl22 ty23 el23 ar23 pl23 ty24 el24 ar24 pl24 ty25 el25 eq25 pl25 fi25_0 fi25_1 fi25_2 ty26 el26 eq26 pl26 fi26_0 fi26_1 fi26_2 ty27 el27 eq27 pl27 fi27_0 fi27_1 ty28 el28 eq28 pl28 fi28_0 fi28_1 ty29 el29 it29 el30 ty31 el31 ty32 el32 ty33 el33 eq33 pl33 fi33_0 fi33_1 ty34 el34 eq34 pl34 fi34_0 fi34_1 ty35 el35 eq35 pl35 fi35_0 fi35_1 ty36 el36 eq36 pl36 fi36_0 fi36_1 ty37 el37 eq37 pl37 fi37_0 fi37_1 fi37_2 ty38 el38 eq38 pl38 fi38_0 fi38_1 fi38_2 ty39 el39 eq39 pl39 fi39_0 fi39_1 ty40 el40 eq40 pl40 fi40_0 fi40_1 el41 ty42 el42 ty43 el43 el44 ty45 el45 ty46 el46 ty47 el47 el48 ty49 el49 ty50 el50 ty51 el51 ty52 el52 ty53 el53 ty54 el54 ty55 el55 ty56 el56 ty57 el57 pl57 fi57_0 fi57_1 fi57_2 ty58 el58 pl58 fi58_0 fi58_1 fi58_2 ty59 el59 ar59 pl59 ty60 el60 ty61 el61 ty62 el62 pl62 fi62_0 fi62_1 ty63 el63 pl63 fi63_0 fi63_1 ty64 el64 ty65 el65 ty66 el66 pl66 fi66_0 fi66_1 ty67 el67 pl67 fi67_0 fi67_1 ty68 el68 el69 ty70 el70 ty71 el71 ty72 el72 ty73 el73 ty74 el74 eq74 pl74 fi74_0 fi74_1 ty75 el75 eq75 pl75 fi75_0 fi75_1 ty76 el76 eq76 pl76 fi76_0 fi76_1 ty77 el77 eq77 pl77 fi77_0 fi77_1 ty78 el78 ty79 el79 ty80 el80 ty81 el81 ar81 pl81 ty82 el82 el83 ty84 el84 el85 ty86 el86 ty87 el87 ty88 el88 ty89 el89 ty90 el90 eq90 pl90 fi90_0 ty91 el91 eq91 pl91 fi91_0 ty92 el92 ty93 el93 ty94 el94 ty95 el95 eq95 pl95 fi95_0 ty96 el96 eq96 pl96 fi96_0 ty97 el97 ty98 el98 ty99 el99 el100 ty101 el101 ty102 el102 it102 ty103 el103 it103 ty104 el104 ty105 el105 ty106 el106 pl106 fi106_0 fi106_1 ty107 el107 pl107 fi107_0 fi107_1 ty108 el108 ty109 el109 ty110 el110 ty111 el111 ty112 el112 ty113 el113 ty114 el114 ty115 el115 pl115 fi115_0 fi115_1 ty116 el116 pl116 fi116_0 fi116_1 ty117 el117 ty118 el118 it118 ty119 el119 eq119 pl119 fi119_0 fi119_1 fi119_2 ty120 el120 eq120 pl120 fi120_0 fi120_1 fi120_2 ty121 el121 ty122 el122 ty123 el123 eq123 pl123 fi123_0 fi123_1 ty124 el124 eq124 pl124 fi124_0 fi124_1 ty125 el125 ty126 el126 it126 ty127 el127 eq127 pl127 fi127_0 fi127_1 fi127_2 fi127_3 fi127_4 fi127_5 ty128 el128 eq128 pl128 fi128_0 fi128_1 fi128_2 fi128_3 fi128_4 fi128_5 ty129 el129 eq129 pl129 fi129_0 fi129_1 fi129_2 ty130 el130 eq130 pl130 fi130_0 fi130_1 fi130_2 ty131 el131 ar131 pl131 ty132 el132 ty133 el133 pl133 fi133_0 fi133_1 fi133_2 ty134 el134 pl134 fi134_0 fi134_1 fi134_2 el135 ty136 el136 el137 ty138 el138 ty139 el139 ty140 el140 el141 ty142 el142 ty143 el143 it143 ty144 el144 ty145 el145 ty146 el146 ty147 el147 eq147 pl147 fi147_0 fi147_1 fi147_2 fi147_3 ty148 el148 eq148 pl148 fi148_0 fi148_1 fi148_2 fi148_3 ty149 el149 ty150 el150 ty151 el151 ty152 el152 ty153 el153 ty154 el154 pl154 fi154_0 fi154_1 ty155 el155 pl155 fi155_0 fi155_1 el156 ty157 el157 el158 ty159 el159 ty160 el160 ty161 el161 ty162 el162 ty163 el163 ty164 el164 ty165 el165 ty166 el166 ty167 el167 ty168 el168 ty169 el169 ty170 el170 ty171 el171 ty172 el172 ty173 el173 ty174 el174 pl174 fi174_0 ty175 el175 pl175 fi175_0 el176 ty177 el177 ty178 el178 ty179 el179 ty180 el180 ty181 el181 ty182 el182 ty183 el183 ty184 el184 ty185 el185 ty186 el186 ty187 el187 ty188 el188 ty189 el189 mp189 ty190 el190 pl190 fi190_0 fi190_1 fi190_2 ty191 el191 pl191 fi191_0 fi191_1 fi191_2 el192 ty193 el193 ty194 el194 ty195 el195 ty196 el196 ty197 el197 ty198 el198 ty199 el199 ty200 el200 ty201 el201 ty202 el202 ty203 el203 ty204 el204 ty205 el205 ty206 el206 it206 ty207 el207 ty208 el208 it208 ty209 el209 ty210 el210 ty211 el211 ty212 el212 ty213 el213 ty214 el214 ty215 el215 ty216 el216 ty217 el217 ty218 el218 ty219 el219 ty220 el220 ty221 el221 ty222 el222 ty223 el223 ty224 el224 ty225 el225 ar225 pl225 el226 ar226 ty227 el227 ty228 el228 ty229 el229 ty230 el230 ty231 el231 ty232 el232 ty233 el233 ty234 el234 ty235 el235 ty236 el236 ty237 el237 ty238 el238 pl238 fi238_0 fi238_1 fi238_2 fi238_3 ty239 el239 pl239 fi239_0 fi239_1 fi239_2 fi239_3 ty240 el240 ar240 pl240 ty241 el241 pl241 ty242 el242 pl242 ty243 el243 it243 ty244 el244 it244 ty245 el245 ty246 el246 ty247 el247 it247 ty248 el248 it248 ty249 el249 pl249 fi249_0 fi249_1 fi249_2 fi249_3 fi249_4 fi249_5 fi249_6 fi249_7 fi249_8 fi249_9 fi249_10 ty250 el250 pl250 fi250_0 fi250_1 fi250_2 fi250_3 fi250_4 fi250_5 fi250_6 fi250_7 fi250_8 fi250_9 fi250_10 ty251 el251
end Go.Dw.Seat
end
section
namespace Go.Dw.Seat
open Go Go.Dw
def Tm (n : Nat) : Operand := .tmp n
def Kn (n : Int) : Operand := .const (.int .i64 n)
def Kb (b : Bool) : Operand := .const (.bool b)
def Mv (a c : Nat) : SO := ⟨some a, .move (.tmp c), none⟩
def Sg (a c : Nat) : SO := ⟨some a, .assign (.tmp c), none⟩
def Sk (a : Nat) (c : Operand) : SO := ⟨some a, .assign c, none⟩
def Ld (a b c : Nat) : SO := ⟨some a, .load b (.tmp c), none⟩
def Fa (a b c d : Nat) : SO := ⟨some a, .fieldAddr b (.tmp c) d, none⟩
def Xt (a c d : Nat) : SO := ⟨some a, .extract (.tmp c) d, none⟩
def Ix (a b c d : Nat) : SO := ⟨some a, .indexAddr b (.tmp c) (.tmp d), none⟩
def Lq (a c t : Nat) : SO := ⟨some a, .call { callee := .builtin .len, args := #[.tmp c], argTypes := #[t] }, none⟩
def Cl (a f : Nat) (x : Array Operand) (y : Array TypeId) : SO := ⟨some a, .call { callee := .value (.func f), args := x, argTypes := y }, none⟩
def Bo (a : Nat) (o : BinOp) (t : Nat) (x y : Operand) (u : Nat) : SO := ⟨some a, .binOp o t x y u, none⟩
def Pk (a x : Nat) (y z : Operand) : SO := ⟨some a, .pick (.tmp x) y z, none⟩
def Sr (t : Nat) (x y : Operand) : SO := ⟨none, .store t x y, none⟩
def Nk (a c : Nat) : SO := ⟨some a, .nilCheck (.tmp c), none⟩
def Oo (a : Nat) (o : Op) : SO := ⟨some a, o, none⟩
def Gm (a c g : Nat) (b : Bool) : SO := ⟨some a, .move (.tmp c), some (g, b)⟩
def Gl (a t c g : Nat) (b : Bool) : SO := ⟨some a, .load t (.tmp c), some (g, b)⟩
def Gf (a t c d g : Nat) (b : Bool) : SO := ⟨some a, .fieldAddr t (.tmp c) d, some (g, b)⟩
def Gx (a t c d g : Nat) (b : Bool) : SO := ⟨some a, .indexAddr t (.tmp c) (.tmp d), some (g, b)⟩
def Gc (a f : Nat) (x : Array Operand) (y : Array TypeId) (g : Nat) (b : Bool) : SO := ⟨some a, .call { callee := .value (.func f), args := x, argTypes := y }, some (g, b)⟩
def Gb (a : Nat) (o : BinOp) (t : Nat) (x y : Operand) (u g : Nat) (b : Bool) : SO := ⟨some a, .binOp o t x y u, some (g, b)⟩
def Og (a : Nat) (o : Op) (g : Nat) (b : Bool) : SO := ⟨some a, o, some (g, b)⟩
abbrev R0 (l : List SO) : SC := .reg false l
abbrev R1 (l : List SO) : SC := .reg true l
attribute [go_sem] Tm Kn Kb Mv Sg Sk Ld Fa Xt Ix Lq Cl Bo Pk Sr Nk Oo Gm Gl Gf Gx Gc Gb Og
end Go.Dw.Seat
namespace Go.Dw.Seat
open Go Go.Dw Go.Proofs
def o3_0 : SO := (Ld 38 26 7)
def o3_1 : SO := (Oo 39 (.indexAddr 23 (Tm 4) (Kn 0)))
def o3_2 : SO := (Ld 40 5 39)
def o3_3 : SO := (Oo 41 (.convert 5 3 (Tm 40)))
def o3_4 : SO := (Bo 42 .rem 3 (Tm 41) (Kn 20) 3)
def o3_5 : SO := (Oo 43 (.indexAddr 23 (Tm 4) (Kn 0)))
def o3_6 : SO := (Ld 44 5 43)
def o3_7 : SO := (Oo 45 (.convert 5 3 (Tm 44)))
def o3_8 : SO := (Bo 46 .rem 3 (Tm 45) (Kn 20) 3)
def o3_9 : SO := (Bo 47 .add 3 (Tm 46) (Kn 5) 3)
def o3_10 : SO := (Cl 48 6 #[Tm 42, Tm 47] #[3, 3])
def o3_11 : SO := (Oo 49 (.indexAddr 23 (Tm 4) (Kn 1)))
def o3_12 : SO := (Ld 50 5 49)
def o3_13 : SO := (Oo 51 (.convert 5 3 (Tm 50)))
def o3_14 : SO := (Bo 52 .rem 3 (Tm 51) (Kn 70) 3)
def o3_15 : SO := (Oo 53 (.indexAddr 23 (Tm 4) (Kn 1)))
def o3_16 : SO := (Ld 54 5 53)
def o3_17 : SO := (Oo 55 (.convert 5 3 (Tm 54)))
def o3_18 : SO := (Bo 56 .rem 3 (Tm 55) (Kn 70) 3)
def o3_19 : SO := (Oo 57 (.indexAddr 23 (Tm 4) (Kn 2)))
def o3_20 : SO := (Ld 58 5 57)
def o3_21 : SO := (Oo 59 (.convert 5 3 (Tm 58)))
def o3_22 : SO := (Bo 60 .rem 3 (Tm 59) (Kn 30) 3)
def o3_23 : SO := (Bo 61 .add 3 (Tm 56) (Tm 60) 3)
def o3_24 : SO := (Cl 62 6 #[Tm 52, Tm 61] #[3, 3])
def o3_25 : SO := (Oo 63 (.build 34 #[(0, (Tm 48)), (1, (Tm 62))]))
def o3_26 : SO := (Cl 64 5 #[Tm 38, Tm 63] #[26, 34])
def o3_27 : SO := (Mv 37 64)
def o3_28 : SO := (Xt 65 37 0)
def o3_29 : SO := (Oo 8 (.alloc 28))
def o3_30 : SO := (Sr 28 (Tm 8) (Tm 65))
def o3_31 : SO := (Xt 66 37 1)
def o3_32 : SO := (Sg 9 66)
def o3_33 : SO := (Oo 83 (.indexAddr 24 (Tm 5) (Kn 0)))
def o3_34 : SO := (Ld 84 5 83)
def o3_35 : SO := (Oo 85 (.convert 5 3 (Tm 84)))
def o3_36 : SO := (Bo 86 .rem 3 (Tm 85) (Kn 11) 3)
def o3_37 : SO := (Oo 87 (.indexAddr 24 (Tm 5) (Kn 1)))
def o3_38 : SO := (Ld 88 5 87)
def o3_39 : SO := (Oo 89 (.convert 5 3 (Tm 88)))
def o3_40 : SO := (Bo 90 .rem 3 (Tm 89) (Kn 11) 3)
def o3_41 : SO := (Oo 91 (.build 36 #[(0, (Tm 86)), (1, (Tm 90))]))
def o3_42 : SO := (Oo 92 (.indexAddr 23 (Tm 4) (Kn 3)))
def o3_43 : SO := (Ld 93 5 92)
def o3_44 : SO := (Oo 94 (.convert 5 3 (Tm 93)))
def o3_45 : SO := (Bo 95 .rem 3 (Tm 94) (Kn 20) 3)
def o3_46 : SO := (Bo 96 .add 3 (Kn 50) (Tm 95) 3)
def o3_47 : SO := (Cl 97 6 #[Kn 50, Tm 96] #[3, 3])
def o3_48 : SO := (Oo 98 (.indexAddr 23 (Tm 4) (Kn 4)))
def o3_49 : SO := (Ld 99 5 98)
def o3_50 : SO := (Oo 100 (.convert 5 3 (Tm 99)))
def o3_51 : SO := (Bo 101 .rem 3 (Tm 100) (Kn 60) 3)
def o3_52 : SO := (Bo 102 .sub 3 (Kn 50) (Tm 101) 3)
def o3_53 : SO := (Oo 103 (.call { callee := .builtin .max, args := #[Kn 0, Tm 102], argTypes := #[3, 3] }))
def o3_54 : SO := (Oo 104 (.indexAddr 23 (Tm 4) (Kn 5)))
def o3_55 : SO := (Ld 105 5 104)
def o3_56 : SO := (Oo 106 (.convert 5 3 (Tm 105)))
def o3_57 : SO := (Bo 107 .rem 3 (Tm 106) (Kn 60) 3)
def o3_58 : SO := (Bo 108 .add 3 (Kn 70) (Tm 107) 3)
def o3_59 : SO := (Cl 109 6 #[Tm 103, Tm 108] #[3, 3])
def o3_60 : SO := (Oo 11 (.alloc 36))
def o3_61 : SO := (Oo 12 (.alloc 38))
def o3_62 : SO := (Sr 36 (Tm 11) (Tm 91))
def o3_63 : SO := (Mv 110 10)
def o3_64 : SO := (Oo 111 (.build 38 #[(0, (Tm 97)), (1, (Tm 109)), (2, (Tm 110))]))
def o3_65 : SO := (Sr 38 (Tm 12) (Tm 111))
def s3 : SF := ⟨246, [.tmp 6], (.seq (R0 [Oo 3 (.box 22 (Tm 0)), Oo 4 (.box 23 (Tm 1)), Oo 5 (.box 24 (Tm 2)), Sk 6 (Kb false)]) (.seq (R0 [Oo 23 (.indexAddr 22 (Tm 3) (Kn 0)), Ld 24 5 23, Oo 25 (.convert 5 3 (Tm 24)), Bo 26 .mul 3 (Kn 2) (Tm 25) 3, Bo 27 .add 3 (Kn 1) (Tm 26) 3, Oo 28 (.indexAddr 22 (Tm 3) (Kn 1)), Ld 29 5 28, Oo 30 (.convert 5 3 (Tm 29)), Bo 31 .rem 3 (Tm 30) (Kn 21) 3, Oo 32 (.indexAddr 22 (Tm 3) (Kn 2)), Ld 33 5 32, Oo 34 (.convert 5 3 (Tm 33)), Bo 35 .rem 3 (Tm 34) (Kn 21) 3, Oo 36 (.build 26 #[(0, (Tm 27)), (1, (Tm 31)), (2, (Tm 35))]), Oo 7 (.alloc 26), Sr 26 (Tm 7) (Tm 36)]) (.seq (.ord (.op o3_0 (.op o3_1 (.op o3_2 (.op o3_3 (.op o3_4 (.op o3_5 (.op o3_6 (.op o3_7 (.op o3_8 (.op o3_9 (.op o3_10 (.op o3_11 (.op o3_12 (.op o3_13 (.op o3_14 (.op o3_15 (.op o3_16 (.op o3_17 (.op o3_18 (.op o3_19 (.op o3_20 (.op o3_21 (.op o3_22 (.op o3_23 (.op o3_24 (.op o3_25 (.op o3_26 (.op o3_27 (.op o3_28 (.op o3_29 (.app o3_30 [37] [66] (.op o3_31 (.op o3_32 .done)))))))))))))))))))))))))))))))))) (.seq (.seq (R0 [Mv 67 9, Bo 68 .neq 29 (Tm 67) (Kn 0) 29, Mv 69 68, Gf 70 28 8 0 69 false, Gl 71 3 70 69 false, Gb 72 .lss 3 (Tm 71) (Kn 1) 3 69 false, Pk 73 69 (Kb true) (Tm 72), Mv 74 73, Gf 75 28 8 1 74 false, Gl 76 3 75 74 false, Gb 77 .gtr 3 (Tm 76) (Kn 2400) 3 74 false, Pk 78 74 (Kb true) (Tm 77)]) (.cond (Tm 78) (.seq (R0 [Sk 6 (Kb false)]) .ret) .skip)) (.seq (R0 [Fa 79 28 8 1, Ld 80 3 79, Bo 81 .add 3 (Tm 80) (Kn 59) 3, Bo 82 .quo 3 (Tm 81) (Kn 60) 3, Sg 10 82]) (.seq (.ord (.op o3_33 (.op o3_34 (.op o3_35 (.op o3_36 (.op o3_37 (.op o3_38 (.op o3_39 (.op o3_40 (.op o3_41 (.op o3_42 (.op o3_43 (.op o3_44 (.op o3_45 (.op o3_46 (.op o3_47 (.op o3_48 (.op o3_49 (.op o3_50 (.op o3_51 (.op o3_52 (.op o3_53 (.op o3_54 (.op o3_55 (.op o3_56 (.op o3_57 (.op o3_58 (.op o3_59 (.op o3_60 (.op o3_61 (.app o3_62 [10, 97, 109, 110] [110, 111] (.op o3_63 (.op o3_64 (.op o3_65 .done)))))))))))))))))))))))))))))))))) (.seq (R0 [Oo 112 (.indexAddr 23 (Tm 4) (Kn 6)), Ld 113 5 112, Oo 114 (.convert 5 3 (Tm 113)), Bo 115 .rem 3 (Tm 114) (Kn 140) 3, Oo 116 (.indexAddr 23 (Tm 4) (Kn 6)), Ld 117 5 116, Oo 118 (.convert 5 3 (Tm 117)), Bo 119 .rem 3 (Tm 118) (Kn 140) 3, Bo 120 .add 3 (Tm 119) (Kn 9) 3, Cl 121 6 #[Tm 115, Tm 120] #[3, 3], Oo 122 (.build 40 #[(0, (Tm 121)), (1, (Kn 1))]), Oo 13 (.alloc 40), Sr 40 (Tm 13) (Tm 122)]) (.seq (R0 [Ld 124 36 11, Fa 125 38 12 0, Ld 126 28 125, Fa 127 40 13 0, Ld 128 28 127, Fa 129 38 12 1, Ld 130 28 129, Cl 131 7 #[Tm 124, Tm 126, Tm 128, Tm 130] #[36, 28, 28, 28], Mv 123 131, Xt 132 123 0, Xt 133 123 1, Sg 14 132, Sg 15 133]) (.seq (R0 [Ld 135 36 11, Ld 136 38 12, Oo 137 (.buildSlice 46 1 #[(0, (Tm 136))]), Ld 138 40 13, Oo 139 (.buildSlice 47 1 #[(0, (Tm 138))]), Cl 140 8 #[Tm 135, Tm 137, Tm 139] #[36, 46, 47], Mv 134 140, Xt 141 134 0, Xt 142 134 1, Sg 16 141, Sg 17 142]) (.seq (R0 [Ld 144 36 11, Ld 145 38 12, Oo 146 (.buildSlice 46 1 #[(0, (Tm 145))]), Ld 147 40 13, Oo 148 (.buildSlice 47 1 #[(0, (Tm 147))]), Cl 149 9 #[Tm 144, Tm 146, Tm 148] #[36, 46, 47], Mv 143 149, Xt 150 143 0, Xt 151 143 1, Sg 18 150, Sg 19 151]) (.seq (R1 [Ld 153 26 7, Oo 154 (.indexAddr 23 (Tm 4) (Kn 0)), Ld 155 5 154, Oo 156 (.convert 5 3 (Tm 155)), Bo 157 .rem 3 (Tm 156) (Kn 20) 3, Oo 158 (.indexAddr 23 (Tm 4) (Kn 0)), Ld 159 5 158, Oo 160 (.convert 5 3 (Tm 159)), Bo 161 .rem 3 (Tm 160) (Kn 20) 3, Bo 162 .add 3 (Tm 161) (Kn 5) 3, Cl 163 6 #[Tm 157, Tm 162] #[3, 3], Oo 164 (.indexAddr 23 (Tm 4) (Kn 1)), Ld 165 5 164, Oo 166 (.convert 5 3 (Tm 165)), Bo 167 .rem 3 (Tm 166) (Kn 70) 3, Oo 168 (.indexAddr 23 (Tm 4) (Kn 1)), Ld 169 5 168, Oo 170 (.convert 5 3 (Tm 169)), Bo 171 .rem 3 (Tm 170) (Kn 70) 3, Oo 172 (.indexAddr 23 (Tm 4) (Kn 2)), Ld 173 5 172, Oo 174 (.convert 5 3 (Tm 173)), Bo 175 .rem 3 (Tm 174) (Kn 30) 3, Bo 176 .add 3 (Tm 171) (Tm 175) 3, Cl 177 6 #[Tm 167, Tm 176] #[3, 3], Oo 178 (.build 34 #[(0, (Tm 163)), (1, (Tm 177))]), Oo 179 (.buildSlice 50 1 #[(0, (Tm 178))]), Mv 180 10, Bo 181 .mul 3 (Kn 60) (Tm 180) 3, Oo 182 (.call { callee := .builtin .min, args := #[Kn 2400, Tm 181], argTypes := #[3, 3] }), Oo 183 (.buildSlice 43 1 #[(0, (Tm 182))]), Cl 184 10 #[Tm 153, Tm 179, Tm 183] #[26, 50, 43], Mv 152 184, Xt 185 152 0, Xt 186 152 1, Xt 187 152 2, Sg 20 185, Sg 21 186, Sg 22 187]) (.seq (.seq (R0 [Mv 188 15, Bo 189 .neq 29 (Tm 188) (Kn 0) 29, Mv 190 189, Gm 191 22 190 false, Gb 192 .neq 29 (Tm 191) (Kn 0) 29 190 false, Pk 193 190 (Kb true) (Tm 192), Mv 194 193, Gm 195 21 194 false, Og 196 (.call { callee := .builtin .len, args := #[Tm 195], argTypes := #[43] }) 194 false, Gb 197 .neq 3 (Tm 196) (Kn 0) 3 194 false, Pk 198 194 (Kb true) (Tm 197)]) (.cond (Tm 198) (.seq (R0 [Sk 6 (Kb false)]) .ret) .skip)) (.seq (.seq (R0 [Mv 199 14, Mv 200 10, Bo 201 .geq 3 (Tm 199) (Tm 200) 3]) (.cond (Tm 201) (.seq (R0 [Mv 202 17, Bo 203 .eql 29 (Tm 202) (Kn 0) 29, Mv 204 203, Gm 205 19 204 true, Gb 206 .eql 29 (Tm 205) (Kn 7) 29 204 true, Pk 207 204 (Tm 206) (Kb false), Mv 208 207, Gm 209 16 208 true, Og 210 (.buildSlice 43 1 #[(0, (Kn 0))]) 208 true, Gc 211 11 #[Tm 209, Tm 210] #[43, 43] 208 true, Pk 212 208 (Tm 211) (Kb false), Mv 213 212, Gm 214 18 213 true, Og 215 (.call { callee := .builtin .len, args := #[Tm 214], argTypes := #[43] }) 213 true, Gb 216 .eql 3 (Tm 215) (Kn 0) 3 213 true, Pk 217 213 (Tm 216) (Kb false), Mv 218 217, Gc 219 12 #[] #[] 218 true, Pk 220 218 (Tm 219) (Kb false), Mv 221 220, Gc 222 13 #[] #[] 221 true, Pk 223 221 (Tm 222) (Kb false), Sg 6 223]) .ret) .skip)) (.seq (R0 [Mv 224 17, Bo 225 .eql 29 (Tm 224) (Kn 9) 29, Mv 226 225, Gm 227 19 226 true, Gb 228 .eql 29 (Tm 227) (Kn 0) 29 226 true, Pk 229 226 (Tm 228) (Kb false), Mv 230 229, Gm 231 18 230 true, Og 232 (.buildSlice 43 1 #[(0, (Kn 0))]) 230 true, Gc 233 11 #[Tm 231, Tm 232] #[43, 43] 230 true, Pk 234 230 (Tm 233) (Kb false), Mv 235 234, Gm 236 16 235 true, Og 237 (.call { callee := .builtin .len, args := #[Tm 236], argTypes := #[43] }) 235 true, Gb 238 .eql 3 (Tm 237) (Kn 0) 3 235 true, Pk 239 235 (Tm 238) (Kb false), Mv 240 239, Gc 241 12 #[] #[] 240 true, Pk 242 240 (Tm 241) (Kb false), Mv 243 242, Gc 244 13 #[] #[] 243 true, Pk 245 243 (Tm 244) (Kb false), Sg 6 245]) .ret))))))))))))))⟩
theorem hb3 : hasBody Tryd.prog 3 = true := by kernel_rfl
def o4_0 : SO := (Ld 51 63 7)
def o4_1 : SO := (Cl 52 17 #[Tm 51] #[63])
def o4_2 : SO := (Ld 53 67 12)
def o4_3 : SO := (Cl 54 18 #[Tm 53] #[67])
def o4_4 : SO := (Cl 55 16 #[Tm 52, Tm 54] #[63, 67])
def o4_5 : SO := (Mv 50 55)
def o4_6 : SO := (Xt 56 50 0)
def o4_7 : SO := (Oo 13 (.alloc 28))
def o4_8 : SO := (Oo 14 (.alloc 28))
def o4_9 : SO := (Xt 57 50 1)
def o4_10 : SO := (Xt 58 50 2)
def o4_11 : SO := (Sr 28 (Tm 13) (Tm 56))
def o4_12 : SO := (Sr 28 (Tm 14) (Tm 57))
def o4_13 : SO := (Sg 15 58)
def s4 : SF := ⟨317, [.tmp 6], (.seq (R0 [Oo 3 (.box 58 (Tm 0)), Oo 4 (.box 59 (Tm 1)), Sk 6 (Kb false)]) (.seq (R0 [Ld 31 58 3, Cl 32 14 #[Tm 31] #[58], Oo 7 (.alloc 63), Sr 63 (Tm 7) (Tm 32)]) (.seq (R0 [Oo 33 (.buildSlice 65 0 #[]), Oo 34 (.build 28 #[]), Oo 9 (.alloc 28), Sg 8 33, Sr 28 (Tm 9) (Tm 34)]) (.seq (.seq (R0 [Sk 10 (Kn 0)]) (.block 0 (.loop (.seq (.seq (R0 [Mv 35 10, Bo 36 .lss 3 (Tm 35) (Kn 6) 3]) (.cond (Tm 36) .skip (.exit 0))) (.seq (.block 1 (.seq (R0 [Ld 39 58 3, Oo 11 (.alloc 58), Sr 58 (Tm 11) (Tm 39)]) (.seq (R1 [Mv 40 10, Ix 41 59 4 40, Ld 42 5 41, Oo 43 (.buildSlice 56 1 #[(0, (Tm 42))]), Fa 44 58 3 2, Ld 45 56 44, Oo 46 (.call { callee := .builtin .append, args := #[Tm 43, Tm 45], argTypes := #[56, 56] }), Fa 47 58 11 2, Sr 56 (Tm 47) (Tm 46)]) (.seq (R0 [Ld 48 58 11, Cl 49 15 #[Tm 48] #[58], Oo 12 (.alloc 67), Sr 67 (Tm 12) (Tm 49)]) (.seq (.ord (.op o4_0 (.op o4_1 (.op o4_2 (.op o4_3 (.op o4_4 (.op o4_5 (.op o4_6 (.op o4_7 (.op o4_8 (.alt (.op o4_9 (.alt (.op o4_10 (.op o4_11 (.op o4_12 (.op o4_13 .done)))) (.op o4_11 (.alt (.op o4_10 (.op o4_12 (.op o4_13 .done))) (.op o4_12 (.op o4_10 (.op o4_13 .done))))))) (.alt (.op o4_10 (.alt (.op o4_9 (.op o4_11 (.op o4_12 (.op o4_13 .done)))) (.op o4_11 (.op o4_9 (.op o4_12 (.op o4_13 .done)))))) (.op o4_11 (.op o4_9 (.alt (.op o4_10 (.op o4_12 (.op o4_13 .done))) (.op o4_12 (.op o4_10 (.op o4_13 .done)))))))))))))))))) (.seq (R1 [Ld 60 63 7, Cl 61 17 #[Tm 60] #[63], Ld 62 67 12, Cl 63 18 #[Tm 62] #[67], Cl 64 19 #[Tm 61, Tm 63] #[63, 67], Mv 59 64, Xt 65 59 0, Xt 66 59 1, Sg 16 65, Sg 17 66]) (.seq (.seq (R0 [Mv 67 15, Bo 68 .neq 29 (Tm 67) (Kn 0) 29, Mv 69 68, Gm 70 17 69 false, Gb 71 .neq 29 (Tm 70) (Kn 0) 29 69 false, Pk 72 69 (Kb true) (Tm 71), Mv 73 72, Gf 74 28 13 0 73 false, Gl 75 3 74 73 false, Gb 76 .lss 3 (Tm 75) (Kn 0) 3 73 false, Pk 77 73 (Kb true) (Tm 76), Mv 78 77, Gf 79 28 13 1 78 false, Gl 80 3 79 78 false, Gb 81 .gtr 3 (Tm 80) (Kn 10000) 3 78 false, Pk 82 78 (Kb true) (Tm 81), Mv 83 82, Gf 84 28 13 0 83 false, Gl 85 3 84 83 false, Gf 86 28 13 1 83 false, Gl 87 3 86 83 false, Gb 88 .gtr 3 (Tm 85) (Tm 87) 3 83 false, Pk 89 83 (Kb true) (Tm 88), Mv 90 89, Gm 91 16 90 false, Gb 92 .lss 3 (Tm 91) (Kn 0) 3 90 false, Pk 93 90 (Kb true) (Tm 92), Mv 94 93, Gm 95 16 94 false, Gb 96 .gtr 3 (Tm 95) (Kn 1000000) 3 94 false, Pk 97 94 (Kb true) (Tm 96)]) (.cond (Tm 97) (.seq (R0 [Sk 6 (Kb false)]) .ret) .skip)) (R1 [Mv 98 8, Mv 99 16, Mv 100 10, Ix 101 59 4 100, Ld 102 5 101, Oo 103 (.convert 5 3 (Tm 102)), Bo 104 .mul 3 (Tm 99) (Tm 103) 3, Bo 105 .quo 3 (Tm 104) (Kn 64) 3, Mv 106 16, Mv 107 10, Ix 108 59 4 107, Ld 109 5 108, Oo 110 (.convert 5 3 (Tm 109)), Bo 111 .mul 3 (Tm 106) (Tm 110) 3, Bo 112 .quo 3 (Tm 111) (Kn 64) 3, Bo 113 .add 3 (Tm 112) (Kn 9) 3, Cl 114 6 #[Tm 105, Tm 113] #[3, 3], Ld 115 28 13, Oo 116 (.build 75 #[(0, (Tm 114)), (1, (Tm 115))]), Oo 117 (.buildSlice 65 1 #[(0, (Tm 116))]), Oo 118 (.call { callee := .builtin .append, args := #[Tm 98, Tm 117], argTypes := #[65, 65] }), Sg 8 118])))))))) (R0 [Mv 37 10, Bo 38 .add 3 (Tm 37) (Kn 1) 3, Sg 10 38])))))) (.seq (R0 [Oo 119 (.build 77 #[(1, (Kn 1000))]), Oo 120 (.build 77 #[(0, (Kn 50)), (1, (Kn 700))]), Oo 121 (.buildSlice 78 2 #[(0, (Tm 119)), (1, (Tm 120))]), Sg 18 121]) (.seq (R0 [Mv 123 8, Cl 124 21 #[Tm 123] #[65], Oo 125 (.buildSlice 78 0 #[]), Mv 126 18, Oo 127 (.call { callee := .builtin .append, args := #[Tm 125, Tm 126], argTypes := #[78, 78] }), Mv 128 2, Oo 129 (.convert 5 3 (Tm 128)), Cl 130 20 #[Tm 124, Tm 127, Tm 129] #[65, 78, 3], Mv 122 130, Xt 131 122 0, Xt 132 122 1, Sg 19 131, Sg 20 132]) (.seq (R0 [Mv 134 8, Cl 135 21 #[Tm 134] #[65], Oo 136 (.buildSlice 78 0 #[]), Mv 137 18, Oo 138 (.call { callee := .builtin .append, args := #[Tm 136, Tm 137], argTypes := #[78, 78] }), Mv 139 2, Oo 140 (.convert 5 3 (Tm 139)), Cl 141 22 #[Tm 135, Tm 138, Tm 140] #[65, 78, 3], Mv 133 141, Xt 142 133 0, Xt 143 133 1, Sg 21 142, Sg 22 143]) (.seq (.seq (R0 [Mv 144 22, Bo 145 .neq 29 (Tm 144) (Kn 0) 29, Mv 146 145, Gm 147 21 146 false, Og 148 (.call { callee := .builtin .len, args := #[Tm 147], argTypes := #[43] }) 146 false, Gb 149 .lss 3 (Tm 148) (Kn 1) 3 146 false, Pk 150 146 (Kb true) (Tm 149), Mv 151 150, Gm 152 21 151 false, Og 153 (.call { callee := .builtin .len, args := #[Tm 152], argTypes := #[43] }) 151 false, Gb 154 .gtr 3 (Tm 153) (Kn 6) 3 151 false, Pk 155 151 (Kb true) (Tm 154), Mv 156 155, Gm 157 20 156 false, Gb 158 .neq 29 (Tm 157) (Kn 0) 29 156 false, Gm 159 158 156 false, Gm 160 20 159 true, Gb 161 .neq 29 (Tm 160) (Kn 9) 29 159 true, Og 162 (.pick (Tm 159) (Tm 161) (Kb false)) 156 false, Pk 163 156 (Kb true) (Tm 162), Mv 164 163, Gm 165 20 164 false, Gb 166 .eql 29 (Tm 165) (Kn 0) 29 164 false, Gm 167 21 164 false, Og 168 (.call { callee := .builtin .len, args := #[Tm 167], argTypes := #[43] }) 164 false, Gb 169 .eql 3 (Tm 168) (Kn 6) 3 164 false, Gb 170 .neq 4 (Tm 166) (Tm 169) 4 164 false, Pk 171 164 (Kb true) (Tm 170)]) (.cond (Tm 171) (.seq (R0 [Sk 6 (Kb false)]) .ret) .skip)) (.seq (.seq (R0 [Mv 172 20, Bo 173 .neq 29 (Tm 172) (Kn 0) 29]) (.cond (Tm 173) (.seq (R0 [Cl 174 23 #[] #[], Mv 175 174, Gc 176 24 #[] #[] 175 true, Pk 177 175 (Tm 176) (Kb false), Sg 6 177]) .ret) .skip)) (.seq (R0 [Oo 178 (.buildSlice 65 0 #[]), Oo 179 (.build 81 #[]), Oo 24 (.alloc 81), Sg 23 178, Sr 81 (Tm 24) (Tm 179)]) (.seq (.seq (R0 [Sk 25 (Kn 0)]) (.block 2 (.loop (.seq (.seq (R0 [Mv 180 25, Mv 181 19, Lq 182 181 43, Bo 183 .lss 3 (Tm 180) (Tm 182) 3]) (.cond (Tm 183) .skip (.exit 2))) (.seq (.block 3 (.seq (.seq (R0 [Mv 186 19, Mv 187 25, Ix 188 43 186 187, Ld 189 3 188, Bo 190 .lss 3 (Tm 189) (Kn 0) 3, Mv 191 190, Gm 192 19 191 false, Gm 193 25 191 false, Gx 194 43 192 193 191 false, Gl 195 3 194 191 false, Gb 196 .gtr 3 (Tm 195) (Kn 5) 3 191 false, Pk 197 191 (Kb true) (Tm 196), Mv 198 197, Gm 199 19 198 false, Gm 200 25 198 false, Gx 201 43 199 200 198 false, Gl 202 3 201 198 false, Gx 203 81 24 202 198 false, Gl 204 4 203 198 false, Pk 205 198 (Kb true) (Tm 204)]) (.cond (Tm 205) (.seq (R0 [Sk 6 (Kb false)]) .ret) .skip)) (.seq (R0 [Mv 206 19, Mv 207 25, Ix 208 43 206 207, Ld 209 3 208, Ix 210 81 24 209, Sr 4 (Tm 210) (Kb true)]) (.seq (R0 [Mv 211 23, Mv 212 8, Mv 213 19, Mv 214 25, Ix 215 43 213 214, Ld 216 3 215, Ix 217 65 212 216, Ld 218 75 217, Oo 219 (.buildSlice 65 1 #[(0, (Tm 218))]), Oo 220 (.call { callee := .builtin .append, args := #[Tm 211, Tm 219], argTypes := #[65, 65] }), Sg 23 220]) (R1 [Fa 221 28 9 0, Ld 222 3 221, Mv 223 8, Mv 224 19, Mv 225 25, Ix 226 43 224 225, Ld 227 3 226, Ix 228 65 223 227, Fa 229 75 228 1, Fa 230 28 229 0, Ld 231 3 230, Bo 232 .add 3 (Tm 222) (Tm 231) 3, Fa 233 28 9 1, Ld 234 3 233, Mv 235 8, Mv 236 19, Mv 237 25, Ix 238 43 236 237, Ld 239 3 238, Ix 240 65 235 239, Fa 241 75 240 1, Fa 242 28 241 1, Ld 243 3 242, Bo 244 .add 3 (Tm 234) (Tm 243) 3, Cl 245 6 #[Tm 232, Tm 244] #[3, 3], Sr 28 (Tm 9) (Tm 245)]))))) (R0 [Mv 184 25, Bo 185 .add 3 (Tm 184) (Kn 1) 3, Sg 25 185])))))) (.seq (R0 [Mv 247 23, Cl 248 21 #[Tm 247] #[65], Cl 249 25 #[Tm 248] #[65], Mv 246 249, Xt 250 246 0, Xt 251 246 1, Sg 26 250, Sg 27 251]) (.seq (R0 [Mv 253 23, Mv 254 18, Mv 255 2, Oo 256 (.convert 5 3 (Tm 255)), Cl 257 26 #[Tm 253, Tm 254, Tm 256] #[65, 78, 3], Mv 252 257, Xt 258 252 0, Xt 259 252 1, Xt 260 252 2, Sg 28 258, Sg 29 259, Sg 30 260]) (.seq (.seq (R0 [Mv 261 27, Bo 262 .neq 29 (Tm 261) (Kn 0) 29, Mv 263 262, Gm 264 30 263 false, Gb 265 .neq 29 (Tm 264) (Kn 7) 29 263 false, Pk 266 263 (Kb true) (Tm 265), Mv 267 266, Gm 268 26 267 false, Og 269 (.call { callee := .builtin .len, args := #[Tm 268], argTypes := #[82] }) 267 false, Gb 270 .neq 3 (Tm 269) (Kn 6) 3 267 false, Pk 271 267 (Kb true) (Tm 270), Mv 272 271, Gm 273 19 272 false, Og 274 (.call { callee := .builtin .len, args := #[Tm 273], argTypes := #[43] }) 272 false, Gb 275 .neq 3 (Tm 274) (Kn 6) 3 272 false, Pk 276 272 (Kb true) (Tm 275)]) (.cond (Tm 276) (.seq (R0 [Sk 6 (Kb false)]) .ret) .skip)) (.seq (R1 [Mv 277 26, Oo 278 (.indexAddr 82 (Tm 277) (Kn 0)), Fa 279 28 278 0, Ld 280 3 279, Mv 281 8, Mv 282 19, Oo 283 (.indexAddr 43 (Tm 282) (Kn 0)), Ld 284 3 283, Ix 285 65 281 284, Fa 286 75 285 1, Fa 287 28 286 0, Ld 288 3 287, Bo 289 .add 3 (Tm 280) (Tm 288) 3, Fa 290 28 9 0, Ld 291 3 290, Bo 292 .eql 3 (Tm 289) (Tm 291) 3, Mv 293 292, Gm 294 26 293 true, Og 295 (.indexAddr 82 (Tm 294) (Kn 0)) 293 true, Gf 296 28 295 1 293 true, Gl 297 3 296 293 true, Gm 298 8 293 true, Gm 299 19 293 true, Og 300 (.indexAddr 43 (Tm 299) (Kn 0)) 293 true, Gl 301 3 300 293 true, Gx 302 65 298 301 293 true, Gf 303 75 302 1 293 true, Gf 304 28 303 1 293 true, Gl 305 3 304 293 true, Gb 306 .add 3 (Tm 297) (Tm 305) 3 293 true, Gf 307 28 9 1 293 true, Gl 308 3 307 293 true, Gb 309 .eql 3 (Tm 306) (Tm 308) 3 293 true, Pk 310 293 (Tm 309) (Kb false), Mv 311 310, Gc 312 23 #[] #[] 311 true, Pk 313 311 (Tm 312) (Kb false), Mv 314 313, Gc 315 24 #[] #[] 314 true, Pk 316 314 (Tm 315) (Kb false), Sg 6 316]) .ret)))))))))))))))⟩
theorem sf4 : sfOf Tryd.f4 = some s4 := by kernel_rfl
theorem hb4 : hasBody Tryd.prog 4 = true := by kernel_rfl
def s5 : SF := ⟨20, [.cell 4 28, .tmp 5], (.seq (R0 [Oo 2 (.box 26 (Tm 0)), Oo 3 (.box 34 (Tm 1)), Oo 4 (.alloc 28), Sk 5 (Kn 0)]) (.seq (.block 0 (.seq (R0 [Ld 7 26 2, Cl 8 27 #[Tm 7] #[26], Oo 9 (.unOp .not 4 (Tm 8)), Sg 6 9]) (.cond (Tm 6) (.seq (R0 [Ld 10 28 4, Sr 28 (Tm 4) (Tm 10), Sk 5 (Kn 2)]) .ret) (.seq (R0 [Ld 12 34 3, Cl 13 28 #[Tm 12] #[34], Oo 14 (.unOp .not 4 (Tm 13)), Sg 11 14]) (.cond (Tm 11) (.seq (R0 [Ld 15 28 4, Sr 28 (Tm 4) (Tm 15), Sk 5 (Kn 3)]) .ret) .skip))))) (.seq (R0 [Ld 16 26 2, Oo 17 (.build 91 #[(0, (Tm 16))]), Ld 18 34 3, Cl 19 29 #[Tm 17, Tm 18] #[91, 34], Sr 28 (Tm 4) (Tm 19), Sk 5 (Kn 0)]) .ret)))⟩
def s6 : SF := ⟨8, [.cell 4 28], (.seq (R0 [Oo 4 (.alloc 28)]) (.seq (R0 [Mv 5 0, Mv 6 1, Oo 7 (.build 28 #[(0, (Tm 5)), (1, (Tm 6))]), Sr 28 (Tm 4) (Tm 7)]) .ret))⟩
theorem sf6 : sfOf Tryd.f6 = some s6 := by kernel_rfl
theorem hb6 : hasBody Tryd.prog 6 = true := by kernel_rfl
def s7 : SF := ⟨44, [.tmp 8, .tmp 9], (.seq (R0 [Oo 4 (.box 36 (Tm 0)), Oo 5 (.box 28 (Tm 1)), Oo 6 (.box 28 (Tm 2)), Oo 7 (.box 28 (Tm 3)), Sk 8 (Kn 0), Sk 9 (Kn 0)]) (.seq (.block 0 (.seq (R0 [Ld 12 36 4, Cl 13 30 #[Tm 12] #[36], Oo 14 (.unOp .not 4 (Tm 13)), Sg 11 14]) (.cond (Tm 11) (.seq (R0 [Sk 8 (Kn 0), Sk 9 (Kn 2)]) .ret) (.seq (R0 [Ld 16 28 5, Ld 17 28 6, Ld 18 28 7, Oo 19 (.buildSlice 82 3 #[(0, (Tm 16)), (1, (Tm 17)), (2, (Tm 18))]), Cl 20 31 #[Tm 19] #[82], Oo 21 (.unOp .not 4 (Tm 20)), Sg 15 21]) (.cond (Tm 15) (.seq (R0 [Sk 8 (Kn 0), Sk 9 (Kn 3)]) .ret) (.seq (R0 [Ld 23 28 5, Oo 24 (.build 96 #[(0, (Tm 23))]), Ld 25 28 7, Cl 26 32 #[Tm 24, Tm 25] #[96, 28], Oo 27 (.unOp .not 4 (Tm 26)), Sg 22 27]) (.cond (Tm 22) (.seq (R0 [Sk 8 (Kn 0), Sk 9 (Kn 9)]) .ret) .skip))))))) (.seq (R0 [Sk 10 (Kn 0)]) (.seq (.block 1 (.loop (.seq (.seq (R1 [Mv 28 10, Bo 29 .lss 3 (Tm 28) (Kn 500) 3, Mv 30 29, Gl 31 28 5 30 true, Og 32 (.build 96 #[(0, (Tm 31))]) 30 true, Gl 33 36 4 30 true, Gl 34 28 6 30 true, Gm 35 10 30 true, Gb 36 .add 3 (Tm 35) (Kn 1) 3 30 true, Gc 37 33 #[Tm 32, Tm 33, Tm 34, Tm 36] #[96, 36, 28, 3] 30 true, Gl 38 28 7 30 true, Gc 39 32 #[Tm 37, Tm 38] #[96, 28] 30 true, Pk 40 30 (Tm 39) (Kb false)]) (.cond (Tm 40) .skip (.exit 1))) (.block 2 (R0 [Mv 41 10, Bo 42 .add 3 (Tm 41) (Kn 1) 3, Sg 10 42]))))) (.seq (R0 [Mv 43 10, Sg 8 43, Sk 9 (Kn 0)]) .ret)))))⟩
theorem hb10 : hasBody Tryd.prog 10 = true := by kernel_rfl
def s14 : SF := ⟨159, [.cell 2 63], (.seq (R0 [Oo 1 (.box 58 (Tm 0)), Oo 2 (.alloc 63)]) (.seq (R0 [Oo 10 (.build 63 #[]), Oo 3 (.alloc 63), Sr 63 (Tm 3) (Tm 10)]) (.seq (.seq (R0 [Sk 4 (Kn 0)]) (.block 0 (.loop (.seq (.seq (R0 [Mv 11 4, Bo 12 .lss 3 (Tm 11) (Kn 2) 3, Mv 13 12, Gm 14 4 13 false, Gf 15 58 1 0 13 false, Gl 16 54 15 13 false, Og 17 (.call { callee := .builtin .len, args := #[Tm 16], argTypes := #[54] }) 13 false, Gb 18 .lss 3 (Tm 14) (Tm 17) 3 13 false, Gm 19 18 13 false, Gm 20 4 19 true, Gb 21 .lss 3 (Tm 20) (Kn 5) 3 19 true, Og 22 (.pick (Tm 19) (Tm 21) (Kb false)) 13 false, Pk 23 13 (Kb true) (Tm 22)]) (.cond (Tm 23) .skip (.exit 0))) (.seq (.block 1 (.seq (R0 [Mv 26 4, Oo 27 (.convert 3 5 (Tm 26)), Oo 28 (.build 59 #[(0, (Tm 27)), (1, (.const (.int .u8 120))), (2, (.const (.int .u8 20))), (3, (.const (.int .u8 7))), (4, (.const (.int .u8 30))), (5, (.const (.int .u8 20)))]), Oo 5 (.alloc 59), Sr 59 (Tm 5) (Tm 28)]) (.seq (.seq (R0 [Mv 29 4, Fa 30 58 1 0, Ld 31 54 30, Lq 32 31 54, Bo 33 .lss 3 (Tm 29) (Tm 32) 3]) (.cond (Tm 33) (R0 [Fa 34 58 1 0, Ld 35 54 34, Mv 36 4, Ix 37 54 35 36, Ld 38 59 37, Sr 59 (Tm 5) (Tm 38)]) .skip)) (.seq (R1 [Mv 39 4, Bo 40 .add 3 (Kn 1) (Tm 39) 3, Oo 41 (.indexAddr 59 (Tm 5) (Kn 1)), Ld 42 5 41, Oo 43 (.convert 5 3 (Tm 42)), Bo 44 .add 3 (Kn 50) (Tm 43) 3, Oo 45 (.indexAddr 59 (Tm 5) (Kn 2)), Ld 46 5 45, Oo 47 (.convert 5 3 (Tm 46)), Bo 48 .add 3 (Kn 50) (Tm 47) 3, Oo 49 (.indexAddr 59 (Tm 5) (Kn 2)), Ld 50 5 49, Oo 51 (.convert 5 3 (Tm 50)), Bo 52 .add 3 (Kn 50) (Tm 51) 3, Oo 53 (.indexAddr 59 (Tm 5) (Kn 0)), Ld 54 5 53, Oo 55 (.convert 5 3 (Tm 54)), Bo 56 .quo 3 (Tm 55) (Kn 8) 3, Bo 57 .add 3 (Tm 52) (Tm 56) 3, Cl 58 6 #[Tm 48, Tm 57] #[3, 3], Oo 59 (.indexAddr 59 (Tm 5) (Kn 3)), Ld 60 5 59, Oo 61 (.convert 5 3 (Tm 60)), Bo 62 .rem 3 (Tm 61) (Kn 100) 3, Oo 63 (.indexAddr 59 (Tm 5) (Kn 3)), Ld 64 5 63, Oo 65 (.convert 5 3 (Tm 64)), Bo 66 .rem 3 (Tm 65) (Kn 100) 3, Oo 67 (.indexAddr 59 (Tm 5) (Kn 3)), Ld 68 5 67, Oo 69 (.convert 5 3 (Tm 68)), Bo 70 .quo 3 (Tm 69) (Kn 16) 3, Bo 71 .add 3 (Tm 66) (Tm 70) 3, Cl 72 6 #[Tm 62, Tm 71] #[3, 3], Oo 73 (.indexAddr 59 (Tm 5) (Kn 4)), Ld 74 5 73, Oo 75 (.convert 5 3 (Tm 74)), Bo 76 .mul 3 (Kn 1000) (Tm 75) 3, Oo 77 (.indexAddr 59 (Tm 5) (Kn 5)), Ld 78 5 77, Oo 79 (.convert 5 3 (Tm 78)), Bo 80 .mul 3 (Kn 10) (Tm 79) 3, Oo 81 (.build 128 #[(0, (Tm 40)), (1, (Tm 44)), (2, (Tm 58)), (3, (Tm 72)), (4, (Tm 76)), (5, (Tm 80))]), Oo 6 (.alloc 128), Sr 128 (Tm 6) (Tm 81)]) (.seq (.seq (R0 [Mv 82 4, Bo 83 .gtr 3 (Tm 82) (Kn 1) 3]) (.cond (Tm 83) (R0 [Oo 84 (.indexAddr 59 (Tm 5) (Kn 0)), Ld 85 5 84, Bo 86 .rem 5 (Tm 85) (.const (.int .u8 2)) 5, Bo 87 .add 5 (.const (.int .u8 1)) (Tm 86) 5, Oo 88 (.convert 5 126 (Tm 87)), Fa 89 128 6 0, Sr 126 (Tm 89) (Tm 88)]) .skip)) (R0 [Fa 90 63 3 0, Ld 91 60 90, Ld 92 128 6, Oo 93 (.buildSlice 60 1 #[(0, (Tm 92))]), Oo 94 (.call { callee := .builtin .append, args := #[Tm 91, Tm 93], argTypes := #[60, 60] }), Fa 95 63 3 0, Sr 60 (Tm 95) (Tm 94)])))))) (R0 [Mv 24 4, Bo 25 .add 3 (Tm 24) (Kn 1) 3, Sg 4 25])))))) (.seq (.seq (R0 [Sk 7 (Kn 0)]) (.block 2 (.loop (.seq (.seq (R0 [Mv 96 7, Bo 97 .eql 3 (Tm 96) (Kn 0) 3, Mv 98 97, Gm 99 7 98 false, Gf 100 58 1 1 98 false, Gl 101 55 100 98 false, Og 102 (.call { callee := .builtin .len, args := #[Tm 101], argTypes := #[55] }) 98 false, Gb 103 .lss 3 (Tm 99) (Tm 102) 3 98 false, Gm 104 103 98 false, Gm 105 7 104 true, Gb 106 .lss 3 (Tm 105) (Kn 3) 3 104 true, Og 107 (.pick (Tm 104) (Tm 106) (Kb false)) 98 false, Pk 108 98 (Kb true) (Tm 107)]) (.cond (Tm 108) .skip (.exit 2))) (.seq (.block 3 (.seq (R0 [Oo 111 (.build 22 #[(0, (.const (.int .u8 80))), (1, (.const (.int .u8 128))), (2, (.const (.int .u8 36)))]), Oo 8 (.alloc 22), Sr 22 (Tm 8) (Tm 111)]) (.seq (.seq (R0 [Mv 112 7, Fa 113 58 1 1, Ld 114 55 113, Lq 115 114 55, Bo 116 .lss 3 (Tm 112) (Tm 115) 3]) (.cond (Tm 116) (R0 [Fa 117 58 1 1, Ld 118 55 117, Mv 119 7, Ix 120 55 118 119, Ld 121 22 120, Sr 22 (Tm 8) (Tm 121)]) .skip)) (.seq (R0 [Oo 122 (.indexAddr 22 (Tm 8) (Kn 0)), Ld 123 5 122, Oo 124 (.convert 5 3 (Tm 123)), Bo 125 .mul 3 (Kn 35) (Tm 124) 3, Bo 126 .add 3 (Kn 1000) (Tm 125) 3, Sg 9 126]) (R1 [Fa 127 63 3 1, Ld 128 61 127, Mv 129 9, Mv 130 9, Mv 131 9, Oo 132 (.indexAddr 22 (Tm 8) (Kn 1)), Ld 133 5 132, Oo 134 (.convert 5 3 (Tm 133)), Bo 135 .mul 3 (Tm 131) (Tm 134) 3, Bo 136 .quo 3 (Tm 135) (Kn 255) 3, Bo 137 .add 3 (Tm 130) (Tm 136) 3, Oo 138 (.indexAddr 22 (Tm 8) (Kn 2)), Ld 139 5 138, Oo 140 (.convert 5 3 (Tm 139)), Bo 141 .mul 3 (Kn 10) (Tm 140) 3, Bo 142 .add 3 (Kn 500) (Tm 141) 3, Oo 143 (.indexAddr 22 (Tm 8) (Kn 2)), Ld 144 5 143, Oo 145 (.convert 5 3 (Tm 144)), Bo 146 .mul 3 (Kn 10) (Tm 145) 3, Bo 147 .add 3 (Kn 500) (Tm 146) 3, Oo 148 (.indexAddr 22 (Tm 8) (Kn 1)), Ld 149 5 148, Oo 150 (.convert 5 3 (Tm 149)), Bo 151 .rem 3 (Tm 150) (Kn 90) 3, Bo 152 .add 3 (Tm 147) (Tm 151) 3, Cl 153 6 #[Tm 142, Tm 152] #[3, 3], Oo 154 (.build 130 #[(0, (Tm 129)), (1, (Tm 137)), (2, (Tm 153))]), Oo 155 (.buildSlice 61 1 #[(0, (Tm 154))]), Oo 156 (.call { callee := .builtin .append, args := #[Tm 128, Tm 155], argTypes := #[61, 61] }), Fa 157 63 3 1, Sr 61 (Tm 157) (Tm 156)]))))) (R0 [Mv 109 7, Bo 110 .add 3 (Tm 109) (Kn 1) 3, Sg 7 110])))))) (.seq (R0 [Ld 158 63 3, Sr 63 (Tm 2) (Tm 158)]) .ret)))))⟩
theorem sf14 : sfOf Tryd.f14 = some s14 := by kernel_rfl
theorem hb14 : hasBody Tryd.prog 14 = true := by kernel_rfl
def s15 : SF := ⟨87, [.cell 2 67], (.seq (R0 [Oo 1 (.box 58 (Tm 0)), Oo 2 (.alloc 67)]) (.seq (R0 [Ld 11 58 1, Cl 12 14 #[Tm 11] #[58], Oo 13 (.build 67 #[]), Oo 3 (.alloc 63), Oo 4 (.alloc 67), Sr 63 (Tm 3) (Tm 12), Sr 67 (Tm 4) (Tm 13)]) (.seq (R0 [Oo 14 (.build 131 #[]), Oo 5 (.alloc 131), Sr 131 (Tm 5) (Tm 14)]) (.seq (.seq (R0 [Sk 6 (Kn 0)]) (.block 0 (.loop (.seq (.seq (R0 [Mv 15 6, Fa 16 63 3 0, Ld 17 60 16, Lq 18 17 60, Bo 19 .lss 3 (Tm 15) (Tm 18) 3]) (.cond (Tm 19) .skip (.exit 0))) (.seq (.block 1 (.seq (R0 [Fa 22 63 3 0, Ld 23 60 22, Mv 24 6, Ix 25 60 23 24, Fa 26 128 25 0, Ld 27 126 26, Bo 28 .sub 3 (Tm 27) (Kn 1) 3, Sg 7 28]) (R0 [Mv 29 7, Mv 30 7, Ix 31 131 5 30, Ld 32 43 31, Mv 33 6, Oo 34 (.buildSlice 43 1 #[(0, (Tm 33))]), Oo 35 (.call { callee := .builtin .append, args := #[Tm 32, Tm 34], argTypes := #[43, 43] }), Ix 36 131 5 29, Sr 43 (Tm 36) (Tm 35)]))) (R0 [Mv 20 6, Bo 21 .add 3 (Tm 20) (Kn 1) 3, Sg 6 21])))))) (.seq (R0 [Fa 37 58 1 2, Ld 38 56 37, Cl 39 46 #[Tm 38, Kn 0] #[56, 3], Bo 40 .rem 3 (Tm 39) (Kn 2) 3, Bo 41 .add 3 (Kn 1) (Tm 40) 3, Sg 8 41]) (.seq (.seq (R0 [Sk 9 (Kn 0)]) (.block 2 (.loop (.seq (.seq (R0 [Mv 42 9, Mv 43 8, Bo 44 .mul 3 (Kn 2) (Tm 43) 3, Bo 45 .add 3 (Tm 44) (Kn 1) 3, Bo 46 .lss 3 (Tm 42) (Tm 45) 3]) (.cond (Tm 46) .skip (.exit 2))) (.seq (.block 3 (.seq (R0 [Mv 49 9, Bo 50 .rem 3 (Tm 49) (Kn 2) 3, Ix 51 131 5 50, Ld 52 43 51, Sg 10 52]) (.seq (R1 [Fa 53 67 4 0, Ld 54 43 53, Mv 55 10, Fa 56 58 1 2, Ld 57 56 56, Mv 58 9, Bo 59 .add 3 (Tm 58) (Kn 1) 3, Cl 60 46 #[Tm 57, Tm 59] #[56, 3], Mv 61 10, Lq 62 61 43, Bo 63 .rem 3 (Tm 60) (Tm 62) 3, Ix 64 43 55 63, Ld 65 3 64, Oo 66 (.buildSlice 43 1 #[(0, (Tm 65))]), Oo 67 (.call { callee := .builtin .append, args := #[Tm 54, Tm 66], argTypes := #[43, 43] }), Fa 68 67 4 0, Sr 43 (Tm 68) (Tm 67)]) (.seq (R0 [Mv 69 9, Bo 70 .rem 3 (Tm 69) (Kn 2) 3, Bo 71 .eql 3 (Tm 70) (Kn 1) 3]) (.cond (Tm 71) (R1 [Fa 72 67 4 1, Ld 73 43 72, Fa 74 58 1 2, Ld 75 56 74, Mv 76 9, Bo 77 .add 3 (Tm 76) (Kn 6) 3, Cl 78 46 #[Tm 75, Tm 77] #[56, 3], Fa 79 63 3 1, Ld 80 61 79, Lq 81 80 61, Bo 82 .rem 3 (Tm 78) (Tm 81) 3, Oo 83 (.buildSlice 43 1 #[(0, (Tm 82))]), Oo 84 (.call { callee := .builtin .append, args := #[Tm 73, Tm 83], argTypes := #[43, 43] }), Fa 85 67 4 1, Sr 43 (Tm 85) (Tm 84)]) .skip))))) (R0 [Mv 47 9, Bo 48 .add 3 (Tm 47) (Kn 1) 3, Sg 9 48])))))) (.seq (R0 [Ld 86 67 4, Sr 67 (Tm 2) (Tm 86)]) .ret)))))))⟩
theorem sf15 : sfOf Tryd.f15 = some s15 := by kernel_rfl
theorem hb15 : hasBody Tryd.prog 15 = true := by kernel_rfl
def o16_0 : SO := (Ld 16 28 4)
def o16_1 : SO := (Ld 17 28 5)
def o16_2 : SO := (Mv 18 6)
def o16_3 : SO := (Sr 28 (Tm 4) (Tm 16))
def o16_4 : SO := (Sr 28 (Tm 5) (Tm 17))
def o16_5 : SO := (Sg 6 18)
def o16_6 : SO := (Ld 24 28 4)
def o16_7 : SO := (Ld 25 28 5)
def o16_8 : SO := (Sr 28 (Tm 4) (Tm 24))
def o16_9 : SO := (Sr 28 (Tm 5) (Tm 25))
def o16_10 : SO := (Sk 6 (Kn 0))
def s16 : SF := ⟨26, [.cell 4 28, .cell 5 28, .tmp 6], (.seq (R0 [Oo 2 (.box 63 (Tm 0)), Oo 3 (.box 67 (Tm 1)), Oo 4 (.alloc 28), Oo 5 (.alloc 28), Sk 6 (Kn 0)]) (.seq (R0 [Ld 9 63 2, Ld 10 67 3, Cl 11 47 #[Tm 9, Tm 10] #[63, 67], Mv 8 11, Xt 12 8 0, Xt 13 8 1, Oo 7 (.alloc 134), Sr 134 (Tm 7) (Tm 12), Sg 6 13]) (.seq (.seq (R0 [Mv 14 6, Bo 15 .neq 29 (Tm 14) (Kn 0) 29]) (.cond (Tm 15) (.seq (.ord (.op o16_0 (.alt (.op o16_1 (.alt (.op o16_2 (.op o16_3 (.op o16_4 (.op o16_5 .done)))) (.op o16_3 (.alt (.op o16_2 (.op o16_4 (.op o16_5 .done))) (.op o16_4 (.op o16_2 (.op o16_5 .done))))))) (.alt (.op o16_2 (.alt (.op o16_1 (.op o16_3 (.op o16_4 (.op o16_5 .done)))) (.op o16_3 (.op o16_1 (.op o16_4 (.op o16_5 .done)))))) (.op o16_3 (.op o16_1 (.alt (.op o16_2 (.op o16_4 (.op o16_5 .done))) (.op o16_4 (.op o16_2 (.op o16_5 .done)))))))))) .ret) .skip)) (.seq (R0 [Ld 20 134 7, Cl 21 48 #[Tm 20] #[134], Mv 19 21, Xt 22 19 0, Xt 23 19 1, Sr 28 (Tm 4) (Tm 22), Sr 28 (Tm 5) (Tm 23)]) (.seq (.ord (.op o16_6 (.alt (.op o16_7 (.op o16_8 (.op o16_9 (.op o16_10 .done)))) (.op o16_8 (.op o16_7 (.op o16_9 (.op o16_10 .done))))))) .ret)))))⟩
theorem sf16 : sfOf Tryd.f16 = some s16 := by kernel_rfl
theorem hb16 : hasBody Tryd.prog 16 = true := by kernel_rfl
def o17_0 : SO := (Oo 3 (.buildSlice 60 0 #[]))
def o17_1 : SO := (Fa 4 63 1 0)
def o17_2 : SO := (Ld 5 60 4)
def o17_3 : SO := (Oo 6 (.call { callee := .builtin .append, args := #[Tm 3, Tm 5], argTypes := #[60, 60] }))
def o17_4 : SO := (Oo 7 (.buildSlice 61 0 #[]))
def o17_5 : SO := (Fa 8 63 1 1)
def o17_6 : SO := (Ld 9 61 8)
def o17_7 : SO := (Oo 10 (.call { callee := .builtin .append, args := #[Tm 7, Tm 9], argTypes := #[61, 61] }))
def o17_8 : SO := (Oo 11 (.build 63 #[(0, (Tm 6)), (1, (Tm 10))]))
def o17_9 : SO := (Sr 63 (Tm 2) (Tm 11))
def s17 : SF := ⟨12, [.cell 2 63], (.seq (R0 [Oo 1 (.box 63 (Tm 0)), Oo 2 (.alloc 63)]) (.seq (.ord (.op o17_0 (.op o17_1 (.op o17_2 (.app o17_3 [1, 8] [7, 8, 9] (.op o17_4 (.op o17_5 (.op o17_6 (.op o17_7 (.op o17_8 (.op o17_9 .done))))))))))) .ret))⟩
theorem sf17 : sfOf Tryd.f17 = some s17 := by kernel_rfl
theorem hb17 : hasBody Tryd.prog 17 = true := by kernel_rfl
def s18 : SF := ⟨10, [.cell 2 67], (.seq (R0 [Oo 1 (.box 67 (Tm 0)), Oo 2 (.alloc 67)]) (.seq (R1 [Fa 3 67 1 0, Ld 4 43 3, Cl 5 49 #[Tm 4] #[43], Fa 6 67 1 1, Ld 7 43 6, Cl 8 49 #[Tm 7] #[43], Oo 9 (.build 67 #[(0, (Tm 5)), (1, (Tm 8))]), Sr 67 (Tm 2) (Tm 9)]) .ret))⟩
theorem sf18 : sfOf Tryd.f18 = some s18 := by kernel_rfl
theorem hb18 : hasBody Tryd.prog 18 = true := by kernel_rfl
def s19 : SF := ⟨19, [.tmp 4, .tmp 5], (.seq (R0 [Oo 2 (.box 63 (Tm 0)), Oo 3 (.box 67 (Tm 1)), Sk 4 (Kn 0), Sk 5 (Kn 0)]) (.seq (R0 [Ld 9 63 2, Ld 10 67 3, Cl 11 47 #[Tm 9, Tm 10] #[63, 67], Mv 8 11, Xt 12 8 0, Xt 13 8 1, Oo 6 (.alloc 134), Sr 134 (Tm 6) (Tm 12), Sg 7 13]) (.seq (.seq (R0 [Mv 14 7, Bo 15 .neq 29 (Tm 14) (Kn 0) 29]) (.cond (Tm 15) (.seq (R0 [Mv 16 7, Sk 4 (Kn 0), Sg 5 16]) .ret) .skip)) (.seq (R0 [Ld 17 134 6, Cl 18 50 #[Tm 17] #[134], Sg 4 18, Sk 5 (Kn 0)]) .ret))))⟩
theorem sf19 : sfOf Tryd.f19 = some s19 := by kernel_rfl
theorem hb19 : hasBody Tryd.prog 19 = true := by kernel_rfl
def o20_0 : SO := (Ld 38 43 6)
def o20_1 : SO := (Mv 39 10)
def o20_2 : SO := (Oo 40 (.buildSlice 43 1 #[(0, (Tm 39))]))
def o20_3 : SO := (Oo 41 (.call { callee := .builtin .append, args := #[Tm 38, Tm 40], argTypes := #[43, 43] }))
def o20_4 : SO := (Ld 42 143 9)
def o20_5 : SO := (Mv 43 10)
def o20_6 : SO := (Bo 44 .shl 143 (.const (.int .u64 1)) (Tm 43) 3)
def o20_7 : SO := (Bo 45 .andNot 143 (Tm 42) (Tm 44) 143)
def o20_8 : SO := (Sr 43 (Tm 6) (Tm 41))
def o20_9 : SO := (Sr 143 (Tm 9) (Tm 45))
def s20 : SF := ⟨47, [.cell 6 43, .tmp 7], (.seq (R0 [Oo 6 (.alloc 43), Sk 7 (Kn 0)]) (.seq (R0 [Mv 12 0, Mv 13 1, Mv 14 2, Cl 15 51 #[Tm 12, Tm 13, Tm 14] #[65, 78, 3], Mv 11 15, Xt 16 11 0, Xt 17 11 1, Oo 8 (.alloc 140), Sr 140 (Tm 8) (Tm 16), Sg 7 17]) (.seq (.seq (R0 [Mv 18 7, Bo 19 .neq 29 (Tm 18) (Kn 0) 29]) (.cond (Tm 19) (.seq (R0 [Mv 20 7, Sr 43 (Tm 6) (.const (.slice none 0 0)), Sg 7 20]) .ret) .skip)) (.seq (R0 [Mv 21 0, Lq 22 21 65, Bo 23 .shl 143 (.const (.int .u64 1)) (Tm 22) 3, Bo 24 .sub 143 (Tm 23) (.const (.int .u64 1)) 143, Oo 9 (.alloc 143), Sr 143 (Tm 9) (Tm 24)]) (.seq (.seq (R0 [Ld 25 140 8, Ld 26 143 9, Cl 27 52 #[Tm 25, Tm 26] #[140, 143], Oo 28 (.unOp .not 4 (Tm 27))]) (.cond (Tm 28) (.seq (R0 [Sr 43 (Tm 6) (.const (.slice none 0 0)), Sk 7 (Kn 9)]) .ret) .skip)) (.seq (.block 0 (.loop (.seq (.seq (R0 [Ld 29 143 9, Bo 30 .neq 143 (Tm 29) (.const (.int .u64 0)) 143]) (.cond (Tm 30) .skip (.exit 0))) (.block 1 (.seq (R0 [Ld 31 143 9, Oo 32 (.makeFunc (.func 53) #[Tm 31] #[])]) (.block 2 (.rng (Tm 32) [33] (R0 [Sg 10 33]) (.block 3 (.seq (R0 [Ld 34 140 8, Mv 35 10, Ld 36 143 9, Cl 37 54 #[Tm 34, Tm 35, Tm 36] #[140, 3, 143]]) (.cond (Tm 37) (.seq (.ord (.op o20_0 (.op o20_1 (.op o20_2 (.alt (.op o20_3 (.alt (.op o20_4 (.alt (.op o20_5 (.alt (.op o20_6 (.alt (.op o20_7 (.op o20_8 (.op o20_9 .done))) (.op o20_8 (.op o20_7 (.op o20_9 .done))))) (.op o20_8 (.op o20_6 (.op o20_7 (.op o20_9 .done)))))) (.op o20_8 (.op o20_5 (.op o20_6 (.op o20_7 (.op o20_9 .done))))))) (.alt (.op o20_5 (.alt (.op o20_4 (.alt (.op o20_6 (.alt (.op o20_7 (.op o20_8 (.op o20_9 .done))) (.op o20_8 (.op o20_7 (.op o20_9 .done))))) (.op o20_8 (.op o20_6 (.op o20_7 (.op o20_9 .done)))))) (.alt (.op o20_6 (.alt (.op o20_4 (.alt (.op o20_7 (.op o20_8 (.op o20_9 .done))) (.op o20_8 (.op o20_7 (.op o20_9 .done))))) (.op o20_8 (.op o20_4 (.op o20_7 (.op o20_9 .done)))))) (.op o20_8 (.op o20_4 (.op o20_6 (.op o20_7 (.op o20_9 .done)))))))) (.op o20_8 (.op o20_4 (.op o20_5 (.op o20_6 (.op o20_7 (.op o20_9 .done))))))))) (.alt (.op o20_4 (.alt (.op o20_3 (.alt (.op o20_5 (.alt (.op o20_6 (.alt (.op o20_7 (.op o20_8 (.op o20_9 .done))) (.op o20_8 (.op o20_7 (.op o20_9 .done))))) (.op o20_8 (.op o20_6 (.op o20_7 (.op o20_9 .done)))))) (.op o20_8 (.op o20_5 (.op o20_6 (.op o20_7 (.op o20_9 .done))))))) (.op o20_5 (.alt (.op o20_3 (.alt (.op o20_6 (.alt (.op o20_7 (.op o20_8 (.op o20_9 .done))) (.op o20_8 (.op o20_7 (.op o20_9 .done))))) (.op o20_8 (.op o20_6 (.op o20_7 (.op o20_9 .done)))))) (.op o20_6 (.alt (.op o20_3 (.alt (.op o20_7 (.op o20_8 (.op o20_9 .done))) (.op o20_8 (.op o20_7 (.op o20_9 .done))))) (.op o20_7 (.op o20_3 (.op o20_8 (.op o20_9 .done)))))))))) (.op o20_5 (.alt (.op o20_3 (.alt (.op o20_4 (.alt (.op o20_6 (.alt (.op o20_7 (.op o20_8 (.op o20_9 .done))) (.op o20_8 (.op o20_7 (.op o20_9 .done))))) (.op o20_8 (.op o20_6 (.op o20_7 (.op o20_9 .done)))))) (.alt (.op o20_6 (.alt (.op o20_4 (.alt (.op o20_7 (.op o20_8 (.op o20_9 .done))) (.op o20_8 (.op o20_7 (.op o20_9 .done))))) (.op o20_8 (.op o20_4 (.op o20_7 (.op o20_9 .done)))))) (.op o20_8 (.op o20_4 (.op o20_6 (.op o20_7 (.op o20_9 .done)))))))) (.alt (.op o20_4 (.alt (.op o20_3 (.alt (.op o20_6 (.alt (.op o20_7 (.op o20_8 (.op o20_9 .done))) (.op o20_8 (.op o20_7 (.op o20_9 .done))))) (.op o20_8 (.op o20_6 (.op o20_7 (.op o20_9 .done)))))) (.op o20_6 (.alt (.op o20_3 (.alt (.op o20_7 (.op o20_8 (.op o20_9 .done))) (.op o20_8 (.op o20_7 (.op o20_9 .done))))) (.op o20_7 (.op o20_3 (.op o20_8 (.op o20_9 .done)))))))) (.op o20_6 (.alt (.op o20_3 (.alt (.op o20_4 (.alt (.op o20_7 (.op o20_8 (.op o20_9 .done))) (.op o20_8 (.op o20_7 (.op o20_9 .done))))) (.op o20_8 (.op o20_4 (.op o20_7 (.op o20_9 .done)))))) (.op o20_4 (.alt (.op o20_3 (.alt (.op o20_7 (.op o20_8 (.op o20_9 .done))) (.op o20_8 (.op o20_7 (.op o20_9 .done))))) (.op o20_7 (.op o20_3 (.op o20_8 (.op o20_9 .done))))))))))))))))) (.exit 2)) .skip)))))))))) (.seq (R0 [Ld 46 43 6, Sr 43 (Tm 6) (Tm 46), Sk 7 (Kn 0)]) .ret)))))))⟩
theorem sf20 : sfOf Tryd.f20 = some s20 := by kernel_rfl
theorem hb20 : hasBody Tryd.prog 20 = true := by kernel_rfl
def s21 : SF := ⟨6, [.tmp 2], (.seq (R0 [Oo 2 (.assign (.const (.slice none 0 0)))]) (.seq (R0 [Oo 3 (.buildSlice 65 0 #[]), Mv 4 0, Oo 5 (.call { callee := .builtin .append, args := #[Tm 3, Tm 4], argTypes := #[65, 65] }), Sg 2 5]) .ret))⟩
theorem sf21 : sfOf Tryd.f21 = some s21 := by kernel_rfl
theorem hb21 : hasBody Tryd.prog 21 = true := by kernel_rfl
end Go.Dw.Seat
end
section
namespace Go.Dw.Seat
open Go Go.Dw Go.Proofs
def s22 : SF := ⟨55, [.tmp 6, .tmp 7], (.seq (R0 [Oo 6 (.assign (.const (.slice none 0 0))), Sk 7 (Kn 0)]) (.seq (R0 [Mv 12 0, Mv 13 1, Mv 14 2, Cl 15 51 #[Tm 12, Tm 13, Tm 14] #[65, 78, 3], Mv 11 15, Xt 16 11 0, Xt 17 11 1, Sg 8 16, Sg 7 17]) (.seq (.seq (R0 [Mv 18 7, Bo 19 .neq 29 (Tm 18) (Kn 0) 29]) (.cond (Tm 19) (.seq (R0 [Mv 20 7, Oo 6 (.assign (.const (.slice none 0 0))), Sg 7 20]) .ret) .skip)) (.seq (.seq (R0 [Mv 21 0, Lq 22 21 65, Bo 23 .shl 143 (.const (.int .u64 1)) (Tm 22) 3, Oo 24 (.move (.const (.int .u64 0)))]) (.block 0 (.loop (.seq (R0 [Bo 25 .lss 143 (Tm 24) (Tm 23) 143]) (.seq (.cond (Tm 25) .skip (.exit 0)) (.seq (.block 1 (.seq (R0 [Mv 26 24, Sg 9 26]) (.seq (.seq (R0 [Mv 27 8, Mv 28 9, Cl 29 52 #[Tm 27, Tm 28] #[140, 143], Oo 30 (.unOp .not 4 (Tm 29))]) (.cond (Tm 30) (.exit 1) .skip)) (.seq (R0 [Mv 31 9, Oo 32 (.makeFunc (.func 53) #[Tm 31] #[]), Cl 33 38 #[Tm 32] #[170], Sg 10 33]) (.seq (R0 [Mv 34 10, Lq 35 34 43, Mv 36 6, Lq 37 36 43, Bo 38 .gtr 3 (Tm 35) (Tm 37) 3, Mv 39 38, Gm 40 10 39 false, Og 41 (.call { callee := .builtin .len, args := #[Tm 40], argTypes := #[43] }) 39 false, Gm 42 6 39 false, Og 43 (.call { callee := .builtin .len, args := #[Tm 42], argTypes := #[43] }) 39 false, Gb 44 .eql 3 (Tm 41) (Tm 43) 3 39 false, Gm 45 44 39 false, Gm 46 10 45 true, Gm 47 6 45 true, Gc 48 39 #[Tm 46, Tm 47] #[43, 43] 45 true, Gb 49 .lss 3 (Tm 48) (Kn 0) 3 45 true, Og 50 (.pick (Tm 45) (Tm 49) (Kb false)) 39 false, Pk 51 39 (Kb true) (Tm 50)]) (.cond (Tm 51) (R0 [Mv 52 10, Sg 6 52]) .skip)))))) (R0 [Bo 53 .add 143 (Tm 24) (.const (.int .u64 1)) 143, Mv 24 53]))))))) (.seq (R0 [Mv 54 6, Sg 6 54, Sk 7 (Kn 0)]) .ret)))))⟩
theorem sf22 : sfOf Tryd.f22 = some s22 := by kernel_rfl
theorem hb22 : hasBody Tryd.prog 22 = true := by kernel_rfl
def s23 : SF := ⟨55, [.tmp 0], (.seq (R0 [Sk 0 (Kb false)]) (.seq (R0 [Cl 8 6 #[Kn 250, Kn 270] #[3, 3], Cl 9 6 #[Kn 60, Kn 80] #[3, 3], Oo 10 (.build 128 #[(0, (Kn 1)), (1, (Kn 200)), (2, (Tm 8)), (3, (Tm 9)), (4, (Kn 400000)), (5, (Kn 300))]), Cl 11 6 #[Kn 180, Kn 190] #[3, 3], Cl 12 6 #[Kn 70, Kn 90] #[3, 3], Oo 13 (.build 128 #[(0, (Kn 2)), (1, (Kn 120)), (2, (Tm 11)), (3, (Tm 12)), (4, (Kn 300000)), (5, (Kn 200))]), Oo 14 (.buildSlice 60 2 #[(0, (Tm 10)), (1, (Tm 13))]), Cl 15 6 #[Kn 3600, Kn 3700] #[3, 3], Oo 16 (.build 130 #[(0, (Kn 8000)), (1, (Kn 12000)), (2, (Tm 15))]), Oo 17 (.buildSlice 61 1 #[(0, (Tm 16))]), Oo 18 (.build 63 #[(0, (Tm 14)), (1, (Tm 17))]), Oo 1 (.alloc 63), Sr 63 (Tm 1) (Tm 18)]) (.seq (R0 [Oo 19 (.buildSlice 43 3 #[(0, (Kn 0)), (1, (Kn 1)), (2, (Kn 0))]), Oo 20 (.buildSlice 43 1 #[(0, (Kn 0))]), Oo 21 (.build 67 #[(0, (Tm 19)), (1, (Tm 20))]), Oo 2 (.alloc 67), Sr 67 (Tm 2) (Tm 21)]) (.seq (R0 [Ld 23 63 1, Ld 24 67 2, Cl 25 16 #[Tm 23, Tm 24] #[63, 67], Mv 22 25, Xt 26 22 0, Xt 27 22 1, Xt 28 22 2, Oo 3 (.alloc 28), Oo 4 (.alloc 28), Sr 28 (Tm 3) (Tm 26), Sr 28 (Tm 4) (Tm 27), Sg 5 28]) (.seq (R0 [Ld 30 63 1, Ld 31 67 2, Cl 32 19 #[Tm 30, Tm 31] #[63, 67], Mv 29 32, Xt 33 29 0, Xt 34 29 1, Sg 6 33, Sg 7 34]) (.seq (R1 [Mv 35 5, Bo 36 .eql 29 (Tm 35) (Kn 0) 29, Mv 37 36, Gm 38 7 37 true, Gb 39 .eql 29 (Tm 38) (Kn 0) 29 37 true, Pk 40 37 (Tm 39) (Kb false), Mv 41 40, Gl 42 28 3 41 true, Gc 43 6 #[Kn 616, Kn 628] #[3, 3] 41 true, Gb 44 .eql 28 (Tm 42) (Tm 43) 28 41 true, Pk 45 41 (Tm 44) (Kb false), Mv 46 45, Gl 47 28 4 46 true, Gc 48 6 #[Kn 4100, Kn 4240] #[3, 3] 46 true, Gb 49 .eql 28 (Tm 47) (Tm 48) 28 46 true, Pk 50 46 (Tm 49) (Kb false), Mv 51 50, Gm 52 6 51 true, Gb 53 .eql 3 (Tm 52) (Kn 900) 3 51 true, Pk 54 51 (Tm 53) (Kb false), Sg 0 54]) .ret))))))⟩
theorem sf23 : sfOf Tryd.f23 = some s23 := by kernel_rfl
theorem hb23 : hasBody Tryd.prog 23 = true := by kernel_rfl
def s24 : SF := ⟨38, [.tmp 0], (.seq (R0 [Sk 0 (Kb false)]) (.seq (R0 [Cl 6 6 #[Kn 5000, Kn 6000] #[3, 3], Cl 7 6 #[Kn 4000, Kn 4200] #[3, 3], Oo 8 (.build 148 #[(0, (Tm 6)), (1, (Tm 7)), (2, (Kn 1600)), (3, (Kn 587))]), Cl 9 55 #[Tm 8] #[148], Mv 5 9, Xt 10 5 0, Xt 11 5 1, Oo 1 (.alloc 28), Sr 28 (Tm 1) (Tm 10), Sg 2 11]) (.seq (R0 [Cl 13 6 #[Kn 300, Kn 320] #[3, 3], Cl 14 6 #[Kn 100, Kn 110] #[3, 3], Oo 15 (.build 75 #[(0, (Tm 13)), (1, (Tm 14))]), Oo 16 (.build 77 #[(1, (Kn 1000))]), Oo 17 (.build 77 #[(0, (Kn 10)), (1, (Kn 800))]), Oo 18 (.build 77 #[(0, (Kn 30)), (1, (Kn 600))]), Oo 19 (.buildSlice 78 3 #[(0, (Tm 16)), (1, (Tm 17)), (2, (Tm 18))]), Cl 20 56 #[Tm 15, Tm 19, Kn 10] #[75, 78, 3], Mv 12 20, Xt 21 12 0, Xt 22 12 1, Sg 3 21, Sg 4 22]) (.seq (R1 [Mv 23 2, Bo 24 .eql 29 (Tm 23) (Kn 0) 29, Mv 25 24, Gm 26 4 25 true, Gb 27 .eql 29 (Tm 26) (Kn 0) 29 25 true, Pk 28 25 (Tm 27) (Kb false), Mv 29 28, Gl 30 28 1 29 true, Gc 31 6 #[Kn 74226, Kn 91290] #[3, 3] 29 true, Gb 32 .eql 28 (Tm 30) (Tm 31) 28 29 true, Pk 33 29 (Tm 32) (Kb false), Mv 34 33, Gm 35 3 34 true, Gb 36 .eql 3 (Tm 35) (Kn 3) 3 34 true, Pk 37 34 (Tm 36) (Kb false), Sg 0 37]) .ret))))⟩
theorem sf24 : sfOf Tryd.f24 = some s24 := by kernel_rfl
theorem hb24 : hasBody Tryd.prog 24 = true := by kernel_rfl
def s25 : SF := ⟨25, [.tmp 2, .tmp 3], (.seq (R0 [Oo 2 (.assign (.const (.slice none 0 0))), Sk 3 (Kn 0)]) (.seq (.seq (R0 [Mv 8 0, Cl 9 57 #[Tm 8, Kn 50] #[65, 3], Sg 4 9]) (.seq (R0 [Mv 10 4, Bo 11 .neq 29 (Tm 10) (Kn 0) 29]) (.cond (Tm 11) (.seq (R0 [Mv 12 4, Oo 2 (.assign (.const (.slice none 0 0))), Sg 3 12]) .ret) .skip))) (.seq (R0 [Mv 13 0, Lq 14 13 65, Oo 15 (.makeSlice 82 (Tm 14) (Tm 14)), Oo 5 (.alloc 82), Sr 82 (Tm 5) (Tm 15)]) (.seq (.seq (R0 [Mv 16 0, Cl 17 58 #[Tm 16] #[65]]) (.block 0 (.rng (Tm 17) [18, 19] (.seq (R0 [Sg 6 18]) (R0 [Oo 7 (.alloc 28), Sr 28 (Tm 7) (Tm 19)])) (.block 1 (R0 [Ld 20 82 5, Mv 21 6, Ld 22 28 7, Ix 23 82 20 21, Sr 28 (Tm 23) (Tm 22)]))))) (.seq (R0 [Ld 24 82 5, Sg 2 24, Sk 3 (Kn 0)]) .ret)))))⟩
theorem sf25 : sfOf Tryd.f25 = some s25 := by kernel_rfl
theorem hb25 : hasBody Tryd.prog 25 = true := by kernel_rfl
def s26 : SF := ⟨53, [.tmp 6, .tmp 7, .tmp 8], (.seq (R0 [Sk 6 (Kn 0), Sk 7 (Kn 0), Sk 8 (Kn 0)]) (.seq (.seq (R0 [Mv 15 0, Cl 16 57 #[Tm 15, Kn 50] #[65, 3], Sg 9 16]) (.seq (R0 [Mv 17 9, Bo 18 .neq 29 (Tm 17) (Kn 0) 29]) (.cond (Tm 18) (.seq (R0 [Mv 19 9, Sk 6 (Kn 0), Sk 7 (Kn 0), Sg 8 19]) .ret) .skip))) (.seq (R0 [Mv 21 1, Mv 22 2, Cl 23 59 #[Tm 21, Tm 22] #[78, 3], Mv 20 23, Xt 24 20 0, Xt 25 20 1, Oo 10 (.alloc 155), Sr 155 (Tm 10) (Tm 24), Sg 8 25]) (.seq (.seq (R0 [Mv 26 8, Bo 27 .neq 29 (Tm 26) (Kn 0) 29]) (.cond (Tm 27) (.seq (R0 [Mv 28 8, Sk 6 (Kn 0), Sk 7 (Kn 0), Sg 8 28]) .ret) .skip)) (.seq (.seq (R0 [Fa 29 155 10 0, Ld 30 78 29, Lq 31 30 78, Oo 32 (.move (Kn 0))]) (.block 0 (.loop (.seq (R0 [Bo 33 .lss 3 (Tm 32) (Tm 31) 3]) (.seq (.cond (Tm 33) .skip (.exit 0)) (.seq (.block 1 (.seq (R0 [Ix 34 78 30 32, Ld 35 77 34, Oo 12 (.alloc 77), Sr 77 (Tm 12) (Tm 35)]) (.seq (.seq (R0 [Fa 36 77 12 0, Ld 37 3 36, Fa 38 155 10 1, Ld 39 3 38, Bo 40 .gtr 3 (Tm 37) (Tm 39) 3]) (.cond (Tm 40) (.exit 0) .skip)) (.seq (R0 [Mv 42 0, Fa 43 77 12 1, Ld 44 3 43, Cl 45 60 #[Tm 42, Tm 44] #[65, 3], Mv 41 45, Xt 46 41 0, Xt 47 41 1, Sg 13 46, Sg 14 47]) (.seq (R0 [Mv 48 14]) (.cond (Tm 48) (.seq (R0 [Fa 49 77 12 0, Ld 50 3 49, Mv 51 13, Sg 6 50, Sg 7 51, Sk 8 (Kn 0)]) .ret) .skip)))))) (R0 [Bo 52 .add 3 (Tm 32) (Kn 1) 3, Mv 32 52]))))))) (.seq (R0 [Sk 6 (Kn 0), Sk 7 (Kn 0), Sk 8 (Kn 7)]) .ret))))))⟩
theorem sf26 : sfOf Tryd.f26 = some s26 := by kernel_rfl
theorem hb26 : hasBody Tryd.prog 26 = true := by kernel_rfl
def s38 : SF := ⟨5, [.tmp 2], (.seq (R0 [Oo 2 (.assign (.const (.slice none 0 0)))]) (.seq (R0 [Mv 3 0, Cl 4 75 #[.const (.slice none 0 0), Tm 3] #[43, 170], Sg 2 4]) .ret))⟩
theorem sf38 : sfOf Tryd.f38 = some s38 := by kernel_rfl
theorem hb38 : hasBody Tryd.prog 38 = true := by kernel_rfl
def s39 : SF := ⟨36, [.tmp 4], (.seq (R0 [Sk 4 (Kn 0)]) (.seq (.seq (R0 [Mv 9 0, Lq 10 9 43, Oo 11 (.move (Kn 0))]) (.block 0 (.loop (.seq (R0 [Bo 12 .lss 3 (Tm 11) (Tm 10) 3]) (.seq (.cond (Tm 12) .skip (.exit 0)) (.seq (.block 1 (.seq (R0 [Mv 13 11, Ix 14 43 9 11, Ld 15 3 14, Sg 5 13, Sg 6 15]) (.seq (.seq (R0 [Mv 16 5, Mv 17 1, Lq 18 17 43, Bo 19 .geq 3 (Tm 16) (Tm 18) 3]) (.cond (Tm 19) (.seq (R0 [Sk 4 (Kn 1)]) .ret) .skip)) (.seq (R0 [Mv 20 1, Mv 21 5, Ix 22 43 20 21, Ld 23 3 22, Sg 7 23]) (.seq (R0 [Mv 24 6, Mv 25 7, Cl 26 76 #[Tm 24, Tm 25] #[3, 3], Sg 8 26]) (.seq (R0 [Mv 27 8, Bo 28 .neq 3 (Tm 27) (Kn 0) 3]) (.cond (Tm 28) (.seq (R0 [Mv 29 8, Sg 4 29]) .ret) .skip))))))) (R0 [Bo 30 .add 3 (Tm 11) (Kn 1) 3, Mv 11 30]))))))) (.seq (.seq (R0 [Mv 31 0, Lq 32 31 43, Mv 33 1, Lq 34 33 43, Bo 35 .lss 3 (Tm 32) (Tm 34) 3]) (.cond (Tm 35) (.seq (R0 [Sk 4 (Kn (-1))]) .ret) .skip)) (.seq (R0 [Sk 4 (Kn 0)]) .ret))))⟩
theorem sf39 : sfOf Tryd.f39 = some s39 := by kernel_rfl
theorem hb39 : hasBody Tryd.prog 39 = true := by kernel_rfl
def s46 : SF := ⟨16, [.tmp 4], (.seq (R0 [Sk 4 (Kn 0)]) (.seq (.seq (R0 [Mv 5 0, Lq 6 5 56, Bo 7 .eql 3 (Tm 6) (Kn 0) 3]) (.cond (Tm 7) (.seq (R0 [Sk 4 (Kn 0)]) .ret) .skip)) (.seq (R0 [Mv 8 0, Mv 9 1, Mv 10 0, Lq 11 10 56, Bo 12 .rem 3 (Tm 9) (Tm 11) 3, Ix 13 56 8 12, Ld 14 5 13, Oo 15 (.convert 5 3 (Tm 14)), Sg 4 15]) .ret)))⟩
theorem sf46 : sfOf Tryd.f46 = some s46 := by kernel_rfl
theorem hb46 : hasBody Tryd.prog 46 = true := by kernel_rfl
def s47 : SF := ⟨17, [.cell 4 134, .tmp 5], (.seq (R0 [Oo 2 (.box 63 (Tm 0)), Oo 3 (.box 67 (Tm 1)), Oo 4 (.alloc 134), Sk 5 (Kn 0)]) (.seq (.seq (R0 [Ld 7 63 2, Ld 8 67 3, Cl 9 86 #[Tm 7, Tm 8] #[63, 67], Sg 6 9]) (.seq (R0 [Mv 10 6, Bo 11 .neq 29 (Tm 10) (Kn 0) 29]) (.cond (Tm 11) (.seq (R0 [Ld 12 134 4, Mv 13 6, Sr 134 (Tm 4) (Tm 12), Sg 5 13]) .ret) .skip))) (.seq (R0 [Ld 14 63 2, Ld 15 67 3, Cl 16 87 #[Tm 14, Tm 15] #[63, 67], Sr 134 (Tm 4) (Tm 16), Sk 5 (Kn 0)]) .ret)))⟩
theorem sf47 : sfOf Tryd.f47 = some s47 := by kernel_rfl
theorem hb47 : hasBody Tryd.prog 47 = true := by kernel_rfl
def o48_0 : SO := (Ld 6 134 1)
def o48_1 : SO := (Mv 7 4)
def o48_2 : SO := (Cl 8 90 #[Tm 6, Tm 7] #[134, 185])
def o48_3 : SO := (Ld 9 134 1)
def o48_4 : SO := (Mv 10 5)
def o48_5 : SO := (Cl 11 90 #[Tm 9, Tm 10] #[134, 185])
def o48_6 : SO := (Oo 12 (.build 28 #[(0, (Tm 8)), (1, (Tm 11))]))
def o48_7 : SO := (Ld 13 134 1)
def o48_8 : SO := (Mv 14 4)
def o48_9 : SO := (Cl 15 91 #[Tm 13, Tm 14] #[134, 185])
def o48_10 : SO := (Ld 16 134 1)
def o48_11 : SO := (Mv 17 5)
def o48_12 : SO := (Cl 18 91 #[Tm 16, Tm 17] #[134, 185])
def o48_13 : SO := (Sr 28 (Tm 2) (Tm 12))
def o48_14 : SO := (Oo 19 (.build 28 #[(0, (Tm 15)), (1, (Tm 18))]))
def o48_15 : SO := (Sr 28 (Tm 3) (Tm 19))
def s48 : SF := ⟨20, [.cell 2 28, .cell 3 28], (.seq (R0 [Oo 1 (.box 134 (Tm 0)), Oo 2 (.alloc 28), Oo 3 (.alloc 28)]) (.seq (R0 [Oo 4 (.assign (.func 88)), Oo 5 (.assign (.func 89))]) (.seq (.ord (.op o48_0 (.op o48_1 (.op o48_2 (.op o48_3 (.op o48_4 (.op o48_5 (.op o48_6 (.op o48_7 (.op o48_8 (.op o48_9 (.op o48_10 (.op o48_11 (.op o48_12 (.app o48_13 [15, 18] [19] (.op o48_14 (.op o48_15 .done))))))))))))))))) .ret)))⟩
theorem sf48 : sfOf Tryd.f48 = some s48 := by kernel_rfl
theorem hb48 : hasBody Tryd.prog 48 = true := by kernel_rfl
def s49 : SF := ⟨6, [.tmp 2], (.seq (R0 [Oo 2 (.assign (.const (.slice none 0 0)))]) (.seq (R0 [Oo 3 (.buildSlice 43 0 #[]), Mv 4 0, Oo 5 (.call { callee := .builtin .append, args := #[Tm 3, Tm 4], argTypes := #[43, 43] }), Sg 2 5]) .ret))⟩
theorem sf49 : sfOf Tryd.f49 = some s49 := by kernel_rfl
theorem hb49 : hasBody Tryd.prog 49 = true := by kernel_rfl
def s50 : SF := ⟨8, [.tmp 2], (.seq (R0 [Oo 1 (.box 134 (Tm 0)), Sk 2 (Kn 0)]) (.seq (R1 [Ld 3 134 1, Cl 4 92 #[Tm 3, .func 93] #[134, 188], Fa 5 134 1 2, Ld 6 3 5, Bo 7 .quo 3 (Tm 4) (Tm 6) 3, Sg 2 7]) .ret))⟩
theorem sf50 : sfOf Tryd.f50 = some s50 := by kernel_rfl
theorem hb50 : hasBody Tryd.prog 50 = true := by kernel_rfl
def s51 : SF := ⟨31, [.tmp 6, .tmp 7], (.seq (R0 [Oo 6 (.assign (.const (.pointer none))), Sk 7 (Kn 0)]) (.seq (.seq (R0 [Mv 11 0, Cl 12 57 #[Tm 11, Kn 10] #[65, 3], Sg 8 12]) (.seq (R0 [Mv 13 8, Bo 14 .neq 29 (Tm 13) (Kn 0) 29]) (.cond (Tm 14) (.seq (R0 [Mv 15 8, Oo 6 (.assign (.const (.pointer none))), Sg 7 15]) .ret) .skip))) (.seq (R0 [Mv 17 1, Mv 18 2, Cl 19 59 #[Tm 17, Tm 18] #[78, 3], Mv 16 19, Xt 20 16 0, Xt 21 16 1, Oo 9 (.alloc 155), Sr 155 (Tm 9) (Tm 20), Sg 10 21]) (.seq (.seq (R0 [Mv 22 10, Bo 23 .neq 29 (Tm 22) (Kn 0) 29]) (.cond (Tm 23) (.seq (R0 [Mv 24 10, Oo 6 (.assign (.const (.pointer none))), Sg 7 24]) .ret) .skip)) (.seq (R0 [Mv 25 0, Ld 26 155 9, Cl 27 94 #[Tm 26] #[155], Oo 28 (.makeMap 189 none), Oo 29 (.build 191 #[(0, (Tm 25)), (1, (Tm 27)), (2, (Tm 28))]), Oo 30 (.box 191 (Tm 29)), Sg 6 30, Sk 7 (Kn 0)]) .ret)))))⟩
theorem sf51 : sfOf Tryd.f51 = some s51 := by kernel_rfl
theorem hb51 : hasBody Tryd.prog 51 = true := by kernel_rfl
def o52_0 : SO := (Ld 11 140 2)
def o52_1 : SO := (Nk 12 11)
def o52_2 : SO := (Fa 13 191 12 2)
def o52_3 : SO := (Ld 14 189 13)
def o52_4 : SO := (Ld 15 143 3)
def o52_5 : SO := (Oo 16 (.lookup 189 (Tm 14) (Tm 15) true))
def o52_6 : SO := (Mv 10 16)
def o52_7 : SO := (Xt 17 10 0)
def o52_8 : SO := (Oo 5 (.alloc 4))
def o52_9 : SO := (Xt 18 10 1)
def o52_10 : SO := (Sr 4 (Tm 5) (Tm 17))
def o52_11 : SO := (Sg 6 18)
def s52 : SF := ⟨35, [.tmp 4], (.seq (R0 [Oo 2 (.box 140 (Tm 0)), Oo 3 (.box 143 (Tm 1)), Sk 4 (Kb false)]) (.seq (.seq (R0 [Ld 8 143 3, Bo 9 .eql 143 (Tm 8) (.const (.int .u64 0)) 143]) (.cond (Tm 9) (.seq (R0 [Sk 4 (Kb true)]) .ret) .skip)) (.seq (.ord (.op o52_0 (.op o52_1 (.op o52_2 (.op o52_3 (.op o52_4 (.op o52_5 (.op o52_6 (.op o52_7 (.op o52_8 (.alt (.op o52_9 (.op o52_10 (.op o52_11 .done))) (.op o52_10 (.op o52_9 (.op o52_11 .done)))))))))))))) (.seq (.seq (R0 [Mv 19 6]) (.cond (Tm 19) (.seq (R0 [Ld 20 4 5, Sg 4 20]) .ret) .skip)) (.seq (.seq (R0 [Ld 21 143 3, Oo 22 (.makeFunc (.func 53) #[Tm 21] #[])]) (.block 0 (.rng (Tm 22) [23] (R0 [Sg 7 23]) (.block 1 (.seq (R0 [Ld 24 140 2, Mv 25 7, Ld 26 143 3, Cl 27 54 #[Tm 24, Tm 25, Tm 26] #[140, 3, 143]]) (.cond (Tm 27) (.seq (R0 [Sr 4 (Tm 5) (Kb true)]) (.exit 0)) .skip)))))) (.seq (R1 [Ld 28 140 2, Nk 29 28, Fa 30 191 29 2, Ld 31 189 30, Ld 32 143 3, Ld 33 4 5, ⟨none, .mapUpdate 189 (Tm 31) (Tm 32) (Tm 33), none⟩]) (.seq (R0 [Ld 34 4 5, Sg 4 34]) .ret)))))))⟩
theorem sf52 : sfOf Tryd.f52 = some s52 := by kernel_rfl
theorem hb52 : hasBody Tryd.prog 52 = true := by kernel_rfl
def s53 : SF := ⟨15, [], (.block 0 (.loop (.seq (.seq (R0 [Mv 4 0, Bo 5 .neq 143 (Tm 4) (.const (.int .u64 0)) 143]) (.cond (Tm 5) .skip (.exit 0))) (.seq (.block 1 (.seq (R0 [Mv 10 1, Mv 11 0, Cl 12 74 #[Tm 11] #[102], Oo 13 (.call { callee := .value (Tm 10), args := #[Tm 12], argTypes := #[3] }), Oo 14 (.unOp .not 4 (Tm 13))]) (.cond (Tm 14) .ret .skip))) (R0 [Mv 6 0, Mv 7 0, Bo 8 .sub 143 (Tm 7) (.const (.int .u64 1)) 143, Bo 9 .and 143 (Tm 6) (Tm 8) 143, Sg 0 9])))))⟩
theorem sf53 : sfOf Tryd.f53 = some s53 := by kernel_rfl
theorem hb53 : hasBody Tryd.prog 53 = true := by kernel_rfl
def s54 : SF := ⟨33, [.tmp 6], (.seq (R0 [Sk 6 (Kb false)]) (.seq (R0 [Mv 8 2, Mv 9 1, Bo 10 .shl 143 (.const (.int .u64 1)) (Tm 9) 3, Bo 11 .andNot 143 (Tm 8) (Tm 10) 143, Sg 7 11]) (.seq (.regL [Mv 12 0, Nk 13 12, Fa 14 191 13 0, Ld 15 65 14, Mv 16 1, Ix 17 65 15 16, Ld 18 75 17, Mv 19 0, Nk 20 19, Fa 21 191 20 1, Ld 22 3 21, Cl 23 95 #[Tm 18, Tm 22] #[75, 3], Mv 24 0, Mv 25 7, Cl 26 96 #[Tm 24, Tm 25] #[140, 143], Bo 27 .geq 3 (Tm 23) (Tm 26) 3, Mv 28 27, Gm 29 0 28 true, Gm 30 7 28 true] (Gc 31 52 #[Tm 29, Tm 30] #[140, 143] 28 true) [Pk 32 28 (Tm 31) (Kb false), Sg 6 32]) .ret)))⟩
theorem sf54 : sfOf Tryd.f54 = some s54 := by kernel_rfl
theorem hb54 : hasBody Tryd.prog 54 = true := by kernel_rfl
def s55 : SF := ⟨48, [.cell 2 28, .tmp 3], (.seq (R0 [Oo 1 (.box 148 (Tm 0)), Oo 2 (.alloc 28), Sk 3 (Kn 0)]) (.seq (.seq (R0 [Fa 5 148 1 0, Ld 6 28 5, Cl 7 97 #[Tm 6, Kn 0, Kn 100000] #[28, 3, 3], Oo 8 (.unOp .not 4 (Tm 7)), Mv 9 8, Gf 10 148 1 1 9 false, Gl 11 28 10 9 false, Gc 12 97 #[Tm 11, Kn 1, Kn 10000] #[28, 3, 3] 9 false, Og 13 (.unOp .not 4 (Tm 12)) 9 false, Pk 14 9 (Kb true) (Tm 13), Mv 15 14, Gf 16 148 1 2 15 false, Gl 17 3 16 15 false, Og 18 (.buildSlice 43 1 #[(0, (Tm 17))]) 15 false, Gc 19 98 #[Kn 1, Kn 20000, Tm 18] #[3, 3, 43] 15 false, Og 20 (.unOp .not 4 (Tm 19)) 15 false, Pk 21 15 (Kb true) (Tm 20), Mv 22 21, Gf 23 148 1 3 22 false, Gl 24 3 23 22 false, Og 25 (.buildSlice 43 1 #[(0, (Tm 24))]) 22 false, Gc 26 98 #[Kn 1, Kn 1000, Tm 25] #[3, 3, 43] 22 false, Og 27 (.unOp .not 4 (Tm 26)) 22 false, Pk 28 22 (Kb true) (Tm 27)]) (.cond (Tm 28) (.seq (R0 [Ld 29 28 2, Sr 28 (Tm 2) (Tm 29), Sk 3 (Kn 2)]) .ret) .skip)) (.seq (R0 [Oo 30 (.makeFunc (.func 99) #[] #[Tm 1]), Sg 4 30]) (.seq (R1 [Mv 31 4, Fa 32 148 1 0, Fa 33 28 32 0, Ld 34 3 33, Fa 35 148 1 1, Fa 36 28 35 0, Ld 37 3 36, Oo 38 (.call { callee := .value (Tm 31), args := #[Tm 34, Tm 37], argTypes := #[3, 3] }), Mv 39 4, Fa 40 148 1 0, Fa 41 28 40 1, Ld 42 3 41, Fa 43 148 1 1, Fa 44 28 43 1, Ld 45 3 44, Oo 46 (.call { callee := .value (Tm 39), args := #[Tm 42, Tm 45], argTypes := #[3, 3] }), Oo 47 (.build 28 #[(0, (Tm 38)), (1, (Tm 46))]), Sr 28 (Tm 2) (Tm 47), Sk 3 (Kn 0)]) .ret))))⟩
theorem sf55 : sfOf Tryd.f55 = some s55 := by kernel_rfl
theorem hb55 : hasBody Tryd.prog 55 = true := by kernel_rfl
def s56 : SF := ⟨42, [.tmp 6, .tmp 7], (.seq (R0 [Oo 3 (.box 75 (Tm 0)), Sk 6 (Kn 0), Sk 7 (Kn 0)]) (.seq (.seq (R0 [Ld 11 75 3, Oo 12 (.buildSlice 65 1 #[(0, (Tm 11))]), Cl 13 57 #[Tm 12, Kn 1] #[65, 3], Sg 8 13]) (.seq (R0 [Mv 14 8, Bo 15 .neq 29 (Tm 14) (Kn 0) 29]) (.cond (Tm 15) (.seq (R0 [Mv 16 8, Sk 6 (Kn 0), Sg 7 16]) .ret) .skip))) (.seq (R0 [Mv 18 1, Mv 19 2, Cl 20 59 #[Tm 18, Tm 19] #[78, 3], Mv 17 20, Xt 21 17 0, Xt 22 17 1, Oo 9 (.alloc 155), Sr 155 (Tm 9) (Tm 21), Sg 10 22]) (.seq (.block 0 (.seq (R0 [Mv 24 10, Bo 25 .neq 29 (Tm 24) (Kn 0) 29, Sg 23 25]) (.cond (Tm 23) (.seq (R0 [Mv 26 10, Sk 6 (Kn 0), Sg 7 26]) .ret) (.seq (R0 [Fa 28 75 3 1, Fa 29 28 28 1, Ld 30 3 29, Bo 31 .eql 3 (Tm 30) (Kn 0) 3, Sg 27 31]) (.cond (Tm 27) (.seq (R0 [Sk 6 (Kn 50), Sk 7 (Kn 0)]) .ret) .skip))))) (.seq (R1 [Ld 32 75 3, Ld 33 155 9, Cl 34 94 #[Tm 33] #[155], Cl 35 95 #[Tm 32, Tm 34] #[75, 3], Fa 36 75 3 1, Fa 37 28 36 1, Ld 38 3 37, Bo 39 .quo 3 (Tm 35) (Tm 38) 3, Bo 40 .add 3 (Kn 1) (Tm 39) 3, Oo 41 (.call { callee := .builtin .min, args := #[Kn 50, Tm 40], argTypes := #[3, 3] }), Sg 6 41, Sk 7 (Kn 0)]) .ret)))))⟩
theorem sf56 : sfOf Tryd.f56 = some s56 := by kernel_rfl
theorem hb56 : hasBody Tryd.prog 56 = true := by kernel_rfl
def s57 : SF := ⟨15, [.tmp 4], (.seq (R0 [Sk 4 (Kn 0)]) (.seq (R0 [Oo 5 (.assign (.func 101))]) (.seq (.block 0 (.seq (R0 [Mv 7 0, Lq 8 7 65, Mv 9 1, Bo 10 .gtr 3 (Tm 8) (Tm 9) 3, Sg 6 10]) (.cond (Tm 6) (.seq (R0 [Sk 4 (Kn 5)]) .ret) (.seq (R0 [Mv 12 0, Mv 13 5, Cl 14 102 #[Tm 12, Tm 13] #[65, 196], Sg 11 14]) (.cond (Tm 11) (.seq (R0 [Sk 4 (Kn 2)]) .ret) .skip))))) (.seq (R0 [Sk 4 (Kn 0)]) .ret))))⟩
theorem sf57 : sfOf Tryd.f57 = some s57 := by kernel_rfl
theorem hb57 : hasBody Tryd.prog 57 = true := by kernel_rfl
def s58 : SF := ⟨4, [.tmp 2], (.seq (R0 [Oo 1 (.box 65 (Tm 0)), Oo 2 (.assign (.const .nilFunc))]) (.seq (R0 [Oo 3 (.makeFunc (.func 103) #[] #[Tm 1]), Sg 2 3]) .ret))⟩
theorem sf58 : sfOf Tryd.f58 = some s58 := by kernel_rfl
theorem hb58 : hasBody Tryd.prog 58 = true := by kernel_rfl
def s59 : SF := ⟨76, [.cell 4 155, .tmp 5], (.seq (R0 [Oo 4 (.alloc 155), Sk 5 (Kn 0)]) (.seq (.seq (R0 [Mv 8 0, Lq 9 8 78, Oo 10 (.buildSlice 43 1 #[(0, (Tm 9))]), Cl 11 98 #[Kn 1, Kn 10, Tm 10] #[3, 3, 43], Oo 12 (.unOp .not 4 (Tm 11)), Mv 13 12, Gm 14 0 13 false, Og 15 (.indexAddr 78 (Tm 14) (Kn 0)) 13 false, Gf 16 77 15 0 13 false, Gl 17 3 16 13 false, Gb 18 .neq 3 (Tm 17) (Kn 0) 3 13 false, Pk 19 13 (Kb true) (Tm 18)]) (.cond (Tm 19) (.seq (R0 [Ld 20 155 4, Sr 155 (Tm 4) (Tm 20), Sk 5 (Kn 4)]) .ret) .skip)) (.seq (.seq (R0 [Mv 21 0, Lq 22 21 78, Oo 23 (.move (Kn 0))]) (.block 0 (.loop (.seq (R0 [Bo 24 .lss 3 (Tm 23) (Tm 22) 3]) (.seq (.cond (Tm 24) .skip (.exit 0)) (.seq (.block 1 (.seq (R0 [Mv 25 23, Ix 26 78 21 23, Ld 27 77 26, Oo 7 (.alloc 77), Sg 6 25, Sr 77 (Tm 7) (Tm 27)]) (.seq (R1 [Fa 28 77 7 0, Ld 29 3 28, Oo 30 (.buildSlice 43 1 #[(0, (Tm 29))]), Cl 31 98 #[Kn 0, Kn 10000, Tm 30] #[3, 3, 43], Oo 32 (.unOp .not 4 (Tm 31)), Mv 33 32, Gf 34 77 7 1 33 false, Gl 35 3 34 33 false, Og 36 (.buildSlice 43 1 #[(0, (Tm 35))]) 33 false, Gc 37 98 #[Kn 0, Kn 1000, Tm 36] #[3, 3, 43] 33 false, Og 38 (.unOp .not 4 (Tm 37)) 33 false, Pk 39 33 (Kb true) (Tm 38), Mv 40 39, Gm 41 6 40 false, Gb 42 .gtr 3 (Tm 41) (Kn 0) 3 40 false, Gm 43 42 40 false, Gf 44 77 7 0 43 true, Gl 45 3 44 43 true, Gm 46 0 43 true, Gm 47 6 43 true, Gb 48 .sub 3 (Tm 47) (Kn 1) 3 43 true, Gx 49 78 46 48 43 true, Gf 50 77 49 0 43 true, Gl 51 3 50 43 true, Gb 52 .leq 3 (Tm 45) (Tm 51) 3 43 true, Gm 53 52 43 true, Gf 54 77 7 1 53 false, Gl 55 3 54 53 false, Gm 56 0 53 false, Gm 57 6 53 false, Gb 58 .sub 3 (Tm 57) (Kn 1) 3 53 false, Gx 59 78 56 58 53 false, Gf 60 77 59 1 53 false, Gl 61 3 60 53 false, Gb 62 .gtr 3 (Tm 55) (Tm 61) 3 53 false, Og 63 (.pick (Tm 53) (Kb true) (Tm 62)) 43 true, Og 64 (.pick (Tm 43) (Tm 63) (Kb false)) 40 false, Pk 65 40 (Kb true) (Tm 64)]) (.cond (Tm 65) (.seq (R0 [Ld 66 155 4, Sr 155 (Tm 4) (Tm 66), Sk 5 (Kn 4)]) .ret) .skip)))) (R0 [Bo 67 .add 3 (Tm 23) (Kn 1) 3, Mv 23 67]))))))) (.seq (.seq (R0 [Mv 68 1, Oo 69 (.buildSlice 43 1 #[(0, (Tm 68))]), Cl 70 98 #[Kn 0, Kn 10000, Tm 69] #[3, 3, 43], Oo 71 (.unOp .not 4 (Tm 70))]) (.cond (Tm 71) (.seq (R0 [Ld 72 155 4, Sr 155 (Tm 4) (Tm 72), Sk 5 (Kn 3)]) .ret) .skip)) (.seq (R0 [Mv 73 0, Mv 74 1, Oo 75 (.build 155 #[(0, (Tm 73)), (1, (Tm 74))]), Sr 155 (Tm 4) (Tm 75), Sk 5 (Kn 0)]) .ret)))))⟩
theorem sf59 : sfOf Tryd.f59 = some s59 := by kernel_rfl
theorem hb59 : hasBody Tryd.prog 59 = true := by kernel_rfl
def o60_0 : SO := (Ld 22 3 4)
def o60_1 : SO := (Ld 23 4 5)
def o60_2 : SO := (Sr 3 (Tm 4) (Tm 22))
def o60_3 : SO := (Sr 4 (Tm 5) (Tm 23))
def s60 : SF := ⟨24, [.cell 4 3, .cell 5 4], (.seq (R0 [Oo 2 (.box 65 (Tm 0)), Oo 3 (.box 3 (Tm 1)), Oo 4 (.alloc 3), Oo 5 (.alloc 4)]) (.seq (.seq (R0 [Ld 8 65 2, Cl 9 58 #[Tm 8] #[65]]) (.block 0 (.rng (Tm 9) [10, 11] (.seq (R0 [Sg 6 10]) (R0 [Oo 7 (.alloc 28), Sr 28 (Tm 7) (Tm 11)])) (.block 1 (.seq (R1 [Fa 12 28 7 1, Ld 13 3 12, Ld 14 65 2, Mv 15 6, Ix 16 65 14 15, Ld 17 75 16, Ld 18 3 3, Cl 19 95 #[Tm 17, Tm 18] #[75, 3], Bo 20 .gtr 3 (Tm 13) (Tm 19) 3]) (.cond (Tm 20) (R0 [Mv 21 6, Sr 3 (Tm 4) (Tm 21), Sr 4 (Tm 5) (Kb true)]) .skip)))))) (.seq (.ord (.op o60_0 (.alt (.op o60_1 (.op o60_2 (.op o60_3 .done))) (.op o60_2 (.op o60_1 (.op o60_3 .done)))))) .ret)))⟩
theorem sf60 : sfOf Tryd.f60 = some s60 := by kernel_rfl
theorem hb60 : hasBody Tryd.prog 60 = true := by kernel_rfl
def s74 : SF := ⟨8, [.tmp 2], (.seq (R0 [Sk 2 (Kn 0)]) (.seq (.cond (Kb false) (.seq (R0 [Mv 3 0, Oo 4 (.convert 102 206 (Tm 3)), Cl 5 109 #[Tm 4] #[206], Sg 2 5]) .ret) .skip) (.seq (R0 [Mv 6 0, Cl 7 110 #[Tm 6] #[208], Sg 2 7]) .ret)))⟩
theorem sf74 : sfOf Tryd.f74 = some s74 := by kernel_rfl
theorem hb74 : hasBody Tryd.prog 74 = true := by kernel_rfl
def s75 : SF := ⟨13, [.tmp 4], (.seq (R0 [Oo 2 (.box 43 (Tm 0)), Oo 4 (.assign (.const (.slice none 0 0)))]) (.seq (.seq (R0 [Mv 6 1]) (.block 0 (.rng (Tm 6) [7] (R0 [Sg 5 7]) (.block 1 (R0 [Ld 8 43 2, Mv 9 5, Oo 10 (.buildSlice 43 1 #[(0, (Tm 9))]), Oo 11 (.call { callee := .builtin .append, args := #[Tm 8, Tm 10], argTypes := #[43, 43] }), Sr 43 (Tm 2) (Tm 11)]))))) (.seq (R0 [Ld 12 43 2, Sg 4 12]) .ret)))⟩
theorem sf75 : sfOf Tryd.f75 = some s75 := by kernel_rfl
theorem hb75 : hasBody Tryd.prog 75 = true := by kernel_rfl
def s76 : SF := ⟨20, [.tmp 4], (.seq (R0 [Sk 4 (Kn 0)]) (.seq (R0 [Mv 7 0, Cl 8 80 #[Tm 7] #[3], Sg 5 8]) (.seq (R0 [Mv 9 1, Cl 10 80 #[Tm 9] #[3], Sg 6 10]) (.seq (.seq (R0 [Mv 11 5]) (.cond (Tm 11) (.seq (.seq (R0 [Mv 12 6]) (.cond (Tm 12) (.seq (R0 [Sk 4 (Kn 0)]) .ret) .skip)) (.seq (R0 [Sk 4 (Kn (-1))]) .ret)) .skip)) (.seq (.seq (R0 [Mv 13 6]) (.cond (Tm 13) (.seq (R0 [Sk 4 (Kn 1)]) .ret) .skip)) (.seq (.seq (R0 [Mv 14 0, Mv 15 1, Bo 16 .lss 3 (Tm 14) (Tm 15) 3]) (.cond (Tm 16) (.seq (R0 [Sk 4 (Kn (-1))]) .ret) .skip)) (.seq (.seq (R0 [Mv 17 0, Mv 18 1, Bo 19 .gtr 3 (Tm 17) (Tm 18) 3]) (.cond (Tm 19) (.seq (R0 [Sk 4 (Kn 1)]) .ret) .skip)) (.seq (R0 [Sk 4 (Kn 0)]) .ret))))))))⟩
theorem sf76 : sfOf Tryd.f76 = some s76 := by kernel_rfl
theorem hb76 : hasBody Tryd.prog 76 = true := by kernel_rfl
def s78 : SF := ⟨9, [.tmp 4], (.seq (R0 [Sk 4 (Kb false)]) (.seq (R0 [Mv 5 0, Mv 6 1, Cl 7 111 #[Tm 5, Tm 6] #[43, 168], Bo 8 .geq 3 (Tm 7) (Kn 0) 3, Sg 4 8]) .ret))⟩
theorem sf78 : sfOf Tryd.f78 = some s78 := by kernel_rfl
theorem hb78 : hasBody Tryd.prog 78 = true := by kernel_rfl
def s80 : SF := ⟨6, [.tmp 2], (.seq (R0 [Sk 2 (Kb false)]) (.seq (R0 [Mv 3 0, Mv 4 0, Bo 5 .neq 3 (Tm 3) (Tm 4) 3, Sg 2 5]) .ret))⟩
theorem sf80 : sfOf Tryd.f80 = some s80 := by kernel_rfl
theorem hb80 : hasBody Tryd.prog 80 = true := by kernel_rfl
def s86 : SF := ⟨57, [.tmp 4], (.seq (R0 [Oo 2 (.box 63 (Tm 0)), Oo 3 (.box 67 (Tm 1)), Sk 4 (Kn 0)]) (.seq (.seq (R0 [Ld 8 63 2, Cl 9 118 #[Tm 8] #[63], Sg 5 9]) (.seq (R0 [Mv 10 5, Bo 11 .neq 29 (Tm 10) (Kn 0) 29]) (.cond (Tm 11) (.seq (R0 [Mv 12 5, Sg 4 12]) .ret) .skip))) (.seq (.block 0 (.seq (R0 [Ld 14 67 3, Cl 15 119 #[Tm 14] #[67], Oo 16 (.unOp .not 4 (Tm 15)), Sg 13 16]) (.cond (Tm 13) (.seq (R0 [Sk 4 (Kn 4)]) .ret) (.seq (.seq (R0 [Fa 18 63 2 0, Ld 19 60 18, Lq 20 19 60, Bo 21 .sub 3 (Tm 20) (Kn 1) 3, Fa 22 67 3 0, Ld 23 43 22, Cl 24 120 #[Kn 0, Tm 21, Tm 23] #[3, 3, 43], Oo 25 (.unOp .not 4 (Tm 24)), Sg 17 25]) (.cond (Tm 17) .skip (R0 [Fa 26 63 2 1, Ld 27 61 26, Lq 28 27 61, Bo 29 .sub 3 (Tm 28) (Kn 1) 3, Fa 30 67 3 1, Ld 31 43 30, Cl 32 120 #[Kn 0, Tm 29, Tm 31] #[3, 3, 43], Oo 33 (.unOp .not 4 (Tm 32)), Sg 17 33]))) (.cond (Tm 17) (.seq (R0 [Sk 4 (Kn 7)]) .ret) .skip))))) (.seq (.seq (R0 [Fa 34 67 3 1, Ld 35 43 34, Lq 36 35 43, Cl 37 121 #[Tm 36] #[3], Lq 38 37 219, Oo 39 (.move (Kn 0))]) (.block 1 (.loop (.seq (R0 [Bo 40 .lss 3 (Tm 39) (Tm 38) 3]) (.seq (.cond (Tm 40) .skip (.exit 1)) (.seq (.block 2 (.seq (R0 [Mv 41 39, Ix 42 219 37 39, Ld 43 126 42, Sg 6 41, Sg 7 43]) (.seq (R1 [Fa 44 63 2 0, Ld 45 60 44, Fa 46 67 3 0, Ld 47 43 46, Mv 48 6, Ix 49 43 47 48, Ld 50 3 49, Ix 51 60 45 50, Fa 52 128 51 0, Ld 53 126 52, Mv 54 7, Bo 55 .neq 126 (Tm 53) (Tm 54) 126]) (.cond (Tm 55) (.seq (R0 [Sk 4 (Kn 2)]) .ret) .skip)))) (R0 [Bo 56 .add 3 (Tm 39) (Kn 1) 3, Mv 39 56]))))))) (.seq (R0 [Sk 4 (Kn 0)]) .ret)))))⟩
theorem sf86 : sfOf Tryd.f86 = some s86 := by kernel_rfl
theorem hb86 : hasBody Tryd.prog 86 = true := by kernel_rfl
def s87 : SF := ⟨30, [.cell 4 134], (.seq (R0 [Oo 2 (.box 63 (Tm 0)), Oo 3 (.box 67 (Tm 1)), Oo 4 (.alloc 134)]) (.seq (R0 [Ld 8 67 3, Ld 9 63 2, Oo 10 (.build 134 #[(0, (Tm 8)), (1, (Tm 9)), (2, (Kn 1))]), Oo 5 (.alloc 134), Sr 134 (Tm 5) (Tm 10)]) (.seq (.seq (R0 [Fa 11 67 3 1, Ld 12 43 11, Lq 13 12 43, Oo 14 (.move (Kn 0))]) (.block 0 (.loop (.seq (R0 [Bo 15 .lss 3 (Tm 14) (Tm 13) 3]) (.seq (.cond (Tm 15) .skip (.exit 0)) (.seq (.block 1 (.seq (R0 [Ix 16 43 12 14, Ld 17 3 16, Sg 7 17]) (R1 [Fa 18 134 5 2, Ld 19 3 18, Fa 20 63 2 1, Ld 21 61 20, Mv 22 7, Ix 23 61 21 22, Fa 24 130 23 0, Ld 25 3 24, Bo 26 .mul 3 (Tm 19) (Tm 25) 3, Fa 27 134 5 2, Sr 3 (Tm 27) (Tm 26)]))) (R0 [Bo 28 .add 3 (Tm 14) (Kn 1) 3, Mv 14 28]))))))) (.seq (R0 [Ld 29 134 5, Sr 134 (Tm 4) (Tm 29)]) .ret))))⟩
theorem sf87 : sfOf Tryd.f87 = some s87 := by kernel_rfl
theorem hb87 : hasBody Tryd.prog 87 = true := by kernel_rfl
end Go.Dw.Seat
end
section
namespace Go.Dw.Seat
open Go Go.Dw Go.Proofs
def s88 : SF := ⟨5, [.tmp 2], (.seq (R0 [Oo 1 (.box 28 (Tm 0)), Sk 2 (Kn 0)]) (.seq (R0 [Fa 3 28 1 0, Ld 4 3 3, Sg 2 4]) .ret))⟩
theorem sf88 : sfOf Tryd.f88 = some s88 := by kernel_rfl
theorem hb88 : hasBody Tryd.prog 88 = true := by kernel_rfl
def s89 : SF := ⟨5, [.tmp 2], (.seq (R0 [Oo 1 (.box 28 (Tm 0)), Sk 2 (Kn 0)]) (.seq (R0 [Fa 3 28 1 1, Ld 4 3 3, Sg 2 4]) .ret))⟩
theorem sf89 : sfOf Tryd.f89 = some s89 := by kernel_rfl
theorem hb89 : hasBody Tryd.prog 89 = true := by kernel_rfl
def s90 : SF := ⟨12, [.tmp 4], (.seq (R0 [Oo 2 (.box 134 (Tm 0)), Oo 3 (.box 185 (Tm 1)), Sk 4 (Kn 0)]) (.seq (R1 [Ld 5 134 2, Oo 6 (.makeFunc (.func 122) #[] #[Tm 3]), Cl 7 92 #[Tm 5, Tm 6] #[134, 188], Fa 8 134 2 2, Ld 9 3 8, Bo 10 .mul 3 (Kn 1000) (Tm 9) 3, Bo 11 .quo 3 (Tm 7) (Tm 10) 3, Sg 4 11]) .ret))⟩
theorem sf90 : sfOf Tryd.f90 = some s90 := by kernel_rfl
theorem hb90 : hasBody Tryd.prog 90 = true := by kernel_rfl
def s91 : SF := ⟨54, [.tmp 4], (.seq (R0 [Oo 2 (.box 134 (Tm 0)), Sk 4 (Kn 0)]) (.seq (.seq (R0 [Fa 9 134 2 0, Fa 10 67 9 0, Ld 11 43 10, Lq 12 11 43, Oo 13 (.move (Kn 0))]) (.block 0 (.loop (.seq (R0 [Bo 14 .lss 3 (Tm 13) (Tm 12) 3]) (.seq (.cond (Tm 14) .skip (.exit 0)) (.seq (.block 1 (.seq (R0 [Mv 15 13, Ix 16 43 11 13, Ld 17 3 16, Sg 5 15, Sg 6 17]) (.seq (R0 [Mv 18 5, Bo 19 .rem 3 (Tm 18) (Kn 2) 3, Bo 20 .eql 3 (Tm 19) (Kn 0) 3]) (.cond (Tm 20) (R0 [Mv 21 4, Mv 22 1, Fa 23 134 2 1, Fa 24 63 23 0, Ld 25 60 24, Mv 26 6, Ix 27 60 25 26, Fa 28 128 27 2, Ld 29 28 28, Oo 30 (.call { callee := .value (Tm 22), args := #[Tm 29], argTypes := #[28] }), Bo 31 .add 3 (Tm 21) (Tm 30) 3, Sg 4 31]) .skip)))) (R0 [Bo 32 .add 3 (Tm 13) (Kn 1) 3, Mv 13 32]))))))) (.seq (.seq (R0 [Fa 33 134 2 0, Fa 34 67 33 1, Ld 35 43 34, Lq 36 35 43, Oo 37 (.move (Kn 0))]) (.block 2 (.loop (.seq (R0 [Bo 38 .lss 3 (Tm 37) (Tm 36) 3]) (.seq (.cond (Tm 38) .skip (.exit 2)) (.seq (.block 3 (.seq (R0 [Ix 39 43 35 37, Ld 40 3 39, Sg 8 40]) (R0 [Mv 41 4, Mv 42 1, Fa 43 134 2 1, Fa 44 63 43 1, Ld 45 61 44, Mv 46 8, Ix 47 61 45 46, Fa 48 130 47 2, Ld 49 28 48, Oo 50 (.call { callee := .value (Tm 42), args := #[Tm 49], argTypes := #[28] }), Bo 51 .add 3 (Tm 41) (Tm 50) 3, Sg 4 51]))) (R0 [Bo 52 .add 3 (Tm 37) (Kn 1) 3, Mv 37 52]))))))) (.seq (R0 [Mv 53 4, Sg 4 53]) .ret))))⟩
theorem sf91 : sfOf Tryd.f91 = some s91 := by kernel_rfl
theorem hb91 : hasBody Tryd.prog 91 = true := by kernel_rfl
def s92 : SF := ⟨24, [.cell 4 3], (.seq (R0 [Oo 2 (.box 134 (Tm 0)), Oo 3 (.box 188 (Tm 1)), Oo 4 (.alloc 3)]) (.seq (.seq (R0 [Ld 7 134 2, Oo 8 (.makeFunc (.func 123) #[Tm 7] #[])]) (.block 0 (.rng (Tm 8) [9, 10] (.seq (R0 [Sg 5 9]) (R0 [Sg 6 10])) (.block 1 (R1 [Ld 11 3 4, Ld 12 188 3, Fa 13 134 2 1, Fa 14 63 13 0, Ld 15 60 14, Mv 16 5, Ix 17 60 15 16, Ld 18 128 17, Oo 19 (.call { callee := .value (Tm 12), args := #[Tm 18], argTypes := #[128] }), Mv 20 6, Bo 21 .mul 3 (Tm 19) (Tm 20) 3, Bo 22 .add 3 (Tm 11) (Tm 21) 3, Sr 3 (Tm 4) (Tm 22)]))))) (.seq (R0 [Ld 23 3 4, Sr 3 (Tm 4) (Tm 23)]) .ret)))⟩
theorem sf92 : sfOf Tryd.f92 = some s92 := by kernel_rfl
theorem hb92 : hasBody Tryd.prog 92 = true := by kernel_rfl
def s93 : SF := ⟨5, [.tmp 2], (.seq (R0 [Oo 1 (.box 128 (Tm 0)), Sk 2 (Kn 0)]) (.seq (R0 [Fa 3 128 1 5, Ld 4 3 3, Sg 2 4]) .ret))⟩
theorem sf93 : sfOf Tryd.f93 = some s93 := by kernel_rfl
theorem hb93 : hasBody Tryd.prog 93 = true := by kernel_rfl
def s94 : SF := ⟨21, [.tmp 2], (.seq (R0 [Oo 1 (.box 155 (Tm 0)), Sk 2 (Kn 0)]) (.seq (.seq (R0 [Fa 5 155 1 0, Ld 6 78 5, Lq 7 6 78, Oo 8 (.move (Kn 0))]) (.block 0 (.loop (.seq (R0 [Bo 9 .lss 3 (Tm 8) (Tm 7) 3]) (.seq (.cond (Tm 9) .skip (.exit 0)) (.seq (.block 1 (.seq (R0 [Ix 10 78 6 8, Ld 11 77 10, Oo 4 (.alloc 77), Sr 77 (Tm 4) (Tm 11)]) (.seq (R0 [Fa 12 77 4 0, Ld 13 3 12, Fa 14 155 1 1, Ld 15 3 14, Bo 16 .leq 3 (Tm 13) (Tm 15) 3]) (.cond (Tm 16) (R0 [Fa 17 77 4 1, Ld 18 3 17, Sg 2 18]) .skip)))) (R0 [Bo 19 .add 3 (Tm 8) (Kn 1) 3, Mv 8 19]))))))) (.seq (R0 [Mv 20 2, Sg 2 20]) .ret)))⟩
theorem sf94 : sfOf Tryd.f94 = some s94 := by kernel_rfl
theorem hb94 : hasBody Tryd.prog 94 = true := by kernel_rfl
def s95 : SF := ⟨11, [.tmp 4], (.seq (R0 [Oo 2 (.box 75 (Tm 0)), Sk 4 (Kn 0)]) (.seq (R0 [Fa 5 75 2 0, Fa 6 28 5 0, Ld 7 3 6, Mv 8 1, Bo 9 .mul 3 (Tm 7) (Tm 8) 3, Bo 10 .quo 3 (Tm 9) (Kn 1000) 3, Sg 4 10]) .ret))⟩
theorem sf95 : sfOf Tryd.f95 = some s95 := by kernel_rfl
theorem hb95 : hasBody Tryd.prog 95 = true := by kernel_rfl
def s96 : SF := ⟨21, [.cell 4 3], (.seq (R0 [Oo 2 (.box 140 (Tm 0)), Oo 4 (.alloc 3)]) (.seq (.seq (R0 [Mv 6 1, Oo 7 (.makeFunc (.func 53) #[Tm 6] #[])]) (.block 0 (.rng (Tm 7) [8] (R0 [Sg 5 8]) (.block 1 (R1 [Ld 9 3 4, Ld 10 140 2, Nk 11 10, Fa 12 191 11 0, Ld 13 65 12, Mv 14 5, Ix 15 65 13 14, Fa 16 75 15 1, Fa 17 28 16 1, Ld 18 3 17, Bo 19 .add 3 (Tm 9) (Tm 18) 3, Sr 3 (Tm 4) (Tm 19)]))))) (.seq (R0 [Ld 20 3 4, Sr 3 (Tm 4) (Tm 20)]) .ret)))⟩
theorem sf96 : sfOf Tryd.f96 = some s96 := by kernel_rfl
theorem hb96 : hasBody Tryd.prog 96 = true := by kernel_rfl
def s97 : SF := ⟨22, [.tmp 6], (.seq (R0 [Oo 3 (.box 28 (Tm 0)), Sk 6 (Kb false)]) (.seq (R0 [Mv 7 1, Mv 8 2, Fa 9 28 3 0, Ld 10 3 9, Fa 11 28 3 1, Ld 12 3 11, Oo 13 (.buildSlice 43 2 #[(0, (Tm 10)), (1, (Tm 12))]), Cl 14 98 #[Tm 7, Tm 8, Tm 13] #[3, 3, 43], Mv 15 14, Gf 16 28 3 0 15 true, Gl 17 3 16 15 true, Gf 18 28 3 1 15 true, Gl 19 3 18 15 true, Gb 20 .leq 3 (Tm 17) (Tm 19) 3 15 true, Pk 21 15 (Tm 20) (Kb false), Sg 6 21]) .ret))⟩
theorem sf97 : sfOf Tryd.f97 = some s97 := by kernel_rfl
theorem hb97 : hasBody Tryd.prog 97 = true := by kernel_rfl
def s98 : SF := ⟨11, [.tmp 6], (.seq (R0 [Oo 3 (.box 3 (Tm 0)), Oo 4 (.box 3 (Tm 1)), Sk 6 (Kb false)]) (.seq (R0 [Mv 7 2, Oo 8 (.makeFunc (.func 124) #[] #[Tm 3, Tm 4]), Cl 9 78 #[Tm 7, Tm 8] #[43, 168], Oo 10 (.unOp .not 4 (Tm 9)), Sg 6 10]) .ret))⟩
theorem sf98 : sfOf Tryd.f98 = some s98 := by kernel_rfl
theorem hb98 : hasBody Tryd.prog 98 = true := by kernel_rfl
def s99 : SF := ⟨17, [.tmp 5], (.seq (R0 [Sk 5 (Kn 0)]) (.seq (R1 [Mv 6 0, Mv 7 1, Fa 8 148 2 2, Ld 9 3 8, Bo 10 .mul 3 (Tm 7) (Tm 9) 3, Cl 11 100 #[Tm 10] #[3], Bo 12 .mul 3 (Tm 6) (Tm 11) 3, Fa 13 148 2 3, Ld 14 3 13, Bo 15 .mul 3 (Tm 12) (Tm 14) 3, Bo 16 .quo 3 (Tm 15) (Kn 100000) 3, Sg 5 16]) .ret))⟩
theorem sf99 : sfOf Tryd.f99 = some s99 := by kernel_rfl
theorem hb99 : hasBody Tryd.prog 99 = true := by kernel_rfl
def s100 : SF := ⟨7, [.tmp 2], (.seq (R0 [Oo 1 (.box 3 (Tm 0)), Sk 2 (Kn 0)]) (.seq (R0 [Ld 3 3 1, Bo 4 .add 3 (Tm 3) (Kn 1) 3, Oo 5 (.makeFunc (.func 126) #[] #[Tm 1]), Cl 6 125 #[Tm 4, Tm 5] #[3, 168], Sg 2 6]) .ret))⟩
theorem sf100 : sfOf Tryd.f100 = some s100 := by kernel_rfl
theorem hb100 : hasBody Tryd.prog 100 = true := by kernel_rfl
def s101 : SF := ⟨13, [.tmp 2], (.seq (R0 [Oo 1 (.box 75 (Tm 0)), Sk 2 (Kb false)]) (.seq (R0 [Fa 3 75 1 0, Ld 4 28 3, Cl 5 97 #[Tm 4, Kn 0, Kn 20000000] #[28, 3, 3], Oo 6 (.unOp .not 4 (Tm 5)), Mv 7 6, Gf 8 75 1 1 7 false, Gl 9 28 8 7 false, Gc 10 97 #[Tm 9, Kn 0, Kn 100000] #[28, 3, 3] 7 false, Og 11 (.unOp .not 4 (Tm 10)) 7 false, Pk 12 7 (Kb true) (Tm 11), Sg 2 12]) .ret))⟩
theorem sf101 : sfOf Tryd.f101 = some s101 := by kernel_rfl
theorem hb101 : hasBody Tryd.prog 101 = true := by kernel_rfl
def s102 : SF := ⟨9, [.tmp 4], (.seq (R0 [Sk 4 (Kb false)]) (.seq (R0 [Mv 5 0, Mv 6 1, Cl 7 127 #[Tm 5, Tm 6] #[65, 196], Bo 8 .geq 3 (Tm 7) (Kn 0) 3, Sg 4 8]) .ret))⟩
theorem sf102 : sfOf Tryd.f102 = some s102 := by kernel_rfl
theorem hb102 : hasBody Tryd.prog 102 = true := by kernel_rfl
def s103 : SF := ⟨28, [], (.seq (R0 [Oo 2 (.box 198 (Tm 0))]) (.seq (R0 [Oo 3 (.alloc 28)]) (.seq (R0 [Ld 6 65 1, Cl 7 104 #[Tm 6] #[65]]) (.block 0 (.rng (Tm 7) [8, 9] (.seq (R0 [Sg 4 8]) (R0 [Oo 5 (.alloc 75), Sr 75 (Tm 5) (Tm 9)])) (.block 1 (.seq (.seq (R0 [Ld 10 198 2, Mv 11 4, Ld 12 28 3, Oo 13 (.call { callee := .value (Tm 10), args := #[Tm 11, Tm 12], argTypes := #[3, 28] }), Oo 14 (.unOp .not 4 (Tm 13))]) (.cond (Tm 14) .ret .skip)) (R0 [Fa 15 28 3 0, Ld 16 3 15, Fa 17 75 5 1, Fa 18 28 17 0, Ld 19 3 18, Bo 20 .add 3 (Tm 16) (Tm 19) 3, Fa 21 28 3 1, Ld 22 3 21, Fa 23 75 5 1, Fa 24 28 23 1, Ld 25 3 24, Bo 26 .add 3 (Tm 22) (Tm 25) 3, Oo 27 (.build 28 #[(0, (Tm 20)), (1, (Tm 26))]), Sr 28 (Tm 3) (Tm 27)]))))))))⟩
theorem sf103 : sfOf Tryd.f103 = some s103 := by kernel_rfl
theorem hb103 : hasBody Tryd.prog 103 = true := by kernel_rfl
def s104 : SF := ⟨4, [.tmp 2], (.seq (R0 [Oo 1 (.box 65 (Tm 0)), Oo 2 (.assign (.const .nilFunc))]) (.seq (R0 [Oo 3 (.makeFunc (.func 128) #[] #[Tm 1]), Sg 2 3]) .ret))⟩
theorem sf104 : sfOf Tryd.f104 = some s104 := by kernel_rfl
theorem hb104 : hasBody Tryd.prog 104 = true := by kernel_rfl
def s110 : SF := ⟨14, [.tmp 2], (.seq (R0 [Sk 2 (Kn 0)]) (.seq (.seq (R0 [Mv 3 0, Bo 4 .eql 208 (Tm 3) (.const (.int .u64 0)) 208]) (.cond (Tm 4) (.seq (R0 [Sk 2 (Kn 64)]) .ret) .skip)) (.seq (R0 [Mv 5 0, Mv 6 0, Oo 7 (.unOp .neg 208 (Tm 6)), Bo 8 .and 208 (Tm 5) (Tm 7) 208, Bo 9 .mul 208 (Tm 8) (.const (.int .u64 285870213051353865)) 208, Bo 10 .shr 208 (Tm 9) (.const (.int .u64 58)) 102, Oo 11 (.indexAddr 226 (.global 1) (Tm 10)), Ld 12 5 11, Oo 13 (.convert 5 3 (Tm 12)), Sg 2 13]) .ret)))⟩
theorem sf110 : sfOf Tryd.f110 = some s110 := by kernel_rfl
theorem hb110 : hasBody Tryd.prog 110 = true := by kernel_rfl
def s111 : SF := ⟨19, [.tmp 4], (.seq (R0 [Sk 4 (Kn 0)]) (.seq (.seq (R0 [Mv 6 0, Lq 7 6 43, Oo 8 (.move (Kn 0))]) (.block 0 (.loop (.seq (R0 [Bo 9 .lss 3 (Tm 8) (Tm 7) 3]) (.seq (.cond (Tm 9) .skip (.exit 0)) (.seq (.block 1 (.seq (R0 [Mv 10 8, Sg 5 10]) (.seq (R0 [Mv 11 1, Mv 12 0, Mv 13 5, Ix 14 43 12 13, Ld 15 3 14, Oo 16 (.call { callee := .value (Tm 11), args := #[Tm 15], argTypes := #[3] })]) (.cond (Tm 16) (.seq (R0 [Mv 17 5, Sg 4 17]) .ret) .skip)))) (R0 [Bo 18 .add 3 (Tm 8) (Kn 1) 3, Mv 8 18]))))))) (.seq (R0 [Sk 4 (Kn (-1))]) .ret)))⟩
theorem sf111 : sfOf Tryd.f111 = some s111 := by kernel_rfl
theorem hb111 : hasBody Tryd.prog 111 = true := by kernel_rfl
def s118 : SF := ⟨28, [.tmp 2], (.seq (R0 [Oo 1 (.box 63 (Tm 0)), Sk 2 (Kn 0)]) (.seq (.block 0 (.seq (.seq (R0 [Fa 4 63 1 0, Ld 5 60 4, Lq 6 5 60, Bo 7 .gtr 3 (Tm 6) (Kn 8) 3, Sg 3 7]) (.cond (Tm 3) .skip (R0 [Fa 8 63 1 1, Ld 9 61 8, Lq 10 9 61, Bo 11 .gtr 3 (Tm 10) (Kn 4) 3, Sg 3 11]))) (.cond (Tm 3) (.seq (R0 [Sk 2 (Kn 5)]) .ret) (.seq (.seq (R0 [Fa 13 63 1 0, Ld 14 60 13, Lq 15 14 60, Bo 16 .eql 3 (Tm 15) (Kn 0) 3, Sg 12 16]) (.cond (Tm 12) .skip (R0 [Fa 17 63 1 1, Ld 18 61 17, Lq 19 18 61, Bo 20 .eql 3 (Tm 19) (Kn 0) 3, Sg 12 20]))) (.cond (Tm 12) (.seq (R0 [Sk 2 (Kn 2)]) .ret) (.seq (.seq (R0 [Fa 22 63 1 0, Ld 23 60 22, Cl 24 133 #[Tm 23, .func 134] #[60, 231], Sg 21 24]) (.cond (Tm 21) .skip (R0 [Fa 25 63 1 1, Ld 26 61 25, Cl 27 136 #[Tm 26, .func 137] #[61, 233], Sg 21 27]))) (.cond (Tm 21) (.seq (R0 [Sk 2 (Kn 2)]) .ret) .skip))))))) (.seq (R0 [Sk 2 (Kn 0)]) .ret)))⟩
theorem sf118 : sfOf Tryd.f118 = some s118 := by kernel_rfl
theorem hb118 : hasBody Tryd.prog 118 = true := by kernel_rfl
def s119 : SF := ⟨19, [.tmp 2], (.seq (R0 [Oo 1 (.box 67 (Tm 0)), Sk 2 (Kb false)]) (.seq (R1 [Fa 3 67 1 1, Ld 4 43 3, Lq 5 4 43, Oo 6 (.buildSlice 43 1 #[(0, (Tm 5))]), Cl 7 120 #[Kn 1, Kn 2, Tm 6] #[3, 3, 43], Mv 8 7, Gf 9 67 1 0 8 true, Gl 10 43 9 8 true, Og 11 (.call { callee := .builtin .len, args := #[Tm 10], argTypes := #[43] }) 8 true, Gf 12 67 1 1 8 true, Gl 13 43 12 8 true, Og 14 (.call { callee := .builtin .len, args := #[Tm 13], argTypes := #[43] }) 8 true, Gc 15 121 #[Tm 14] #[3] 8 true, Og 16 (.call { callee := .builtin .len, args := #[Tm 15], argTypes := #[219] }) 8 true, Gb 17 .eql 3 (Tm 11) (Tm 16) 3 8 true, Pk 18 8 (Tm 17) (Kb false), Sg 2 18]) .ret))⟩
theorem sf119 : sfOf Tryd.f119 = some s119 := by kernel_rfl
theorem hb119 : hasBody Tryd.prog 119 = true := by kernel_rfl
def s120 : SF := ⟨11, [.tmp 6], (.seq (R0 [Oo 3 (.box 3 (Tm 0)), Oo 4 (.box 3 (Tm 1)), Sk 6 (Kb false)]) (.seq (R0 [Mv 7 2, Oo 8 (.makeFunc (.func 139) #[] #[Tm 3, Tm 4]), Cl 9 78 #[Tm 7, Tm 8] #[43, 168], Oo 10 (.unOp .not 4 (Tm 9)), Sg 6 10]) .ret))⟩
theorem sf120 : sfOf Tryd.f120 = some s120 := by kernel_rfl
theorem hb120 : hasBody Tryd.prog 120 = true := by kernel_rfl
def s121 : SF := ⟨13, [.tmp 2], (.seq (R0 [Oo 2 (.assign (.const (.slice none 0 0)))]) (.seq (R0 [Oo 4 (.buildSlice 219 1 #[(0, (Kn 1))]), Sg 3 4]) (.seq (.seq (R0 [Mv 5 0, Oo 6 (.move (Kn 0))]) (.block 0 (.loop (.seq (R0 [Bo 7 .lss 3 (Tm 6) (Tm 5) 3]) (.seq (.cond (Tm 7) .skip (.exit 0)) (.seq (.block 1 (R0 [Mv 8 3, Oo 9 (.buildSlice 219 2 #[(0, (Kn 2)), (1, (Kn 1))]), Oo 10 (.call { callee := .builtin .append, args := #[Tm 8, Tm 9], argTypes := #[219, 219] }), Sg 3 10])) (R0 [Bo 11 .add 3 (Tm 6) (Kn 1) 3, Mv 6 11]))))))) (.seq (R0 [Mv 12 3, Sg 2 12]) .ret))))⟩
theorem sf121 : sfOf Tryd.f121 = some s121 := by kernel_rfl
theorem hb121 : hasBody Tryd.prog 121 = true := by kernel_rfl
def s122 : SF := ⟨12, [.tmp 3], (.seq (R0 [Oo 2 (.box 128 (Tm 0)), Sk 3 (Kn 0)]) (.seq (R1 [Fa 4 128 2 1, Ld 5 3 4, Ld 6 185 1, Fa 7 128 2 3, Ld 8 28 7, Oo 9 (.call { callee := .value (Tm 6), args := #[Tm 8], argTypes := #[28] }), Bo 10 .add 3 (Kn 1000) (Tm 9) 3, Bo 11 .mul 3 (Tm 5) (Tm 10) 3, Sg 3 11]) .ret))⟩
theorem sf122 : sfOf Tryd.f122 = some s122 := by kernel_rfl
theorem hb122 : hasBody Tryd.prog 122 = true := by kernel_rfl
def s123 : SF := ⟨47, [], (.seq (R0 [Oo 2 (.box 134 (Tm 0))]) (.seq (R0 [Fa 8 134 2 0, Fa 9 67 8 0, Ld 10 43 9, Lq 11 10 43, Oo 12 (.move (Kn 0))]) (.block 0 (.loop (.seq (R0 [Bo 13 .lss 3 (Tm 12) (Tm 11) 3]) (.seq (.cond (Tm 13) .skip (.exit 0)) (.seq (.block 1 (.seq (R0 [Mv 14 12, Ix 15 43 10 12, Ld 16 3 15, Sg 4 14, Sg 5 16]) (.seq (R0 [Fa 17 134 2 2, Ld 18 3 17, Sg 6 18]) (.seq (.seq (R0 [Mv 19 4, Bo 20 .rem 3 (Tm 19) (Kn 2) 3, Bo 21 .eql 3 (Tm 20) (Kn 1) 3]) (.cond (Tm 21) (.seq (R1 [Fa 22 134 2 1, Fa 23 63 22 1, Ld 24 61 23, Fa 25 134 2 0, Fa 26 67 25 1, Ld 27 43 26, Mv 28 4, Bo 29 .quo 3 (Tm 28) (Kn 2) 3, Ix 30 43 27 29, Ld 31 3 30, Ix 32 61 24 31, Ld 33 130 32, Oo 7 (.alloc 130), Sr 130 (Tm 7) (Tm 33)]) (R1 [Mv 34 6, Fa 35 130 7 0, Ld 36 3 35, Bo 37 .quo 3 (Tm 34) (Tm 36) 3, Fa 38 130 7 1, Ld 39 3 38, Bo 40 .mul 3 (Tm 37) (Tm 39) 3, Sg 6 40])) .skip)) (.seq (R0 [Mv 41 1, Mv 42 5, Mv 43 6, Oo 44 (.call { callee := .value (Tm 41), args := #[Tm 42, Tm 43], argTypes := #[3, 3] }), Oo 45 (.unOp .not 4 (Tm 44))]) (.cond (Tm 45) .ret .skip)))))) (R0 [Bo 46 .add 3 (Tm 12) (Kn 1) 3, Mv 12 46]))))))))⟩
theorem sf123 : sfOf Tryd.f123 = some s123 := by kernel_rfl
theorem hb123 : hasBody Tryd.prog 123 = true := by kernel_rfl
def s124 : SF := ⟨13, [.tmp 4], (.seq (R0 [Sk 4 (Kb false)]) (.seq (R0 [Mv 5 0, Ld 6 3 1, Bo 7 .lss 3 (Tm 5) (Tm 6) 3, Mv 8 7, Gm 9 0 8 false, Gl 10 3 2 8 false, Gb 11 .gtr 3 (Tm 9) (Tm 10) 3 8 false, Pk 12 8 (Kb true) (Tm 11), Sg 4 12]) .ret))⟩
theorem sf124 : sfOf Tryd.f124 = some s124 := by kernel_rfl
theorem hb124 : hasBody Tryd.prog 124 = true := by kernel_rfl
def s125 : SF := ⟨26, [.tmp 4], (.seq (R0 [Sk 4 (Kn 0)]) (.seq (R0 [Mv 8 0, Sk 5 (Kn 0), Sg 6 8]) (.seq (.block 0 (.loop (.seq (.seq (R0 [Mv 9 5, Mv 10 6, Bo 11 .lss 3 (Tm 9) (Tm 10) 3]) (.cond (Tm 11) .skip (.exit 0))) (.block 1 (.seq (R0 [Mv 12 5, Mv 13 6, Bo 14 .add 3 (Tm 12) (Tm 13) 3, Oo 15 (.convert 3 102 (Tm 14)), Bo 16 .shr 102 (Tm 15) (.const (.int .u64 1)) 102, Oo 17 (.convert 102 3 (Tm 16)), Sg 7 17]) (.seq (R0 [Mv 18 1, Mv 19 7, Oo 20 (.call { callee := .value (Tm 18), args := #[Tm 19], argTypes := #[3] }), Oo 21 (.unOp .not 4 (Tm 20))]) (.cond (Tm 21) (R0 [Mv 22 7, Bo 23 .add 3 (Tm 22) (Kn 1) 3, Sg 5 23]) (R0 [Mv 24 7, Sg 6 24])))))))) (.seq (R0 [Mv 25 5, Sg 4 25]) .ret))))⟩
theorem sf125 : sfOf Tryd.f125 = some s125 := by kernel_rfl
theorem hb125 : hasBody Tryd.prog 125 = true := by kernel_rfl
def s126 : SF := ⟨11, [.tmp 3], (.seq (R0 [Sk 3 (Kb false)]) (.seq (R0 [Mv 4 0, Bo 5 .add 3 (Tm 4) (Kn 1) 3, Mv 6 0, Bo 7 .add 3 (Tm 6) (Kn 1) 3, Bo 8 .mul 3 (Tm 5) (Tm 7) 3, Ld 9 3 1, Bo 10 .gtr 3 (Tm 8) (Tm 9) 3, Sg 3 10]) .ret))⟩
theorem sf126 : sfOf Tryd.f126 = some s126 := by kernel_rfl
theorem hb126 : hasBody Tryd.prog 126 = true := by kernel_rfl
def s127 : SF := ⟨19, [.tmp 4], (.seq (R0 [Sk 4 (Kn 0)]) (.seq (.seq (R0 [Mv 6 0, Lq 7 6 65, Oo 8 (.move (Kn 0))]) (.block 0 (.loop (.seq (R0 [Bo 9 .lss 3 (Tm 8) (Tm 7) 3]) (.seq (.cond (Tm 9) .skip (.exit 0)) (.seq (.block 1 (.seq (R0 [Mv 10 8, Sg 5 10]) (.seq (R0 [Mv 11 1, Mv 12 0, Mv 13 5, Ix 14 65 12 13, Ld 15 75 14, Oo 16 (.call { callee := .value (Tm 11), args := #[Tm 15], argTypes := #[75] })]) (.cond (Tm 16) (.seq (R0 [Mv 17 5, Sg 4 17]) .ret) .skip)))) (R0 [Bo 18 .add 3 (Tm 8) (Kn 1) 3, Mv 8 18]))))))) (.seq (R0 [Sk 4 (Kn (-1))]) .ret)))⟩
theorem sf127 : sfOf Tryd.f127 = some s127 := by kernel_rfl
theorem hb127 : hasBody Tryd.prog 127 = true := by kernel_rfl
def s128 : SF := ⟨19, [], (.seq (R0 [Ld 4 65 1, Lq 5 4 65, Bo 6 .sub 3 (Tm 5) (Kn 1) 3, Sg 3 6]) (.block 0 (.loop (.seq (.seq (R0 [Mv 7 3, Bo 8 .geq 3 (Tm 7) (Kn 0) 3]) (.cond (Tm 8) .skip (.exit 0))) (.seq (.block 1 (.seq (R0 [Mv 11 0, Mv 12 3, Ld 13 65 1, Mv 14 3, Ix 15 65 13 14, Ld 16 75 15, Oo 17 (.call { callee := .value (Tm 11), args := #[Tm 12, Tm 16], argTypes := #[3, 75] }), Oo 18 (.unOp .not 4 (Tm 17))]) (.cond (Tm 18) .ret .skip))) (R0 [Mv 9 3, Bo 10 .sub 3 (Tm 9) (Kn 1) 3, Sg 3 10]))))))⟩
theorem sf128 : sfOf Tryd.f128 = some s128 := by kernel_rfl
theorem hb128 : hasBody Tryd.prog 128 = true := by kernel_rfl
def s133 : SF := ⟨9, [.tmp 4], (.seq (R0 [Sk 4 (Kb false)]) (.seq (R0 [Mv 5 0, Mv 6 1, Cl 7 142 #[Tm 5, Tm 6] #[60, 231], Bo 8 .geq 3 (Tm 7) (Kn 0) 3, Sg 4 8]) .ret))⟩
theorem sf133 : sfOf Tryd.f133 = some s133 := by kernel_rfl
theorem hb133 : hasBody Tryd.prog 133 = true := by kernel_rfl
def s134 : SF := ⟨6, [.tmp 2], (.seq (R0 [Oo 1 (.box 128 (Tm 0)), Sk 2 (Kb false)]) (.seq (R0 [Ld 3 128 1, Cl 4 135 #[Tm 3] #[128], Oo 5 (.unOp .not 4 (Tm 4)), Sg 2 5]) .ret))⟩
theorem sf134 : sfOf Tryd.f134 = some s134 := by kernel_rfl
theorem hb134 : hasBody Tryd.prog 134 = true := by kernel_rfl
def s135 : SF := ⟨39, [.tmp 2], (.seq (R0 [Oo 1 (.box 128 (Tm 0)), Sk 2 (Kb false)]) (.seq (R0 [Fa 3 128 1 0, Ld 4 126 3, Bo 5 .eql 126 (Tm 4) (Kn 1) 126, Mv 6 5, Gf 7 128 1 0 6 false, Gl 8 126 7 6 false, Gb 9 .eql 126 (Tm 8) (Kn 2) 126 6 false, Pk 10 6 (Kb true) (Tm 9), Mv 11 10, Gf 12 128 1 1 11 true, Gl 13 3 12 11 true, Og 14 (.buildSlice 43 1 #[(0, (Tm 13))]) 11 true, Gc 15 120 #[Kn 1, Kn 1000, Tm 14] #[3, 3, 43] 11 true, Pk 16 11 (Tm 15) (Kb false), Mv 17 16, Gf 18 128 1 2 17 true, Gl 19 28 18 17 true, Gc 20 143 #[Tm 19, Kn 1, Kn 1000] #[28, 3, 3] 17 true, Pk 21 17 (Tm 20) (Kb false), Mv 22 21, Gf 23 128 1 3 22 true, Gl 24 28 23 22 true, Gc 25 143 #[Tm 24, Kn 0, Kn 200] #[28, 3, 3] 22 true, Pk 26 22 (Tm 25) (Kb false), Mv 27 26, Gf 28 128 1 4 27 true, Gl 29 3 28 27 true, Og 30 (.buildSlice 43 1 #[(0, (Tm 29))]) 27 true, Gc 31 120 #[Kn 0, Kn 1000000, Tm 30] #[3, 3, 43] 27 true, Pk 32 27 (Tm 31) (Kb false), Mv 33 32, Gf 34 128 1 5 33 true, Gl 35 3 34 33 true, Og 36 (.buildSlice 43 1 #[(0, (Tm 35))]) 33 true, Gc 37 120 #[Kn 0, Kn 10000, Tm 36] #[3, 3, 43] 33 true, Pk 38 33 (Tm 37) (Kb false), Sg 2 38]) .ret))⟩
theorem sf135 : sfOf Tryd.f135 = some s135 := by kernel_rfl
theorem hb135 : hasBody Tryd.prog 135 = true := by kernel_rfl
def s136 : SF := ⟨9, [.tmp 4], (.seq (R0 [Sk 4 (Kb false)]) (.seq (R0 [Mv 5 0, Mv 6 1, Cl 7 144 #[Tm 5, Tm 6] #[61, 233], Bo 8 .geq 3 (Tm 7) (Kn 0) 3, Sg 4 8]) .ret))⟩
theorem sf136 : sfOf Tryd.f136 = some s136 := by kernel_rfl
theorem hb136 : hasBody Tryd.prog 136 = true := by kernel_rfl
def s137 : SF := ⟨6, [.tmp 2], (.seq (R0 [Oo 1 (.box 130 (Tm 0)), Sk 2 (Kb false)]) (.seq (R0 [Ld 3 130 1, Cl 4 138 #[Tm 3] #[130], Oo 5 (.unOp .not 4 (Tm 4)), Sg 2 5]) .ret))⟩
theorem sf137 : sfOf Tryd.f137 = some s137 := by kernel_rfl
theorem hb137 : hasBody Tryd.prog 137 = true := by kernel_rfl
def s138 : SF := ⟨23, [.tmp 2], (.seq (R0 [Oo 1 (.box 130 (Tm 0)), Sk 2 (Kb false)]) (.seq (R0 [Fa 3 130 1 0, Ld 4 3 3, Oo 5 (.buildSlice 43 1 #[(0, (Tm 4))]), Cl 6 120 #[Kn 1000, Kn 10000, Tm 5] #[3, 3, 43], Mv 7 6, Gf 8 130 1 0 7 true, Gl 9 3 8 7 true, Gf 10 130 1 0 7 true, Gl 11 3 10 7 true, Gb 12 .mul 3 (Kn 2) (Tm 11) 3 7 true, Gf 13 130 1 1 7 true, Gl 14 3 13 7 true, Og 15 (.buildSlice 43 1 #[(0, (Tm 14))]) 7 true, Gc 16 120 #[Tm 9, Tm 12, Tm 15] #[3, 3, 43] 7 true, Pk 17 7 (Tm 16) (Kb false), Mv 18 17, Gf 19 130 1 2 18 true, Gl 20 28 19 18 true, Gc 21 143 #[Tm 20, Kn 1, Kn 10000] #[28, 3, 3] 18 true, Pk 22 18 (Tm 21) (Kb false), Sg 2 22]) .ret))⟩
theorem sf138 : sfOf Tryd.f138 = some s138 := by kernel_rfl
theorem hb138 : hasBody Tryd.prog 138 = true := by kernel_rfl
def s139 : SF := ⟨13, [.tmp 4], (.seq (R0 [Sk 4 (Kb false)]) (.seq (R0 [Mv 5 0, Ld 6 3 1, Bo 7 .lss 3 (Tm 5) (Tm 6) 3, Mv 8 7, Gm 9 0 8 false, Gl 10 3 2 8 false, Gb 11 .gtr 3 (Tm 9) (Tm 10) 3 8 false, Pk 12 8 (Kb true) (Tm 11), Sg 4 12]) .ret))⟩
theorem sf139 : sfOf Tryd.f139 = some s139 := by kernel_rfl
theorem hb139 : hasBody Tryd.prog 139 = true := by kernel_rfl
def s142 : SF := ⟨19, [.tmp 4], (.seq (R0 [Sk 4 (Kn 0)]) (.seq (.seq (R0 [Mv 6 0, Lq 7 6 60, Oo 8 (.move (Kn 0))]) (.block 0 (.loop (.seq (R0 [Bo 9 .lss 3 (Tm 8) (Tm 7) 3]) (.seq (.cond (Tm 9) .skip (.exit 0)) (.seq (.block 1 (.seq (R0 [Mv 10 8, Sg 5 10]) (.seq (R0 [Mv 11 1, Mv 12 0, Mv 13 5, Ix 14 60 12 13, Ld 15 128 14, Oo 16 (.call { callee := .value (Tm 11), args := #[Tm 15], argTypes := #[128] })]) (.cond (Tm 16) (.seq (R0 [Mv 17 5, Sg 4 17]) .ret) .skip)))) (R0 [Bo 18 .add 3 (Tm 8) (Kn 1) 3, Mv 8 18]))))))) (.seq (R0 [Sk 4 (Kn (-1))]) .ret)))⟩
theorem sf142 : sfOf Tryd.f142 = some s142 := by kernel_rfl
theorem hb142 : hasBody Tryd.prog 142 = true := by kernel_rfl
def s143 : SF := ⟨22, [.tmp 6], (.seq (R0 [Oo 3 (.box 28 (Tm 0)), Sk 6 (Kb false)]) (.seq (R0 [Mv 7 1, Mv 8 2, Fa 9 28 3 0, Ld 10 3 9, Fa 11 28 3 1, Ld 12 3 11, Oo 13 (.buildSlice 43 2 #[(0, (Tm 10)), (1, (Tm 12))]), Cl 14 120 #[Tm 7, Tm 8, Tm 13] #[3, 3, 43], Mv 15 14, Gf 16 28 3 0 15 true, Gl 17 3 16 15 true, Gf 18 28 3 1 15 true, Gl 19 3 18 15 true, Gb 20 .leq 3 (Tm 17) (Tm 19) 3 15 true, Pk 21 15 (Tm 20) (Kb false), Sg 6 21]) .ret))⟩
theorem sf143 : sfOf Tryd.f143 = some s143 := by kernel_rfl
theorem hb143 : hasBody Tryd.prog 143 = true := by kernel_rfl
def s144 : SF := ⟨19, [.tmp 4], (.seq (R0 [Sk 4 (Kn 0)]) (.seq (.seq (R0 [Mv 6 0, Lq 7 6 61, Oo 8 (.move (Kn 0))]) (.block 0 (.loop (.seq (R0 [Bo 9 .lss 3 (Tm 8) (Tm 7) 3]) (.seq (.cond (Tm 9) .skip (.exit 0)) (.seq (.block 1 (.seq (R0 [Mv 10 8, Sg 5 10]) (.seq (R0 [Mv 11 1, Mv 12 0, Mv 13 5, Ix 14 61 12 13, Ld 15 130 14, Oo 16 (.call { callee := .value (Tm 11), args := #[Tm 15], argTypes := #[130] })]) (.cond (Tm 16) (.seq (R0 [Mv 17 5, Sg 4 17]) .ret) .skip)))) (R0 [Bo 18 .add 3 (Tm 8) (Kn 1) 3, Mv 8 18]))))))) (.seq (R0 [Sk 4 (Kn (-1))]) .ret)))⟩
theorem sf144 : sfOf Tryd.f144 = some s144 := by kernel_rfl
theorem hb144 : hasBody Tryd.prog 144 = true := by kernel_rfl
end Go.Dw.Seat
end
section
namespace Go.Dw.Seat
open Go Go.Dw Go.Proofs Go.IntWalk
theorem qA : type_of% @DW.seq := @DW.seq
theorem qB : type_of% @DW.block := @DW.block
theorem qC : type_of% @DW.skip := @DW.skip
theorem qD : type_of% @DW.exit := @DW.exit
theorem qE : type_of% @DW.ret := @DW.ret
theorem qF : type_of% @DW.reg := @DW.reg
theorem qG : type_of% @DW.cond_tt := @DW.cond_tt
theorem qH : type_of% @DW.cond_ff := @DW.cond_ff
theorem qI : type_of% @DW.cond := @DW.cond
theorem qJ : type_of% @g_split := @g_split
theorem qK : type_of% @call_c := @call_c
theorem qL : type_of% @DW.dreg := @DW.dreg
theorem qM : type_of% @retS_of := @retS_of
theorem qN : type_of% @bm_box := @bm_box
theorem qO : type_of% @bm_row := @bm_row
theorem qP : type_of% @bk_box := @bk_box
theorem qQ : type_of% @bk_row := @bk_row
theorem qR : type_of% @wkT_cons := @wkT_cons
theorem qS : type_of% @wkX_cons := @wkX_cons
theorem qTw : type_of% @wkT_nil := @wkT_nil
theorem qU : type_of% @wkX_nil := @wkX_nil
theorem qV : type_of% @ex_some := @ex_some
theorem qW : type_of% @wk_self := @wk_self
theorem qX : type_of% @wk_top := @wk_top
theorem qY : type_of% @wk_nil := @wk_nil
theorem qZ : type_of% @wkB_self := @wkB_self
theorem rA : type_of% @Int.natCast_add := @Int.natCast_add
theorem rB : type_of% @Int.natCast_one := @Int.natCast_one
theorem rC : type_of% @Int.ofNat_zero := @Int.ofNat_zero
theorem rD : type_of% @Int.natCast_zero := @Int.natCast_zero
theorem rE : type_of% @IntWalk.i64_in := @IntWalk.i64_in
theorem rF : type_of% @List.map_cons := @List.map_cons
theorem rG : type_of% @List.map_nil := @List.map_nil
end Go.Dw.Seat
end
section
set_option linter.unusedSimpArgs false
set_option maxRecDepth 100000
namespace Go.Dw.Seat.Cr
open Go Go.Dw Go.Proofs Go.IntWalk
theorem c122 (b : Bool) (l : List (Int)) (hl : l.length ≤ 2 ^ 36) (g : FuncId) (fs caps : List C) (p : Int → Bool) (hp : ∀ x ∈ l, DCall Tryd.prog g (fs.map D.c ++ [dI x] ++ caps.map D.c) [] (bD (p x)) []) : DCall Tryd.prog 111 [.c (.sl b 1 (rows eI l)), .c (.fn (.func g) fs caps)] [] (dI (idxI p l)) [] := by
 refine DCall.of Tryd.func111 sf111 hb111 (Nat.le_of_ble_eq_true rfl) (okRes_nil fun _ => rfl) ?_; simp only [s111, idxs, Nat.reduceAdd]
 repeat' (first|(with_reducible first|apply qA|apply qB|apply qC|apply qD|apply qE|apply qF)|(simp (disch:=omega) only [go_sem, simprocAttr, Blk.men, Blk.keysIn])|exact qM rfl rfl rfl|(refine qG rfl ?_)|(refine qH rfl ?_)|(refine qI rfl ?_ ?_<;>intro hc<;>(try simp only [go_sem] at hc))|(refine qJ ?_ ?_<;>intro hc<;>(try simp only [hc])<;>(try simp only [go_sem] at hc)))
 refine DW.loop (ι := { i : Nat // i ≤ l.length ∧ ∀ j u, j < i → l[j]? = some u → p u = false }) (fun i => ⟨19, [(8, dI i.1), (7, dI l.length), (1, .c (.fn (.func g) fs caps)), (0, .c (.sl b 1 (rows eI l)))], []⟩) (fun i => l.length - i.1) ⟨0, Nat.zero_le _, fun j u h => by omega⟩ ?_ ?_
 ·refine Ent.to ?_ ?_ <;> simp (disch:=omega) only [qR,qS,qTw,qU,get,Nat.reduceEqDiff,↓reduceIte,qV,qW,qX,qY,qZ,and_self,dI,i64_in,and_true,true_and,rA,rB,rC,rD]
 rintro ⟨i, hi, hij⟩
 rcases at_or l i hi with ⟨v, hv, hlt, hd⟩ | ⟨he, hd⟩
 ·have hcall := hp v (List.mem_of_getElem? hv)
  repeat' (first|(with_reducible first|apply qA|apply qB|apply qC|apply qD|apply qE|apply qF)|(simp (disch:=omega) only [go_sem, simprocAttr, Blk.men, Blk.keysIn, hd, hv, closeDs_fn, rF, rG])|exact qM rfl rfl rfl|(refine qG rfl ?_)|(refine qH rfl ?_)|(refine qI rfl ?_ ?_<;>intro hc<;>(try simp only [go_sem] at hc))|(refine qJ ?_ ?_<;>intro hc<;>(try simp only [hc])<;>(try simp only [go_sem] at hc)))
  refine call_c hcall (by decide) ?_
  simp (disch:=omega) only [go_sem,simprocAttr,Blk.men,Blk.keysIn]
  refine DW.cond rfl ?_ ?_ <;> intro hc
  ·repeat' (first|(with_reducible first|apply qA|apply qB|apply qC|apply qD|apply qE|apply qF)|(simp (disch:=omega) only [go_sem, simprocAttr, Blk.men, Blk.keysIn])|exact qM rfl rfl rfl|(refine qG rfl ?_)|(refine qH rfl ?_)|(refine qI rfl ?_ ?_<;>intro hc<;>(try simp only [go_sem] at hc))|(refine qJ ?_ ?_<;>intro hc<;>(try simp only [hc])<;>(try simp only [go_sem] at hc)))
   refine retS_of rfl ?_ rfl; simp only [oneD, St.op, get, Nat.reduceEqDiff, ↓reduceIte, Option.getD_some, bD, dI]
   simp only [idxI, idxOf_some hij hv hc]
  ·repeat' (first|(with_reducible first|apply qA|apply qB|apply qC|apply qD|apply qE|apply qF)|(simp (disch:=omega) only [go_sem, simprocAttr, Blk.men, Blk.keysIn])|exact qM rfl rfl rfl|(refine qG rfl ?_)|(refine qH rfl ?_)|(refine qI rfl ?_ ?_<;>intro hc<;>(try simp only [go_sem] at hc))|(refine qJ ?_ ?_<;>intro hc<;>(try simp only [hc])<;>(try simp only [go_sem] at hc)))
   refine ⟨⟨i + 1, by omega, fun j u hj hu => by
    rcases Nat.lt_or_ge j i with h | h
    ·exact hij j u h hu
    ·have : j = i := by omega
     subst this
     rw [hv] at hu; cases hu; exact hc⟩, ?_, Ent.to ?_ ?_⟩ <;> first | (show _ < _; (try simp only); omega) | (simp (disch:=omega) only [qR,qS,qTw,qU,get,Nat.reduceEqDiff,↓reduceIte,qV,qW,qX,qY,qZ,and_self,dI,i64_in,and_true,true_and,rA,rB,rC,rD])
 ·repeat' (first|(with_reducible first|apply qA|apply qB|apply qC|apply qD|apply qE|apply qF)|(simp (disch:=omega) only [go_sem, simprocAttr, Blk.men, Blk.keysIn, hd])|exact qM rfl rfl rfl|(refine qG rfl ?_)|(refine qH rfl ?_)|(refine qI rfl ?_ ?_<;>intro hc<;>(try simp only [go_sem] at hc))|(refine qJ ?_ ?_<;>intro hc<;>(try simp only [hc])<;>(try simp only [go_sem] at hc)))
  refine retS_of rfl ?_ rfl; simp only [oneD, St.op, get, Nat.reduceEqDiff, ↓reduceIte, Option.getD_some, bD, dI]
  simp only [idxI, idxOf_none (he ▸ hij)]
theorem c110 (b : Bool) (l : List (Int)) (hl : l.length ≤ 2 ^ 36) (g : FuncId) (fs caps : List C) (p : Int → Bool) (hp : ∀ x ∈ l, DCall Tryd.prog g (fs.map D.c ++ [dI x] ++ caps.map D.c) [] (bD (p x)) []) : DCall Tryd.prog 78 [.c (.sl b 1 (rows eI l)), .c (.fn (.func g) fs caps)] [] (bD (l.any p)) [] := by
 refine DCall.of Tryd.func78 sf78 hb78 (Nat.le_of_ble_eq_true rfl) (okRes_nil fun _ => rfl) ?_; simp only [s78, idxs, Nat.reduceAdd]
 repeat' (first|(with_reducible first|apply qA|apply qB|apply qC|apply qD|apply qE|apply qF)|(simp (disch:=omega) only [go_sem, simprocAttr, Blk.men, Blk.keysIn])|exact qM rfl rfl rfl|(refine qG rfl ?_)|(refine qH rfl ?_)|(refine qI rfl ?_ ?_<;>intro hc<;>(try simp only [go_sem] at hc))|(refine qJ ?_ ?_<;>intro hc<;>(try simp only [hc])<;>(try simp only [go_sem] at hc)))
 refine call_c (c122 b l hl g fs caps p hp) (by decide) ?_
 repeat' (first|(with_reducible first|apply qA|apply qB|apply qC|apply qD|apply qE|apply qF)|(simp (disch:=omega) only [go_sem, simprocAttr, Blk.men, Blk.keysIn])|exact qM rfl rfl rfl|(refine qG rfl ?_)|(refine qH rfl ?_)|(refine qI rfl ?_ ?_<;>intro hc<;>(try simp only [go_sem] at hc))|(refine qJ ?_ ?_<;>intro hc<;>(try simp only [hc])<;>(try simp only [go_sem] at hc)))
 refine retS_of rfl ?_ rfl; simp only [oneD, St.op, get, Nat.reduceEqDiff, ↓reduceIte, Option.getD_some, bD, dI]
 rw [idxI_any]
def wthn (lo hi : Int) (l : List Int) : Bool := !(l.any fun n => decide (n < lo) || decide (hi < n))
theorem crW1 (n lo hi : Int) (p q : Bool) : DCall Tryd.prog 124 [dI n, .c (.ro p [.v (.int .i64 lo)] 0), .c (.ro q [.v (.int .i64 hi)] 0)] [] (bD (decide (n < lo) || decide (hi < n))) [] := by
 refine DCall.of Tryd.func124 sf124 hb124 (Nat.le_of_ble_eq_true rfl) (okRes_nil fun _ => rfl) ?_; simp only [s124, idxs, Nat.reduceAdd]
 repeat' (first|(with_reducible first|apply qA|apply qB|apply qC|apply qD|apply qE|apply qF)|(simp (disch:=omega) only [go_sem, simprocAttr, Blk.men, Blk.keysIn])|exact qM rfl rfl rfl|(refine qG rfl ?_)|(refine qH rfl ?_)|(refine qI rfl ?_ ?_<;>intro hc<;>(try simp only [go_sem] at hc))|(refine qJ ?_ ?_<;>intro hc<;>(try simp only [hc])<;>(try simp only [go_sem] at hc)))
theorem crWithin (b : Bool) (lo hi : Int) (l : List Int) (hl : l.length ≤ 2 ^ 36) : DCall Tryd.prog 98 [dI lo, dI hi, dIs b l] [] (bD (wthn lo hi l)) [] := by
 refine DCall.of Tryd.func98 sf98 hb98 (Nat.le_of_ble_eq_true rfl) (okRes_nil fun _ => rfl) ?_; simp only [s98, idxs, Nat.reduceAdd]
 repeat' (first|(with_reducible first|apply qA|apply qB|apply qC|apply qD|apply qE|apply qF)|(simp (disch:=omega) only [go_sem, simprocAttr, Blk.men, Blk.keysIn])|exact qM rfl rfl rfl|(refine qG rfl ?_)|(refine qH rfl ?_)|(refine qI rfl ?_ ?_<;>intro hc<;>(try simp only [go_sem] at hc))|(refine qJ ?_ ?_<;>intro hc<;>(try simp only [hc])<;>(try simp only [go_sem] at hc)))
 (refine call_c (c110 b l hl 124 [] [.ro true [.v (.int .i64 lo)] 0, .ro true [.v (.int .i64 hi)] 0] (fun n => decide (n < lo) || decide (hi < n)) (fun x _ => crW1 x lo hi true true)) (by decide) ?_; simp (disch:=omega) only [go_sem,simprocAttr,Blk.men,Blk.keysIn])
 repeat' (first|(with_reducible first|apply qA|apply qB|apply qC|apply qD|apply qE|apply qF)|(simp (disch:=omega) only [go_sem, simprocAttr, Blk.men, Blk.keysIn])|exact qM rfl rfl rfl|(refine qG rfl ?_)|(refine qH rfl ?_)|(refine qI rfl ?_ ?_<;>intro hc<;>(try simp only [go_sem] at hc))|(refine qJ ?_ ?_<;>intro hc<;>(try simp only [hc])<;>(try simp only [go_sem] at hc)))
theorem wthn_yes {lo hi : Int} {l : List Int} (h : ∀ v ∈ l, lo ≤ v ∧ v ≤ hi) : wthn lo hi l = true := by
 simp only [wthn, Bool.not_eq_true', List.any_eq_false, Bool.or_eq_true, decide_eq_true_eq]
 intro v hv
 have := h v hv
 omega
def spanOk (lo hi least most : Int) : Bool := wthn least most [lo, hi] && decide (lo ≤ hi)
theorem spanOk_yes {lo hi least most : Int} (h : least ≤ lo ∧ lo ≤ hi ∧ hi ≤ most) : spanOk lo hi least most = true := by
 unfold spanOk
 rw [wthn_yes (by simp; omega), decide_eq_true h.2.1]; rfl
theorem crSpanG (lo hi least most : Int) : DCall Tryd.prog 97 [.agg [dI lo, dI hi], dI least, dI most] [] (bD (spanOk lo hi least most)) [] := by
 have h1 := crWithin true least most [lo, hi] (by simp)
 unfold spanOk
 cases h : wthn least most [lo, hi] <;> rw [h] at h1 <;> simp only [Bool.true_and, Bool.false_and]
 ·refine DCall.of Tryd.func97 sf97 hb97 (Nat.le_of_ble_eq_true rfl) (okRes_nil fun _ => rfl) ?_; simp only [s97, idxs, Nat.reduceAdd]
  repeat' (first|(with_reducible first|apply qA|apply qB|apply qC|apply qD|apply qE|apply qF)|(simp (disch:=omega) only [go_sem, simprocAttr, Blk.men, Blk.keysIn])|exact qM rfl rfl rfl|(refine qG rfl ?_)|(refine qK (h1) (by decide) ?_)|(refine qH rfl ?_)|(refine qI rfl ?_ ?_<;>intro hc<;>(try simp only [go_sem] at hc))|(refine qJ ?_ ?_<;>intro hc<;>(try simp only [hc])<;>(try simp only [go_sem] at hc)))
 ·refine DCall.of Tryd.func97 sf97 hb97 (Nat.le_of_ble_eq_true rfl) (okRes_nil fun _ => rfl) ?_; simp only [s97, idxs, Nat.reduceAdd]
  repeat' (first|(with_reducible first|apply qA|apply qB|apply qC|apply qD|apply qE|apply qF)|(simp (disch:=omega) only [go_sem, simprocAttr, Blk.men, Blk.keysIn])|exact qM rfl rfl rfl|(refine qG rfl ?_)|(refine qK (h1) (by decide) ?_)|(refine qH rfl ?_)|(refine qI rfl ?_ ?_<;>intro hc<;>(try simp only [go_sem] at hc))|(refine qJ ?_ ?_<;>intro hc<;>(try simp only [hc])<;>(try simp only [go_sem] at hc)))
end Go.Dw.Seat.Cr
end
section
set_option linter.unusedSimpArgs false
set_option maxRecDepth 100000
namespace Go.Dw.Seat.Cr
open Go Go.Dw Go.Proofs Go.IntWalk
structure CR where
 tests : Int
 mean : Int
 low : Int
 bad : Int
abbrev dCR (r : CR) : D := .agg [dI r.tests, dI r.mean, dI r.low, dI r.bad]
structure CLot where
 off : Int
 made : Int
 ws : Int
 wb : Int
 bs : Int
 bb : Int
abbrev dLot (r : CR) (l : CLot) : D := .agg [dI r.tests, dI r.mean, dI r.low, dI r.bad, dI l.off, dI l.made, dI l.ws, dI l.wb, dI l.bs, dI l.bb]
attribute [go_sem] dCR dLot
def lowT (off x : Int) : Int := if 0 < x - off then x - off else 0
def highT (off x : Int) : Int := if x + off < 100000 then x + off else 100000
def CLot.after (r : CR) (l : CLot) (x : Int) : CLot :=
 ⟨l.off, l.made + 1, l.ws + lowT l.off x, if lowT l.off x < r.low then l.wb + 1 else l.wb, l.bs + highT l.off x, if highT l.off x < r.low then l.bb + 1 else l.bb⟩
structure CLot.ok (l : CLot) : Prop where
 off : 0 ≤ l.off ∧ l.off ≤ 1000
 made : 0 ≤ l.made ∧ l.made ≤ 100
 ws : 0 ≤ l.ws ∧ l.ws ≤ 100000 * l.made
 wb : 0 ≤ l.wb ∧ l.wb ≤ l.made
 bs : 0 ≤ l.bs ∧ l.bs ≤ 100000 * l.made
 bb : 0 ≤ l.bb ∧ l.bb ≤ l.made
end Go.Dw.Seat.Cr
end
section
set_option linter.unusedSimpArgs false
set_option maxRecDepth 100000
namespace Go.Dw.Seat.Cr
open Go Go.Dw Go.Proofs Go.IntWalk
theorem mulB0 {a b A B : Int} (ha : 0 ≤ a ∧ a ≤ A) (hb : 0 ≤ b ∧ b ≤ B) : 0 ≤ a * b ∧ a * b ≤ A * B := by
 refine ⟨Int.mul_nonneg ha.1 hb.1, ?_⟩
 exact Int.le_trans (Int.mul_le_mul_of_nonneg_right ha.2 hb.1) (Int.mul_le_mul_of_nonneg_left hb.2 (Int.le_trans ha.1 ha.2))
end Go.Dw.Seat.Cr
end
section
set_option linter.unusedSimpArgs false
set_option maxRecDepth 100000
namespace Go.Dw.Seat.Cr
open Go Go.Dw Go.Proofs Go.IntWalk
theorem crSpan (lo hi least most : Int) (h : least ≤ lo ∧ lo ≤ hi ∧ hi ≤ most) : DCall Tryd.prog 97 [.agg [dI lo, dI hi], dI least, dI most] [] (bD true) [] := by
 have := crSpanG lo hi least most
 rwa [spanOk_yes h] at this
theorem crIn (b : Bool) (lo hi : Int) (l : List Int) (hl : l.length ≤ 2 ^ 36) (h : ∀ v ∈ l, lo ≤ v ∧ v ≤ hi) : DCall Tryd.prog 98 [dI lo, dI hi, dIs b l] [] (bD true) [] := by
 have := crWithin b lo hi l hl
 rwa [wthn_yes h] at this
theorem closeDs_mapc' {σ : St} {mv : Option Nat} {caps : List C} : closeDs σ mv (caps.map D.c) = some (caps.map D.c) := by
 have := @closeDs_fn _ σ mv [] caps []
 simpa [closeDs] using this
theorem ud3 : Tryd.prog.underlying 3 = some (.int .i64) := by kernel_rfl
theorem ud96 : Tryd.prog.underlying 102 = some (.int .u64) := by kernel_rfl
theorem srSearch (n r : Int) (h : 0 ≤ r ∧ r ≤ n ∧ n ≤ 1099511627776) (g : FuncId) (caps : List C) (hp : ∀ k, 0 ≤ k → k < n → DCall Tryd.prog g (dI k :: caps.map D.c) [] (bD (decide (r ≤ k))) []) : DCall Tryd.prog 125 [dI n, .c (.fn (.func g) [] caps)] [] (dI r) [] := by
 refine DCall.of Tryd.func125 sf125 hb125 (Nat.le_of_ble_eq_true rfl) (okRes_nil fun _ => rfl) ?_; simp only [s125, idxs, Nat.reduceAdd]
 repeat' (first|(with_reducible first|apply qA|apply qB|apply qC|apply qD|apply qE|apply qF)|(simp (disch:=omega) only [go_sem, simprocAttr, Blk.men, Blk.keysIn])|exact qM rfl rfl rfl|(refine qG rfl ?_)|(refine qH rfl ?_)|(refine qI rfl ?_ ?_<;>intro hc<;>(try simp only [go_sem] at hc))|(refine qJ ?_ ?_<;>intro hc<;>(try simp only [hc])<;>(try simp only [go_sem] at hc)))
 refine DW.loop (ι := { s : Int × Int // 0 ≤ s.1 ∧ s.1 ≤ r ∧ r ≤ s.2 ∧ s.2 ≤ n }) (fun s => ⟨26, [(6, dI s.1.2), (5, dI s.1.1), (1, .c (.fn (.func g) [] caps))], []⟩) (fun s => (s.1.2 - s.1.1).toNat) ⟨(0, n), Int.le_refl _, h.1, h.2.1, Int.le_refl _⟩ ?_ ?_
 ·refine Ent.to ?_ ?_ <;> simp (disch:=omega) only [qR,qS,qTw,qU,get,Nat.reduceEqDiff,↓reduceIte,qV,qW,qX,qY,qZ,and_self,dI,i64_in,and_true,true_and,rA,rB,rC,rD]
 rintro ⟨⟨i, j⟩, i1, i2, i3, i4⟩
 dsimp only at i1 i2 i3 i4 ⊢
 rcases Int.lt_or_le i j with hij | hij
 ·have hd : decide (i < j) = true := decide_eq_true hij
  have hcall := hp ((i + j) / 2) (by omega) (by omega)
  have hw1 : IntKind.u64.wrap (i + j) = i + j := IntWalk.u64_in _ (by omega)
  have hsh : shrI IntKind.u64 (i + j) 1 = (i + j) / 2 := by
   have : shrI IntKind.u64 (i + j) 1 = (i + j).fdiv 2 := rfl
   rw [this, Int.fdiv_eq_ediv_of_nonneg _ (by decide)]
  repeat' (first|(with_reducible first|apply qA|apply qB|apply qC|apply qD|apply qE|apply qF)|(simp (disch:=omega) only [go_sem, simprocAttr, Blk.men, Blk.keysIn, hd, closeDs_mapc', ud3, ud96, hw1, hsh])|exact qM rfl rfl rfl|(refine qG rfl ?_)|(refine qH rfl ?_)|(refine qI rfl ?_ ?_<;>intro hc<;>(try simp only [go_sem] at hc))|(refine qJ ?_ ?_<;>intro hc<;>(try simp only [hc])<;>(try simp only [go_sem] at hc)))
  refine call_c hcall (by decide) ?_
  cases hr : decide (r ≤ (i + j) / 2) with
  | true =>
   have hr' : r ≤ (i + j) / 2 := of_decide_eq_true hr
   simp (disch:=omega) only [go_sem,simprocAttr,Blk.men,Blk.keysIn]
   repeat' (first|(with_reducible first|apply qA|apply qB|apply qC|apply qD|apply qE|apply qF)|(simp (disch:=omega) only [go_sem, simprocAttr, Blk.men, Blk.keysIn])|exact qM rfl rfl rfl|(refine qG rfl ?_)|(refine qH rfl ?_)|(refine qI rfl ?_ ?_<;>intro hc<;>(try simp only [go_sem] at hc))|(refine qJ ?_ ?_<;>intro hc<;>(try simp only [hc])<;>(try simp only [go_sem] at hc)))
   refine ⟨⟨(i, (i + j) / 2), i1, i2, hr', by dsimp only; omega⟩, ?_, Ent.to ?_ ?_⟩ <;> first | (show _ < _; (try simp only); omega) | (simp (disch:=omega) only [qR,qS,qTw,qU,get,Nat.reduceEqDiff,↓reduceIte,qV,qW,qX,qY,qZ,and_self,dI,i64_in,and_true,true_and,rA,rB,rC,rD])
  | false =>
   have hr' : ¬ r ≤ (i + j) / 2 := of_decide_eq_false hr
   simp (disch:=omega) only [go_sem,simprocAttr,Blk.men,Blk.keysIn]
   repeat' (first|(with_reducible first|apply qA|apply qB|apply qC|apply qD|apply qE|apply qF)|(simp (disch:=omega) only [go_sem, simprocAttr, Blk.men, Blk.keysIn])|exact qM rfl rfl rfl|(refine qG rfl ?_)|(refine qH rfl ?_)|(refine qI rfl ?_ ?_<;>intro hc<;>(try simp only [go_sem] at hc))|(refine qJ ?_ ?_<;>intro hc<;>(try simp only [hc])<;>(try simp only [go_sem] at hc)))
   refine ⟨⟨((i + j) / 2 + 1, j), by dsimp only; omega, by dsimp only; omega, i3, i4⟩, ?_, Ent.to ?_ ?_⟩ <;> first | (show _ < _; (try simp only); omega) | (simp (disch:=omega) only [qR,qS,qTw,qU,get,Nat.reduceEqDiff,↓reduceIte,qV,qW,qX,qY,qZ,and_self,dI,i64_in,and_true,true_and,rA,rB,rC,rD])
 ·obtain rfl : i = r := by omega
  have hd : decide (i < j) = false := by rw [decide_eq_false_iff_not]; omega
  repeat' (first|(with_reducible first|apply qA|apply qB|apply qC|apply qD|apply qE|apply qF)|(simp (disch:=omega) only [go_sem, simprocAttr, Blk.men, Blk.keysIn, hd])|exact qM rfl rfl rfl|(refine qG rfl ?_)|(refine qH rfl ?_)|(refine qI rfl ?_ ?_<;>intro hc<;>(try simp only [go_sem] at hc))|(refine qJ ?_ ?_<;>intro hc<;>(try simp only [hc])<;>(try simp only [go_sem] at hc)))
structure IsRoot (n r : Int) : Prop where
 pos : 0 ≤ r
 low : r * r ≤ n
 high : n < (r + 1) * (r + 1)
theorem sq_mono {a b : Int} (ha : 0 ≤ a) (h : a ≤ b) : a * a ≤ b * b := Int.mul_le_mul h h ha (by omega)
theorem IsRoot.le {n r k : Int} (h : IsRoot n r) (hk : 0 ≤ k) : (n < (k + 1) * (k + 1)) ↔ r ≤ k := by
 constructor
 ·intro h1
  rcases Int.lt_or_le k r with h2 | h2
  ·have := sq_mono (a := k + 1) (b := r) (by omega) (by omega)
   have := h.low
   omega
  ·exact h2
 ·intro h1
  have := sq_mono (a := r + 1) (b := k + 1) (by have := h.pos; omega) (by omega)
  have := h.high
  omega
theorem IsRoot.self {n r : Int} (h : IsRoot n r) : r ≤ n := by
 have h1 := h.low
 have h2 := h.pos
 rcases Int.lt_or_le r 1 with h3 | h3
 ·have : r = 0 := by omega
  subst this; omega
 ·have := Int.mul_le_mul_of_nonneg_left h3 h2
  omega
theorem IsRoot.mono {n n' r r' : Int} (h : IsRoot n r) (h' : IsRoot n' r') (hn : n ≤ n') : r ≤ r' :=
 (h.le h'.pos).1 (by have := h'.high; omega)
theorem IsRoot.lt {n r : Int} (h : IsRoot n r) (hn : n ≤ 200000000) : r ≤ 14142 := by
 rcases Int.lt_or_le 14142 r with h1 | h1
 ·have := sq_mono (a := 14143) (b := r) (by decide) (by omega)
  have := h.low
  omega
 ·exact h1
theorem crRoot1 (b : Bool) (n k : Int) (hk : 0 ≤ k ∧ k ≤ 1000000000) : DCall Tryd.prog 126 [dI k, .c (.ro b [.v (.int .i64 n)] 0)] [] (bD (decide (n < (k + 1) * (k + 1)))) [] := by
 have hm := mulB0 (a := k + 1) (b := k + 1) (A := 1000000001) (B := 1000000001) (by omega) (by omega)
 refine DCall.of Tryd.func126 sf126 hb126 (Nat.le_of_ble_eq_true rfl) (okRes_nil fun _ => rfl) ?_; simp only [s126, idxs, Nat.reduceAdd]
 repeat' (first|(with_reducible first|apply qA|apply qB|apply qC|apply qD|apply qE|apply qF)|(simp (disch:=omega) only [go_sem, simprocAttr, Blk.men, Blk.keysIn])|exact qM rfl rfl rfl|(refine qG rfl ?_)|(refine qH rfl ?_)|(refine qI rfl ?_ ?_<;>intro hc<;>(try simp only [go_sem] at hc))|(refine qJ ?_ ?_<;>intro hc<;>(try simp only [hc])<;>(try simp only [go_sem] at hc)))
theorem crRoot (n r : Int) (h : IsRoot n r) (hn : n ≤ 200000000) : DCall Tryd.prog 100 [dI n] [] (dI r) [] := by
 have hs := h.self
 have hp := h.pos
 have h1 := srSearch (n + 1) r ⟨h.pos, by omega, by omega⟩ 126 [.ro true [.v (.int .i64 n)] 0] (fun k hk hkn => by
  have := crRoot1 true n k ⟨hk, by omega⟩
  rwa [decide_eq_decide.2 (h.le hk)] at this)
 refine DCall.of Tryd.func100 sf100 hb100 (Nat.le_of_ble_eq_true rfl) (okRes_nil fun _ => rfl) ?_; simp only [s100, idxs, Nat.reduceAdd]
 repeat' (first|(with_reducible first|apply qA|apply qB|apply qC|apply qD|apply qE|apply qF)|(simp (disch:=omega) only [go_sem, simprocAttr, Blk.men, Blk.keysIn])|exact qM rfl rfl rfl|(refine qG rfl ?_)|(refine qK (h1) (by decide) ?_)|(refine qH rfl ?_)|(refine qI rfl ?_ ?_<;>intro hc<;>(try simp only [go_sem] at hc))|(refine qJ ?_ ?_<;>intro hc<;>(try simp only [hc])<;>(try simp only [go_sem] at hc)))
theorem crStrong1 (b : Bool) (x0 x1 x2 x3 around rule e c r : Int) (he : 0 ≤ e ∧ e ≤ 100000) (hc : 1 ≤ c ∧ c ≤ 10000) (ha : 1 ≤ around ∧ around ≤ 20000) (hu : 1 ≤ rule ∧ rule ≤ 1000) (hr : IsRoot (c * around) r) :
  DCall Tryd.prog 99 [dI e, dI c, .c (.ro b [.v (.int .i64 x0), .v (.int .i64 x1), .v (.int .i64 x2), .v (.int .i64 x3), .v (.int .i64 around), .v (.int .i64 rule)] 0)] [] (dI ((e * r * rule).tdiv 100000)) [] := by
 have m1 := mulB0 (a := c) (b := around) (A := 10000) (B := 20000) (by omega) (by omega)
 have hr1 := hr.lt (by omega)
 have m2 := mulB0 (a := e) (b := r) (A := 100000) (B := 14142) he ⟨hr.pos, hr1⟩
 have m3 := mulB0 (a := e * r) (b := rule) (A := 1414200000) (B := 1000) (by omega) (by omega)
 have hroot := crRoot (c * around) r hr (by omega)
 have hq : 0 ≤ (e * r * rule).tdiv 100000 ∧ (e * r * rule).tdiv 100000 ≤ 1414200000000 := by
  rw [Int.tdiv_eq_ediv_of_nonneg (by omega)]; omega
 refine DCall.of Tryd.func99 sf99 hb99 (Nat.le_of_ble_eq_true rfl) (okRes_nil fun _ => rfl) ?_; simp only [s99, idxs, Nat.reduceAdd]
 repeat' (first|(with_reducible first|apply qA|apply qB|apply qC|apply qD|apply qE|apply qF)|(refine qL rfl (WF.of ?_) ?_; first|rfl|skip)|(simp (disch:=omega) only [go_sem, simprocAttr, Blk.men, Blk.keysIn])|exact qM rfl rfl rfl|(refine qG rfl ?_)|(refine qK (hroot) (by decide) ?_)|(refine qH rfl ?_)|(refine qI rfl ?_ ?_<;>intro hc<;>(try simp only [go_sem] at hc))|(refine qJ ?_ ?_<;>intro hc<;>(try simp only [hc])<;>(try simp only [go_sem] at hc)))
structure CBox where
 el : Int
 eh : Int
 cl : Int
 ch : Int
 around : Int
 rule : Int
structure CBox.ok (b : CBox) : Prop where
 edge : 0 ≤ b.el ∧ b.el ≤ b.eh ∧ b.eh ≤ 100000
 cal : 1 ≤ b.cl ∧ b.cl ≤ b.ch ∧ b.ch ≤ 10000
 around : 1 ≤ b.around ∧ b.around ≤ 20000
 rule : 1 ≤ b.rule ∧ b.rule ≤ 1000
abbrev dCBox (b : CBox) : D := .agg [dI b.el, dI b.eh, dI b.cl, dI b.ch, dI b.around, dI b.rule]
attribute [go_sem] dCBox
theorem crStrength (b : CBox) (h : b.ok) (rl rh : Int) (hl : IsRoot (b.cl * b.around) rl) (hh : IsRoot (b.ch * b.around) rh) :
  DCall Tryd.prog 55 [dCBox b] [] (.tup [.agg [dI ((b.el * rl * b.rule).tdiv 100000), dI ((b.eh * rh * b.rule).tdiv 100000)], dI 0]) [] := by
 have h1 := crSpan b.el b.eh 0 100000 h.edge
 have h2 := crSpan b.cl b.ch 1 10000 h.cal
 have h3 := crIn true 1 20000 [b.around] (by simp) (by simpa using h.around)
 have h4 := crIn true 1 1000 [b.rule] (by simp) (by simpa using h.rule)
 have e := h.edge
 have c := h.cal
 have h5 := crStrong1 true b.el b.eh b.cl b.ch b.around b.rule b.el b.cl rl (by omega) (by omega) h.around h.rule hl
 have h6 := crStrong1 true b.el b.eh b.cl b.ch b.around b.rule b.eh b.ch rh (by omega) (by omega) h.around h.rule hh
 refine DCall.of Tryd.func55 sf55 hb55 (Nat.le_of_ble_eq_true rfl) (okRes_nil fun _ => rfl) ?_; simp only [s55, idxs, Nat.reduceAdd]
 repeat' (first|(with_reducible first|apply qA|apply qB|apply qC|apply qD|apply qE|apply qF)|(refine qL rfl (WF.of ?_) ?_; first|rfl|skip)|(simp (disch:=omega) only [go_sem, simprocAttr, Blk.men, Blk.keysIn])|exact qM rfl rfl rfl|(refine qG rfl ?_)|(refine qK (h1) (by decide) ?_)|(refine qK (h2) (by decide) ?_)|(refine qK (h3) (by decide) ?_)|(refine qK (h4) (by decide) ?_)|(refine qK (h5) (by decide) ?_)|(refine qK (h6) (by decide) ?_)|(refine qH rfl ?_)|(refine qI rfl ?_ ?_<;>intro hc<;>(try simp only [go_sem] at hc))|(refine qJ ?_ ?_<;>intro hc<;>(try simp only [hc])<;>(try simp only [go_sem] at hc)))
end Go.Dw.Seat.Cr
end
section
set_option linter.unusedSimpArgs false
set_option maxRecDepth 100000
namespace Go.Dw.Seat.Cr
open Go Go.Dw Go.Proofs Go.IntWalk
structure Lod where
 sl : Int
 sh : Int
 wl : Int
 wh : Int
def eLd (b : Lod) : List C := [.v (.int .i64 b.sl), .v (.int .i64 b.sh), .v (.int .i64 b.wl), .v (.int .i64 b.wh)]
theorem eLd_nb (v : Lod) : C.nbs (eLd v) = true := rfl
def eK (t : Int × Int) : List C := [.v (.int .i64 t.1), .v (.int .i64 t.2)]
theorem eK_nb (v : Int × Int) : C.nbs (eK v) = true := rfl
attribute [go_sem] eLd eK
structure Lod.ok (b : Lod) : Prop where
 strong : 0 ≤ b.sl ∧ b.sl ≤ b.sh ∧ b.sh ≤ 20000000
 weight : 0 ≤ b.wl ∧ b.wl ≤ b.wh ∧ b.wh ≤ 100000
def lodOk (b : Lod) : Bool := spanOk b.sl b.sh 0 20000000 && spanOk b.wl b.wh 0 100000
theorem lodOk_yes {b : Lod} (h : b.ok) : lodOk b = true := by
 simp only [lodOk, spanOk_yes h.strong, spanOk_yes h.weight, Bool.and_self]
theorem crBoxG (b : Lod) : DCall Tryd.prog 101 [.agg ((eLd b).map D.c)] [] (bD (!lodOk b)) [] := by
 have h1 := crSpanG b.sl b.sh 0 20000000
 have h2 := crSpanG b.wl b.wh 0 100000
 unfold lodOk
 cases e1 : spanOk b.sl b.sh 0 20000000 <;> rw [e1] at h1 <;> simp only [Bool.true_and, Bool.false_and, Bool.not_false]
 ·refine DCall.of Tryd.func101 sf101 hb101 (Nat.le_of_ble_eq_true rfl) (okRes_nil fun _ => rfl) ?_; simp only [s101, idxs, Nat.reduceAdd]
  repeat' (first|(with_reducible first|apply qA|apply qB|apply qC|apply qD|apply qE|apply qF)|(simp (disch:=omega) only [go_sem, simprocAttr, Blk.men, Blk.keysIn, rF, rG])|exact qM rfl rfl rfl|(refine qG rfl ?_)|(refine qK (h1) (by decide) ?_)|(refine qH rfl ?_)|(refine qI rfl ?_ ?_<;>intro hc<;>(try simp only [go_sem] at hc))|(refine qJ ?_ ?_<;>intro hc<;>(try simp only [hc])<;>(try simp only [go_sem] at hc)))
 ·refine DCall.of Tryd.func101 sf101 hb101 (Nat.le_of_ble_eq_true rfl) (okRes_nil fun _ => rfl) ?_; simp only [s101, idxs, Nat.reduceAdd]
  repeat' (first|(with_reducible first|apply qA|apply qB|apply qC|apply qD|apply qE|apply qF)|(simp (disch:=omega) only [go_sem, simprocAttr, Blk.men, Blk.keysIn, rF, rG])|exact qM rfl rfl rfl|(refine qG rfl ?_)|(refine qK (h1) (by decide) ?_)|(refine qK (h2) (by decide) ?_)|(refine qH rfl ?_)|(refine qI rfl ?_ ?_<;>intro hc<;>(try simp only [go_sem] at hc))|(refine qJ ?_ ?_<;>intro hc<;>(try simp only [hc])<;>(try simp only [go_sem] at hc)))
theorem crLIdx (b : Bool) (l : List (Lod)) (hl : l.length ≤ 2 ^ 36) (g : FuncId) (fs caps : List C) (p : Lod → Bool) (hp : ∀ x ∈ l, DCall Tryd.prog g (fs.map D.c ++ [.agg ((eLd x).map D.c)] ++ caps.map D.c) [] (bD (p x)) []) : DCall Tryd.prog 127 [.c (.sl b 4 (rows eLd l)), .c (.fn (.func g) fs caps)] [] (dI (idxI p l)) [] := by
 refine DCall.of Tryd.func127 sf127 hb127 (Nat.le_of_ble_eq_true rfl) (okRes_nil fun _ => rfl) ?_; simp only [s127, idxs, Nat.reduceAdd]
 repeat' (first|(with_reducible first|apply qA|apply qB|apply qC|apply qD|apply qE|apply qF)|(simp (disch:=omega) only [go_sem, simprocAttr, Blk.men, Blk.keysIn])|exact qM rfl rfl rfl|(refine qG rfl ?_)|(refine qH rfl ?_)|(refine qI rfl ?_ ?_<;>intro hc<;>(try simp only [go_sem] at hc))|(refine qJ ?_ ?_<;>intro hc<;>(try simp only [hc])<;>(try simp only [go_sem] at hc)))
 refine DW.loop (ι := { i : Nat // i ≤ l.length ∧ ∀ j u, j < i → l[j]? = some u → p u = false }) (fun i => ⟨19, [(8, dI i.1), (7, dI l.length), (1, .c (.fn (.func g) fs caps)), (0, .c (.sl b 4 (rows eLd l)))], []⟩) (fun i => l.length - i.1) ⟨0, Nat.zero_le _, fun j u h => by omega⟩ ?_ ?_
 ·refine Ent.to ?_ ?_ <;> simp (disch:=omega) only [qR,qS,qTw,qU,get,Nat.reduceEqDiff,↓reduceIte,qV,qW,qX,qY,qZ,and_self,dI,i64_in,and_true,true_and,rA,rB,rC,rD]
 rintro ⟨i, hi, hij⟩
 rcases at_or l i hi with ⟨v, hv, hlt, hd⟩ | ⟨he, hd⟩
 ·have hcall := hp v (List.mem_of_getElem? hv)
  repeat' (first|(with_reducible first|apply qA|apply qB|apply qC|apply qD|apply qE|apply qF)|(simp (disch:=omega) only [go_sem, simprocAttr, Blk.men, Blk.keysIn, hd, hv, closeDs_fn, rF, rG])|exact qM rfl rfl rfl|(refine qG rfl ?_)|(refine qH rfl ?_)|(refine qI rfl ?_ ?_<;>intro hc<;>(try simp only [go_sem] at hc))|(refine qJ ?_ ?_<;>intro hc<;>(try simp only [hc])<;>(try simp only [go_sem] at hc)))
  refine call_c hcall (by decide) ?_
  simp (disch:=omega) only [go_sem,simprocAttr,Blk.men,Blk.keysIn]
  refine DW.cond rfl ?_ ?_ <;> intro hc
  ·repeat' (first|(with_reducible first|apply qA|apply qB|apply qC|apply qD|apply qE|apply qF)|(simp (disch:=omega) only [go_sem, simprocAttr, Blk.men, Blk.keysIn])|exact qM rfl rfl rfl|(refine qG rfl ?_)|(refine qH rfl ?_)|(refine qI rfl ?_ ?_<;>intro hc<;>(try simp only [go_sem] at hc))|(refine qJ ?_ ?_<;>intro hc<;>(try simp only [hc])<;>(try simp only [go_sem] at hc)))
   refine retS_of rfl ?_ rfl; simp only [oneD, St.op, get, Nat.reduceEqDiff, ↓reduceIte, Option.getD_some, bD, dI]
   simp only [idxI, idxOf_some hij hv hc]
  ·repeat' (first|(with_reducible first|apply qA|apply qB|apply qC|apply qD|apply qE|apply qF)|(simp (disch:=omega) only [go_sem, simprocAttr, Blk.men, Blk.keysIn])|exact qM rfl rfl rfl|(refine qG rfl ?_)|(refine qH rfl ?_)|(refine qI rfl ?_ ?_<;>intro hc<;>(try simp only [go_sem] at hc))|(refine qJ ?_ ?_<;>intro hc<;>(try simp only [hc])<;>(try simp only [go_sem] at hc)))
   refine ⟨⟨i + 1, by omega, fun j u hj hu => by
    rcases Nat.lt_or_ge j i with h | h
    ·exact hij j u h hu
    ·have : j = i := by omega
     subst this
     rw [hv] at hu; cases hu; exact hc⟩, ?_, Ent.to ?_ ?_⟩ <;> first | (show _ < _; (try simp only); omega) | (simp (disch:=omega) only [qR,qS,qTw,qU,get,Nat.reduceEqDiff,↓reduceIte,qV,qW,qX,qY,qZ,and_self,dI,i64_in,and_true,true_and,rA,rB,rC,rD])
 ·repeat' (first|(with_reducible first|apply qA|apply qB|apply qC|apply qD|apply qE|apply qF)|(simp (disch:=omega) only [go_sem, simprocAttr, Blk.men, Blk.keysIn, hd])|exact qM rfl rfl rfl|(refine qG rfl ?_)|(refine qH rfl ?_)|(refine qI rfl ?_ ?_<;>intro hc<;>(try simp only [go_sem] at hc))|(refine qJ ?_ ?_<;>intro hc<;>(try simp only [hc])<;>(try simp only [go_sem] at hc)))
  refine retS_of rfl ?_ rfl; simp only [oneD, St.op, get, Nat.reduceEqDiff, ↓reduceIte, Option.getD_some, bD, dI]
  simp only [idxI, idxOf_none (he ▸ hij)]
theorem crLCon (b : Bool) (l : List (Lod)) (hl : l.length ≤ 2 ^ 36) (g : FuncId) (fs caps : List C) (p : Lod → Bool) (hp : ∀ x ∈ l, DCall Tryd.prog g (fs.map D.c ++ [.agg ((eLd x).map D.c)] ++ caps.map D.c) [] (bD (p x)) []) : DCall Tryd.prog 102 [.c (.sl b 4 (rows eLd l)), .c (.fn (.func g) fs caps)] [] (bD (l.any p)) [] := by
 refine DCall.of Tryd.func102 sf102 hb102 (Nat.le_of_ble_eq_true rfl) (okRes_nil fun _ => rfl) ?_; simp only [s102, idxs, Nat.reduceAdd]
 repeat' (first|(with_reducible first|apply qA|apply qB|apply qC|apply qD|apply qE|apply qF)|(simp (disch:=omega) only [go_sem, simprocAttr, Blk.men, Blk.keysIn])|exact qM rfl rfl rfl|(refine qG rfl ?_)|(refine qH rfl ?_)|(refine qI rfl ?_ ?_<;>intro hc<;>(try simp only [go_sem] at hc))|(refine qJ ?_ ?_<;>intro hc<;>(try simp only [hc])<;>(try simp only [go_sem] at hc)))
 refine call_c (crLIdx b l hl g fs caps p hp) (by decide) ?_
 repeat' (first|(with_reducible first|apply qA|apply qB|apply qC|apply qD|apply qE|apply qF)|(simp (disch:=omega) only [go_sem, simprocAttr, Blk.men, Blk.keysIn])|exact qM rfl rfl rfl|(refine qG rfl ?_)|(refine qH rfl ?_)|(refine qI rfl ?_ ?_<;>intro hc<;>(try simp only [go_sem] at hc))|(refine qJ ?_ ?_<;>intro hc<;>(try simp only [hc])<;>(try simp only [go_sem] at hc)))
 refine retS_of rfl ?_ rfl; simp only [oneD, St.op, get, Nat.reduceEqDiff, ↓reduceIte, Option.getD_some, bD, dI]
 rw [idxI_any]
def boxesE (l : List Lod) (most : Int) : Int := if most < l.length then 5 else if l.any (fun b => !lodOk b) then 2 else 0
theorem crBoxesG (b : Bool) (l : List Lod) (most : Int) (hl : l.length ≤ 2 ^ 36) : DCall Tryd.prog 57 [.c (.sl b 4 (rows eLd l)), dI most] [] (dI (boxesE l most)) [] := by
 have h1 := crLCon b l hl 101 [] [] (fun b => !lodOk b) (fun x _ => by simpa using crBoxG x)
 unfold boxesE
 by_cases hm : most < (l.length : Int)
 ·have hd : decide (most < (l.length : Int)) = true := decide_eq_true hm
  rw [if_pos hm]
  refine DCall.of Tryd.func57 sf57 hb57 (Nat.le_of_ble_eq_true rfl) (okRes_nil fun _ => rfl) ?_; simp only [s57, idxs, Nat.reduceAdd]
  repeat' (first|(with_reducible first|apply qA|apply qB|apply qC|apply qD|apply qE|apply qF)|(simp (disch:=omega) only [go_sem, simprocAttr, Blk.men, Blk.keysIn, hd])|exact qM rfl rfl rfl|(refine qG rfl ?_)|(refine qH rfl ?_)|(refine qI rfl ?_ ?_<;>intro hc<;>(try simp only [go_sem] at hc))|(refine qJ ?_ ?_<;>intro hc<;>(try simp only [hc])<;>(try simp only [go_sem] at hc)))
 have hd : decide (most < (l.length : Int)) = false := decide_eq_false hm
 rw [if_neg hm]
 cases e : l.any (fun b => !lodOk b) <;> rw [e] at h1
 ·rw [if_neg (by decide)]
  refine DCall.of Tryd.func57 sf57 hb57 (Nat.le_of_ble_eq_true rfl) (okRes_nil fun _ => rfl) ?_; simp only [s57, idxs, Nat.reduceAdd]
  repeat' (first|(with_reducible first|apply qA|apply qB|apply qC|apply qD|apply qE|apply qF)|(simp (disch:=omega) only [go_sem, simprocAttr, Blk.men, Blk.keysIn, hd])|exact qM rfl rfl rfl|(refine qG rfl ?_)|(refine qK (h1) (by decide) ?_)|(refine qH rfl ?_)|(refine qI rfl ?_ ?_<;>intro hc<;>(try simp only [go_sem] at hc))|(refine qJ ?_ ?_<;>intro hc<;>(try simp only [hc])<;>(try simp only [go_sem] at hc)))
 ·rw [if_pos rfl]
  refine DCall.of Tryd.func57 sf57 hb57 (Nat.le_of_ble_eq_true rfl) (okRes_nil fun _ => rfl) ?_; simp only [s57, idxs, Nat.reduceAdd]
  repeat' (first|(with_reducible first|apply qA|apply qB|apply qC|apply qD|apply qE|apply qF)|(simp (disch:=omega) only [go_sem, simprocAttr, Blk.men, Blk.keysIn, hd])|exact qM rfl rfl rfl|(refine qG rfl ?_)|(refine qK (h1) (by decide) ?_)|(refine qH rfl ?_)|(refine qI rfl ?_ ?_<;>intro hc<;>(try simp only [go_sem] at hc))|(refine qJ ?_ ?_<;>intro hc<;>(try simp only [hc])<;>(try simp only [go_sem] at hc)))
theorem boxesE_yes {l : List Lod} {most : Int} (h1 : (l.length : Int) ≤ most) (h : ∀ x ∈ l, x.ok) : boxesE l most = 0 := by
 unfold boxesE
 rw [if_neg (by omega), if_neg]
 simp only [Bool.not_eq_true, List.any_eq_false, Bool.not_eq_true', Bool.not_eq_false]
 exact fun x hx => lodOk_yes (h x hx)
theorem crBoxes (b : Bool) (l : List Lod) (most : Int) (hl : l.length ≤ 1000) (hm : (l.length : Int) ≤ most) (h : ∀ x ∈ l, x.ok) : DCall Tryd.prog 57 [.c (.sl b 4 (rows eLd l)), dI most] [] (dI 0) [] := by
 have := crBoxesG b l most (by omega)
 rwa [boxesE_yes hm h] at this
structure TabF (l : List (Int × Int)) : Prop where
 len : 1 ≤ l.length ∧ l.length ≤ 10
 first : ∀ u, l[0]? = some u → u.1 = 0
 mem : ∀ s ∈ l, (0 ≤ s.1 ∧ s.1 ≤ 10000) ∧ (0 ≤ s.2 ∧ s.2 ≤ 1000)
 step : ∀ (i : Nat) (u v : Int × Int), l[i]? = some u → l[i + 1]? = some v → u.1 < v.1 ∧ v.2 ≤ u.2
structure TabOk (l : List (Int × Int)) (days : Int) : Prop extends TabF l where
 days : 0 ≤ days ∧ days ≤ 10000
theorem crTable (l : List (Int × Int)) (days : Int) (h : TabOk l days) : DCall Tryd.prog 59 [.c (.sl false 2 (rows eK l)), dI days] [] (.tup [.agg [.c (.sl false 2 (rows eK l)), dI days], dI 0]) [] := by
 have hlen := h.len
 have h1 := crIn true 1 10 [(l.length : Int)] (by simp) (by simp; omega)
 have h2 := crIn true 0 10000 [days] (by simp) (by simpa using h.days)
 obtain ⟨f, hf⟩ := getE (l := l) (i := 0) (by omega)
 have hf0 := h.first f hf
 have hfe : (f.1 != 0) = false := by rw [hf0]; rfl
 refine DCall.of Tryd.func59 sf59 hb59 (Nat.le_of_ble_eq_true rfl) (okRes_nil fun _ => rfl) ?_; simp only [s59, idxs, Nat.reduceAdd]
 repeat' (first|(with_reducible first|apply qA|apply qB|apply qC|apply qD|apply qE|apply qF)|(refine qL rfl (WF.of ?_) ?_; first|rfl|skip)|(simp (disch:=omega) only [go_sem, simprocAttr, Blk.men, Blk.keysIn, hf, hfe, rF, rG])|exact qM rfl rfl rfl|(refine qG rfl ?_)|(refine qK (h1) (by decide) ?_)|(refine qH rfl ?_)|(refine qI rfl ?_ ?_<;>intro hc<;>(try simp only [go_sem] at hc))|(refine qJ ?_ ?_<;>intro hc<;>(try simp only [hc])<;>(try simp only [go_sem] at hc)))
 refine DW.loop (ι := { i : Nat // i ≤ l.length }) (fun i => ⟨76, [(23, dI i.1), (22, dI l.length), (21, .c (.sl false 2 (rows eK l))), (4, .box 4 0), (0, .c (.sl false 2 (rows eK l))), (1, dI days)], [(4, .box [.c (.v (.slice none 0 0)), dI 0])]⟩) (fun i => l.length - i.1) ⟨0, Nat.zero_le _⟩ ?_ ?_
 ·refine Ent.to ?_ ?_ <;> simp (disch:=omega) only [qR,qS,qTw,qU,get,Nat.reduceEqDiff,↓reduceIte,qV,qW,qX,qY,qZ,and_self,dI,i64_in,and_true,true_and,rA,rB,rC,rD]
 rintro ⟨i, hi⟩
 rcases at_or l i hi with ⟨v, hv, hlt, hd⟩ | ⟨he, hd⟩
 ·have hm := h.mem v (List.mem_of_getElem? hv)
  have h3 := crIn true 0 10000 [v.1] (by simp) (by simpa using hm.1)
  have h4 := crIn true 0 1000 [v.2] (by simp) (by simpa using hm.2)
  rcases i with _ | i
  ·have hd0 : decide ((0 : Int) < ((0 : Nat) : Int)) = false := by decide
   have hd' : decide ((0 : Int) < (l.length : Int)) = true := hd
   repeat' (first|(with_reducible first|apply qA|apply qB|apply qC|apply qD|apply qE|apply qF)|(refine qL rfl (WF.of ?_) ?_; first|rfl|skip)|(simp (disch:=omega) only [go_sem, simprocAttr, Blk.men, Blk.keysIn, hd', hv, hd0, rF, rG])|exact qM rfl rfl rfl|(refine qG rfl ?_)|(refine qK (h3) (by decide) ?_)|(refine qK (h4) (by decide) ?_)|(refine qH rfl ?_)|(refine qI rfl ?_ ?_<;>intro hc<;>(try simp only [go_sem] at hc))|(refine qJ ?_ ?_<;>intro hc<;>(try simp only [hc])<;>(try simp only [go_sem] at hc)))
   refine ⟨⟨1, hlt⟩, ?_, Ent.to ?_ ?_⟩ <;> first | (show _ < _; (try simp only); omega) | (simp (disch:=omega) only [qR,qS,qTw,qU,get,Nat.reduceEqDiff,↓reduceIte,qV,qW,qX,qY,qZ,and_self,dI,i64_in,and_true,true_and,rA,rB,rC,rD])
  ·have hd0 : decide ((0 : Int) < ((i + 1 : Nat) : Int)) = true := by rw [decide_eq_true_eq]; omega
   obtain ⟨u, hu⟩ := getE (l := l) (i := i) (by omega)
   have hs := h.step i u v hu hv
   have e1 : ((i + 1 : Nat) : Int) - 1 = (i : Int) := by omega
   have d1 : decide (v.1 ≤ u.1) = false := by rw [decide_eq_false_iff_not]; omega
   have d2 : decide (u.2 < v.2) = false := by rw [decide_eq_false_iff_not]; omega
   repeat' (first|(with_reducible first|apply qA|apply qB|apply qC|apply qD|apply qE|apply qF)|(refine qL rfl (WF.of ?_) ?_; first|rfl|skip)|(simp (disch:=omega) only [go_sem, simprocAttr, Blk.men, Blk.keysIn, hd, hv, hd0, hu, e1, d1, d2, rF, rG])|exact qM rfl rfl rfl|(refine qG rfl ?_)|(refine qK (h3) (by decide) ?_)|(refine qK (h4) (by decide) ?_)|(refine qH rfl ?_)|(refine qI rfl ?_ ?_<;>intro hc<;>(try simp only [go_sem] at hc))|(refine qJ ?_ ?_<;>intro hc<;>(try simp only [hc])<;>(try simp only [go_sem] at hc)))
   refine ⟨⟨i + 1 + 1, hlt⟩, ?_, Ent.to ?_ ?_⟩ <;> first | (show _ < _; (try simp only); omega) | (simp (disch:=omega) only [qR,qS,qTw,qU,get,Nat.reduceEqDiff,↓reduceIte,qV,qW,qX,qY,qZ,and_self,dI,i64_in,and_true,true_and,rA,rB,rC,rD])
 ·repeat' (first|(with_reducible first|apply qA|apply qB|apply qC|apply qD|apply qE|apply qF)|(refine qL rfl (WF.of ?_) ?_; first|rfl|skip)|(simp (disch:=omega) only [go_sem, simprocAttr, Blk.men, Blk.keysIn, hd])|exact qM rfl rfl rfl|(refine qG rfl ?_)|(refine qK (h2) (by decide) ?_)|(refine qH rfl ?_)|(refine qI rfl ?_ ?_<;>intro hc<;>(try simp only [go_sem] at hc))|(refine qJ ?_ ?_<;>intro hc<;>(try simp only [hc])<;>(try simp only [go_sem] at hc)))
  refine retS_wk rfl ?_ (by simp only [Blk.nb, rowC_nb, D.nb, D.nbs, C.nb, C.nbs, C.nbss, rows_nb eI_nb, Bool.and_true, Bool.not_false, Bool.and_self, bD, dI, iD, rows_nb eK_nb, rows_nb eLd_nb]); exact .tup (.cons (.refl _) (.cons (.refl _) .nil))
def lastI (days : Int) (l : List (Int × Int)) (k : Int) : Int := l.foldl (fun k s => if s.1 ≤ days then s.2 else k) k
theorem lastI_b (days : Int) : ∀ (l : List (Int × Int)) (k : Int), (∀ s ∈ l, 0 ≤ s.2 ∧ s.2 ≤ 1000) → (0 ≤ k ∧ k ≤ 1000) → 0 ≤ lastI days l k ∧ lastI days l k ≤ 1000
 | [], _, _, hk => hk
 | s :: t, k, h, hk => by
  refine lastI_b days t _ (fun x hx => h x (by simp [hx])) ?_
  have := h s (by simp)
  show 0 ≤ (if s.1 ≤ days then s.2 else k) ∧ (if s.1 ≤ days then s.2 else k) ≤ 1000
  split <;> omega
theorem lastI_take (days : Int) {l : List (Int × Int)} {i : Nat} {v : Int × Int} (hv : l[i]? = some v) : lastI days (l.take (i + 1)) 0 = if v.1 ≤ days then v.2 else lastI days (l.take i) 0 := by
 rw [List.take_add_one, hv]
 simp only [lastI, Option.toList_some, List.foldl_append, List.foldl_cons, List.foldl_nil]
theorem tdiv_b {a b : Int} {A : Int} (ha : 0 ≤ a ∧ a ≤ A) (hb : 0 ≤ b) : 0 ≤ a.tdiv b ∧ a.tdiv b ≤ A := by
 rw [Int.tdiv_eq_ediv_of_nonneg ha.1]
 exact ⟨Int.ediv_nonneg ha.1 hb, Int.le_trans (Int.ediv_le_self b ha.1) ha.2⟩
theorem crLast (b : Bool) (l : List (Int × Int)) (days : Int) (hl : l.length ≤ 1000) : DCall Tryd.prog 94 [.agg [.c (.sl b 2 (rows eK l)), dI days]] [] (dI (lastI days l 0)) [] := by
 refine DCall.of Tryd.func94 sf94 hb94 (Nat.le_of_ble_eq_true rfl) (okRes_nil fun _ => rfl) ?_; simp only [s94, idxs, Nat.reduceAdd]
 repeat' (first|(with_reducible first|apply qA|apply qB|apply qC|apply qD|apply qE|apply qF)|(simp (disch:=omega) only [go_sem, simprocAttr, Blk.men, Blk.keysIn])|exact qM rfl rfl rfl|(refine qG rfl ?_)|(refine qH rfl ?_)|(refine qI rfl ?_ ?_<;>intro hc<;>(try simp only [go_sem] at hc))|(refine qJ ?_ ?_<;>intro hc<;>(try simp only [hc])<;>(try simp only [go_sem] at hc)))
 refine DW.loop (ι := { i : Nat // i ≤ l.length }) (fun i => ⟨21, [(8, dI i.1), (7, dI l.length), (6, .c (.sl b 2 (rows eK l))), (2, dI (lastI days (l.take i.1) 0)), (1, .box 1 0)], [(1, .box [.c (.sl b 2 (rows eK l)), dI days])]⟩) (fun i => l.length - i.1) ⟨0, Nat.zero_le _⟩ ?_ ?_
 ·refine Ent.to ?_ ?_ <;> simp (disch:=omega) only [qR,qS,qTw,qU,get,Nat.reduceEqDiff,↓reduceIte,qV,qW,qX,qY,qZ,and_self,dI,i64_in,and_true,true_and,rA,rB,rC,rD,lastI,List.take_zero,List.foldl_nil]
 rintro ⟨i, hi⟩
 rcases at_or l i hi with ⟨v, hv, hlt, hd⟩ | ⟨he, hd⟩
 ·have hnx := lastI_take days hv
  cases hc : decide (v.1 ≤ days) with
  | true =>
   rw [if_pos (of_decide_eq_true hc)] at hnx
   repeat' (first|(with_reducible first|apply qA|apply qB|apply qC|apply qD|apply qE|apply qF)|(simp (disch:=omega) only [go_sem, simprocAttr, Blk.men, Blk.keysIn, hd, hv, hc, rF, rG])|exact qM rfl rfl rfl|(refine qG rfl ?_)|(refine qH rfl ?_)|(refine qI rfl ?_ ?_<;>intro hc<;>(try simp only [go_sem] at hc))|(refine qJ ?_ ?_<;>intro hc<;>(try simp only [hc])<;>(try simp only [go_sem] at hc)))
   refine ⟨⟨i + 1, hlt⟩, ?_, Ent.to ?_ ?_⟩ <;> first | (show _ < _; (try simp only); omega) | (simp (disch:=omega) only [qR,qS,qTw,qU,get,Nat.reduceEqDiff,↓reduceIte,qV,qW,qX,qY,qZ,and_self,dI,i64_in,and_true,true_and,rA,rB,rC,rD, hnx])
  | false =>
   rw [if_neg (of_decide_eq_false hc)] at hnx
   repeat' (first|(with_reducible first|apply qA|apply qB|apply qC|apply qD|apply qE|apply qF)|(simp (disch:=omega) only [go_sem, simprocAttr, Blk.men, Blk.keysIn, hd, hv, hc, rF, rG])|exact qM rfl rfl rfl|(refine qG rfl ?_)|(refine qH rfl ?_)|(refine qI rfl ?_ ?_<;>intro hc<;>(try simp only [go_sem] at hc))|(refine qJ ?_ ?_<;>intro hc<;>(try simp only [hc])<;>(try simp only [go_sem] at hc)))
   refine ⟨⟨i + 1, hlt⟩, ?_, Ent.to ?_ ?_⟩ <;> first | (show _ < _; (try simp only); omega) | (simp (disch:=omega) only [qR,qS,qTw,qU,get,Nat.reduceEqDiff,↓reduceIte,qV,qW,qX,qY,qZ,and_self,dI,i64_in,and_true,true_and,rA,rB,rC,rD, hnx])
 ·repeat' (first|(with_reducible first|apply qA|apply qB|apply qC|apply qD|apply qE|apply qF)|(simp (disch:=omega) only [go_sem, simprocAttr, Blk.men, Blk.keysIn, hd])|exact qM rfl rfl rfl|(refine qG rfl ?_)|(refine qH rfl ?_)|(refine qI rfl ?_ ?_<;>intro hc<;>(try simp only [go_sem] at hc))|(refine qJ ?_ ?_<;>intro hc<;>(try simp only [hc])<;>(try simp only [go_sem] at hc)))
  refine retS_of rfl ?_ rfl; simp only [oneD, St.op, get, Nat.reduceEqDiff, ↓reduceIte, Option.getD_some, bD, dI]
  rw [he, List.take_length]
def bearsI (b : Lod) (k : Int) : Int := (b.sl * k).tdiv 1000
theorem crBears (b : Lod) (h : b.ok) (k : Int) (hk : 0 ≤ k ∧ k ≤ 1000) : DCall Tryd.prog 95 [.agg ((eLd b).map D.c), dI k] [] (dI (bearsI b k)) [] := by
 have hs := h.strong
 have hm := mulB0 (a := b.sl) (b := k) (A := 20000000) (B := 1000) (by omega) hk
 have hq := tdiv_b (b := 1000) (A := 20000000000) (a := b.sl * k) (by omega) (by decide)
 unfold bearsI
 refine DCall.of Tryd.func95 sf95 hb95 (Nat.le_of_ble_eq_true rfl) (okRes_nil fun _ => rfl) ?_; simp only [s95, idxs, Nat.reduceAdd]
 repeat' (first|(with_reducible first|apply qA|apply qB|apply qC|apply qD|apply qE|apply qF)|(simp (disch:=omega) only [go_sem, simprocAttr, Blk.men, Blk.keysIn, rF, rG])|exact qM rfl rfl rfl|(refine qG rfl ?_)|(refine qH rfl ?_)|(refine qI rfl ?_ ?_<;>intro hc<;>(try simp only [go_sem] at hc))|(refine qJ ?_ ?_<;>intro hc<;>(try simp only [hc])<;>(try simp only [go_sem] at hc)))
def highI (b : Lod) (l : List (Int × Int)) (days : Int) : Int := if b.wh = 0 then 50 else if 1 + (bearsI b (lastI days l 0)).tdiv b.wh < 50 then 1 + (bearsI b (lastI days l 0)).tdiv b.wh else 50
theorem crHigh (b : Lod) (h : b.ok) (l : List (Int × Int)) (days : Int) (ht : TabOk l days) : DCall Tryd.prog 56 [.agg ((eLd b).map D.c), .c (.sl false 2 (rows eK l)), dI days] [] (.tup [dI (highI b l days), dI 0]) [] := by
 have h1 := crBoxes true [b] 1 (by simp) (by simp) (by simpa using h)
 have h2 := crTable l days ht
 have h3 := crLast false l days (by have := ht.len; omega)
 have hk := lastI_b days l 0 (fun s hs => (ht.mem s hs).2) (by decide)
 have h4 := crBears b h (lastI days l 0) hk
 have hs := h.strong
 have hw := h.weight
 unfold highI
 have hbb : 0 ≤ bearsI b (lastI days l 0) ∧ bearsI b (lastI days l 0) ≤ 20000000000 := by
  have hm := mulB0 (a := b.sl) (b := lastI days l 0) (A := 20000000) (B := 1000) (by omega) hk
  exact tdiv_b (by omega) (by decide)
 generalize lastI days l 0 = k at *
 generalize bearsI b k = be at *
 by_cases h0 : b.wh = 0
 ·have he : (b.wh == 0) = true := by rw [h0]; rfl
  rw [if_pos h0]
  refine DCall.of Tryd.func56 sf56 hb56 (Nat.le_of_ble_eq_true rfl) (okRes_nil fun _ => rfl) ?_; simp only [s56, idxs, Nat.reduceAdd]
  repeat' (first|(with_reducible first|apply qA|apply qB|apply qC|apply qD|apply qE|apply qF)|(refine qL rfl (WF.of ?_) ?_; first|rfl|skip)|(simp (disch:=omega) only [go_sem, simprocAttr, Blk.men, Blk.keysIn, rF, rG, he])|exact qM rfl rfl rfl|(refine qG rfl ?_)|(refine qK (h1) (by decide) ?_)|(refine qK (h2) (by decide) ?_)|(refine qH rfl ?_)|(refine qI rfl ?_ ?_<;>intro hc<;>(try simp only [go_sem] at hc))|(refine qJ ?_ ?_<;>intro hc<;>(try simp only [hc])<;>(try simp only [go_sem] at hc)))
 ·have he : (b.wh == 0) = false := by rw [beq_eq_false_iff_ne]; exact h0
  have hz : (b.wh = 0) = False := eq_false h0
  have hq := tdiv_b (b := b.wh) hbb (by omega)
  rw [if_neg h0]
  refine DCall.of Tryd.func56 sf56 hb56 (Nat.le_of_ble_eq_true rfl) (okRes_nil fun _ => rfl) ?_; simp only [s56, idxs, Nat.reduceAdd]
  repeat' (first|(with_reducible first|apply qA|apply qB|apply qC|apply qD|apply qE|apply qF)|(refine qL rfl (WF.of ?_) ?_; first|rfl|skip)|(simp (disch:=omega) only [go_sem, simprocAttr, Blk.men, Blk.keysIn, rF, rG, he, hz])|exact qM rfl rfl rfl|(refine qG rfl ?_)|(refine qK (h1) (by decide) ?_)|(refine qK (h2) (by decide) ?_)|(refine qK (h3) (by decide) ?_)|(refine qK (h4) (by decide) ?_)|(refine qH rfl ?_)|(refine qI rfl ?_ ?_<;>intro hc<;>(try simp only [go_sem] at hc))|(refine qJ ?_ ?_<;>intro hc<;>(try simp only [hc])<;>(try simp only [go_sem] at hc)))
end Go.Dw.Seat.Cr
end
section
set_option linter.unusedSimpArgs false
set_option maxRecDepth 100000
namespace Go.Dw.Seat.Cr
open Go Go.Dw Go.Proofs Go.IntWalk
def sumL : List Lod → Int
 | [] => 0
 | b :: t => sumL t + b.wl
def sumH : List Lod → Int
 | [] => 0
 | b :: t => sumH t + b.wh
theorem sum_b : ∀ {l : List Lod}, (∀ b ∈ l, b.ok) → (0 ≤ sumL l ∧ sumL l ≤ 100000 * (l.length : Int)) ∧ 0 ≤ sumH l ∧ sumH l ≤ 100000 * (l.length : Int)
 | [], _ => by simp [sumL, sumH]
 | b :: t, h => by
  have ih := sum_b (l := t) (fun x hx => h x (by simp [hx]))
  have hb := (h b (by simp)).weight
  simp only [sumL, sumH, List.length_cons, Int.natCast_add, Int.natCast_one]
  omega
def failN (k : Int) : List Lod → Option Nat
 | [] => none
 | b :: t => if bearsI b k < sumH t then some 0 else (failN k t).map (· + 1)
theorem bears_mono {b : Lod} (h : b.ok) {k k' : Int} (hk : 0 ≤ k) (hkk : k ≤ k') : bearsI b k ≤ bearsI b k' := by
 have hs := h.strong
 have m1 : 0 ≤ b.sl * k := Int.mul_nonneg hs.1 hk
 have m2 : b.sl * k ≤ b.sl * k' := Int.mul_le_mul_of_nonneg_left hkk hs.1
 unfold bearsI
 rw [Int.tdiv_eq_ediv_of_nonneg m1, Int.tdiv_eq_ediv_of_nonneg (by omega)]
 exact Int.ediv_le_ediv (by decide) m2
theorem bears_b {b : Lod} (h : b.ok) {k : Int} (hk : 0 ≤ k ∧ k ≤ 1000) : 0 ≤ bearsI b k ∧ bearsI b k ≤ 20000000 := by
 have hs := h.strong
 have m1 := mulB0 (a := b.sl) (b := k) (A := 20000000) (B := 1000) (by omega) hk
 unfold bearsI
 rw [Int.tdiv_eq_ediv_of_nonneg (by omega)]
 omega
theorem failN_mono {k k' : Int} (hk : 0 ≤ k) (hkk : k ≤ k') : ∀ {l : List Lod}, (∀ b ∈ l, b.ok) → failN k l = none → failN k' l = none
 | [], _, _ => rfl
 | b :: t, h, hf => by
  simp only [failN] at hf ⊢
  split at hf
  ·cases hf
  ·rename_i h1
   have := bears_mono (h b (by simp)) hk hkk
   rw [if_neg (by omega), failN_mono hk hkk (fun x hx => h x (by simp [hx])) (by simpa using hf)]
   rfl
def AscT : List (Int × Int) → Prop
 | [] => True
 | u :: t => (∀ v ∈ t, u.1 < v.1 ∧ v.2 ≤ u.2) ∧ AscT t
theorem ascT_of : ∀ {l : List (Int × Int)}, (∀ (i : Nat) (u v : Int × Int), l[i]? = some u → l[i + 1]? = some v → u.1 < v.1 ∧ v.2 ≤ u.2) → AscT l
 | [], _ => trivial
 | u :: t, h => by
  have ih := ascT_of (l := t) (fun i a b ha hb => h (i + 1) a b ha hb)
  refine ⟨?_, ih⟩
  rcases t with _ | ⟨w, t⟩
  ·intro v hv; cases hv
  ·have h0 := h 0 u w rfl rfl
   intro v hv
   rcases List.mem_cons.1 hv with rfl | hv
   ·exact h0
   ·have := ih.1 v hv
    omega
theorem TabF.asc {l : List (Int × Int)} (h : TabF l) : AscT l := ascT_of h.step
theorem lastI_cons (day : Int) (s : Int × Int) (t : List (Int × Int)) (k : Int) : lastI day (s :: t) k = lastI day t (if s.1 ≤ day then s.2 else k) := rfl
theorem lastI_past {day : Int} : ∀ {l : List (Int × Int)} {k : Int}, (∀ v ∈ l, day < v.1) → lastI day l k = k
 | [], _, _ => rfl
 | s :: t, k, h => by
  have := h s (by simp)
  rw [lastI_cons, if_neg (by omega)]
  exact lastI_past (fun v hv => h v (by simp [hv]))
theorem lastI_le {day : Int} : ∀ {l : List (Int × Int)} {k : Int}, AscT l → (∀ v ∈ l, v.2 ≤ k) → lastI day l k ≤ k
 | [], _, _, _ => Int.le_refl _
 | s :: t, k, ha, h => by
  have hs := h s (by simp)
  rw [lastI_cons]
  split
  ·have := lastI_le (day := day) (k := s.2) ha.2 (fun v hv => (ha.1 v hv).2)
   omega
  ·exact lastI_le ha.2 (fun v hv => h v (by simp [hv]))
theorem lastI_anti {day days : Int} (hd : day ≤ days) : ∀ {l : List (Int × Int)} {k : Int}, AscT l → (∀ v ∈ l, v.2 ≤ k) → lastI days l k ≤ lastI day l k
 | [], _, _, _ => Int.le_refl _
 | s :: t, k, ha, h => by
  have hs := h s (by simp)
  rw [lastI_cons, lastI_cons]
  by_cases h1 : s.1 ≤ day
  ·rw [if_pos h1, if_pos (by omega)]
   exact lastI_anti hd ha.2 (fun v hv => (ha.1 v hv).2)
  ·rw [if_neg h1]
   have h2 : lastI day t k = k := lastI_past (fun v hv => by have := (ha.1 v hv).1; omega)
   rw [h2]
   split
   ·have := lastI_le (day := days) (k := s.2) ha.2 (fun v hv => (ha.1 v hv).2)
    omega
   ·exact lastI_le ha.2 (fun v hv => h v (by simp [hv]))
def fallT (st : List Lod) (days : Int) : List (Int × Int) → Option (Int × Nat)
 | [] => none
 | s :: t => if days < s.1 then none else match failN s.2 st with
  | some i => some (s.1, i)
  | none => fallT st days t
theorem fall_none {st : List Lod} {days : Int} : ∀ {l : List (Int × Int)}, AscT l → fallT st days l = none → ∀ day k, day ≤ days → failN k st = none → failN (lastI day l k) st = none
 | [], _, _, _, _, _, hk => hk
 | s :: t, ha, hf, day, k, hd, hk => by
  simp only [fallT] at hf
  rw [lastI_cons]
  split at hf
  ·rename_i h1
   rw [if_neg (by omega), lastI_past (fun v hv => by have := (ha.1 v hv).1; omega)]
   exact hk
  ·split at hf
   ·cases hf
   ·rename_i h2
    split
    ·exact fall_none ha.2 hf day s.2 hd h2
    ·exact fall_none ha.2 hf day k hd hk
theorem fall_some {st : List Lod} {days d : Int} {i : Nat} : ∀ {l : List (Int × Int)}, AscT l → fallT st days l = some (d, i) → (d ≤ days ∧ (∃ v ∈ l, v.1 = d)) ∧ (∀ k, failN (lastI d l k) st = some i) ∧ ∀ day k, day < d → failN k st = none → failN (lastI day l k) st = none
 | s :: t, ha, hf => by
  simp only [fallT] at hf
  split at hf
  ·cases hf
  rename_i h1
  split at hf
  ·rename_i j hj
   cases hf
   refine ⟨⟨by omega, s, by simp, rfl⟩, fun k => ?_, fun day k hd hk => ?_⟩
   ·rw [lastI_cons, if_pos (Int.le_refl _), lastI_past (fun v hv => (ha.1 v hv).1)]
    exact hj
   ·rw [lastI_cons, if_neg (by omega), lastI_past (fun v hv => by have := (ha.1 v hv).1; omega)]
    exact hk
  ·rename_i hj
   obtain ⟨⟨h2, v, hv, rfl⟩, h3, h4⟩ := fall_some ha.2 hf
   have hsv := (ha.1 v hv).1
   refine ⟨⟨h2, v, by simp [hv], rfl⟩, fun k => ?_, fun day k hd hk => ?_⟩
   ·rw [lastI_cons]; exact h3 _
   ·rw [lastI_cons]
    split
    ·exact h4 day s.2 hd hj
    ·exact h4 day k hd hk
theorem TabF.head {l : List (Int × Int)} (h : TabF l) : ∃ k t, l = (0, k) :: t ∧ 0 ≤ k ∧ k ≤ 1000 := by
 rcases l with _ | ⟨⟨d, k⟩, t⟩
 ·have := h.len.1; simp at this
 ·have h0 : d = 0 := h.first (d, k) rfl
  subst h0
  exact ⟨k, t, rfl, (h.mem (0, k) (by simp)).2⟩
theorem kept_b {l : List (Int × Int)} (h : TabF l) (day : Int) : 0 ≤ lastI day l 0 ∧ lastI day l 0 ≤ 1000 := lastI_b day l 0 (fun s hs => (h.mem s hs).2) (by decide)
theorem fall_iff {st : List Lod} (hst : ∀ b ∈ st, b.ok) {l : List (Int × Int)} {days : Int} (h : TabOk l days) : fallT st days l = none ↔ failN (lastI days l 0) st = none := by
 obtain ⟨k, t, rfl, hk⟩ := h.head
 have ha := h.asc
 have hd := h.days
 constructor
 ·intro hf
  have h1 := hf
  simp only [fallT] at h1
  rw [if_neg (by omega)] at h1
  split at h1
  ·cases h1
  ·rename_i h2
   rw [lastI_cons, if_pos (by omega)]
   exact fall_none ha.2 h1 days k (Int.le_refl _) h2
 ·intro hl
  cases hf : fallT st days ((0, k) :: t) with
  | none => rfl
  | some p =>
   obtain ⟨d, i⟩ := p
   obtain ⟨⟨h1, v, hv, hvd⟩, h2, _⟩ := fall_some ha hf
   have h3 := h2 0
   have hd0 : 0 ≤ d := by have := (h.mem v hv).1; omega
   have e1 : ∀ day, 0 ≤ day → lastI day ((0, k) :: t) 0 = lastI day t k := fun day h => by rw [lastI_cons, if_pos h]
   rw [e1 d hd0] at h3
   have h5 := (kept_b h.toTabF days).1
   rw [e1 days hd.1] at hl h5
   have h4 := lastI_anti h1 (k := k) ha.2 (fun v hv => (ha.1 v hv).2)
   have := failN_mono h5 h4 hst hl
   rw [h3] at this; cases this
end Go.Dw.Seat.Cr
end
section
set_option linter.unusedSimpArgs false
set_option maxRecDepth 100000
namespace Go.Dw.Seat.Cr
open Go Go.Dw Go.Proofs Go.IntWalk
theorem crBackward (l : List (Lod)) : DCall Tryd.prog 104 [.c (.sl false 4 (rows eLd l))] [] (.fn (.func 128) [] [.c (.ro false [.sl false 4 (rows eLd l)] 0)]) [] := by
 refine DCall.of Tryd.func104 sf104 hb104 (Nat.le_of_ble_eq_true rfl) (okRes_nil fun _ => rfl) ?_; simp only [s104, idxs, Nat.reduceAdd]
 repeat' (first|(with_reducible first|apply qA|apply qB|apply qC|apply qD|apply qE|apply qF)|(simp (disch:=omega) only [go_sem, simprocAttr, qN, qO, qP, qQ])|exact qM rfl rfl rfl|(refine qG rfl ?_)|(refine qH rfl ?_)|(refine qI rfl ?_ ?_<;>intro hc<;>(try simp only [go_sem] at hc))|(refine qJ ?_ ?_<;>intro hc<;>(try simp only [hc])<;>(try simp only [go_sem] at hc)))
 (refine retS_ent (Ent.rel 1 rfl) ?_; simp (disch:=omega) only [go_sem,simprocAttr,qN,qO,qP,qQ])
 refine retS_wk rfl ?_ (by simp only [Blk.nb, rowC_nb, D.nb, D.nbs, C.nb, C.nbs, C.nbss, rows_nb eI_nb, Bool.and_true, Bool.not_false, Bool.and_self, bD, dI, iD, rows_nb eK_nb, rows_nb eLd_nb]); exact .refl _
def backL {α : Type} (l : List α) : List (α × Nat) := l.zipIdx.reverse
theorem backL_nil {α : Type} : backL ([] : List α) = [] := rfl
theorem backL_take {α : Type} (l : List α) (i : Nat) (v : α) (hv : l[i]? = some v) : backL (l.take (i + 1)) = (v, i) :: backL (l.take i) := by
 rw [List.take_add_one, hv]
 have hlt : i < l.length := by
  rcases Nat.lt_or_ge i l.length with h | h
  ·exact h
  ·rw [List.getElem?_eq_none h] at hv; cases hv
 simp only [backL, Option.toList_some, List.zipIdx_append, List.length_take, Nat.min_eq_left (Nat.le_of_lt hlt), List.zipIdx_singleton, List.reverse_append, List.reverse_cons, List.reverse_nil, List.nil_append, List.cons_append, Nat.zero_add]
def enBack (e : Lod × Nat) : List D := [dI e.2, .agg ((eLd e.1).map D.c)]
theorem crBack (l : List (Lod)) (hl : l.length ≤ 1000) (p : Bool) : ItD Tryd.prog 128 [] [.c (.ro p [.sl false 4 (rows eLd l)] 0)] enBack (fun e => l[e.2]? = some e.1) (backL l) := by
 intro ly β H stp live hW hY b0 hl0
 have hH : ∀ b, HidOk (H b) := fun b => (hW b).toHidOk
 refine DCall.of Tryd.func128 sf128 hb128 (Nat.le_of_ble_eq_true rfl) (hH _).res ?_
 simp only [s128, idxs, Nat.reduceAdd, List.map_nil, List.map_cons, List.nil_append, List.cons_append]
 repeat' (first|(with_reducible first|apply qA|apply qB|apply qC|apply qD|apply qE|apply qF)|(simp (disch:=omega) only [go_sem, simprocAttr, qN, qO, qP, qQ])|exact qM rfl rfl rfl|(refine qG rfl ?_)|(refine qH rfl ?_)|(refine qI rfl ?_ ?_<;>intro hc<;>(try simp only [go_sem] at hc))|(refine qJ ?_ ?_<;>intro hc<;>(try simp only [hc])<;>(try simp only [go_sem] at hc)))
 refine DW.loop (ι := { s : Nat × β // s.1 ≤ l.length ∧ live s.2 ∧ runB stp b0 (backL l) = runB stp s.2 (backL (l.take s.1)) })
  (fun s => ⟨19, [(3, dI ((s.1.1 : Int) - 1)), (0, .c (.fn (.yield ly) [] [])), (1, .c (.ro p [.sl false 4 (rows eLd l)] 0))], H s.1.2⟩) (fun s => s.1.1) ⟨(l.length, b0), Nat.le_refl _, hl0, by rw [List.take_length]⟩ ?_ ?_
 ·refine Ent.toT ?_; simp (disch:=omega) only [qR,qS,qTw,qU,get,Nat.reduceEqDiff,↓reduceIte,qV,qW,qX,qY,qZ,and_self,dI,i64_in,and_true,true_and,rA,rB,rC,rD]
 rintro ⟨⟨k, b1⟩, hk, hlv, hrun⟩
 dsimp only at hk hlv hrun
 rcases k with _ | k
 ·have hd : decide ((0 : Int) ≤ ((0 : Nat) : Int) - 1) = false := by decide
  rw [List.take_zero, backL_nil] at hrun
  simp only [runB] at hrun
  repeat' (first|(with_reducible first|apply qA|apply qB|apply qC|apply qD|apply qE|apply qF)|(simp (disch:=omega) only [go_sem, simprocAttr, qN, qO, qP, qQ, hd])|exact qM rfl rfl rfl|(refine qG rfl ?_)|(refine qH rfl ?_)|(refine qI rfl ?_ ?_<;>intro hc<;>(try simp only [go_sem] at hc))|(refine qJ ?_ ?_<;>intro hc<;>(try simp only [hc])<;>(try simp only [go_sem] at hc)))
  rw [hrun]
  exact retS_hid (own := []) (.inr rfl) (hH _) rfl
 ·have e1 : ((k + 1 : Nat) : Int) - 1 = (k : Int) := by omega
  have hd : decide ((0 : Int) ≤ (k : Int)) = true := by rw [decide_eq_true_eq]; omega
  obtain ⟨v, hv⟩ := getE (l := l) (i := k) (by omega)
  rw [backL_take l k v hv] at hrun
  obtain ⟨hyc, hlv4⟩ := hY b1 (v, k) hlv hv
  simp only [runB] at hrun
  dsimp only
  rw [e1]
  repeat' (first|(with_reducible first|apply qA|apply qB|apply qC|apply qD|apply qE|apply qF)|(simp (disch:=omega) only [go_sem, simprocAttr, qN, qO, qP, qQ, hd, hv, rF, rG])|exact qM rfl rfl rfl|(refine qG rfl ?_)|(refine qH rfl ?_)|(refine qI rfl ?_ ?_<;>intro hc<;>(try simp only [go_sem] at hc))|(refine qJ ?_ ?_<;>intro hc<;>(try simp only [hc])<;>(try simp only [go_sem] at hc)))
  refine call_y (own := []) hyc rfl rfl rfl (hH _) (hH _) (by decide) ?_
  cases hs : (stp b1 (v, k)).1 with
  | true =>
   rw [hs] at hrun hlv4
   simp (disch:=omega) only [go_sem,simprocAttr,qN,qO,qP,qQ]
   repeat' (first|(with_reducible first|apply qA|apply qB|apply qC|apply qD|apply qE|apply qF)|(simp (disch:=omega) only [go_sem, simprocAttr, qN, qO, qP, qQ])|exact qM rfl rfl rfl|(refine qG rfl ?_)|(refine qH rfl ?_)|(refine qI rfl ?_ ?_<;>intro hc<;>(try simp only [go_sem] at hc))|(refine qJ ?_ ?_<;>intro hc<;>(try simp only [hc])<;>(try simp only [go_sem] at hc)))
   refine ⟨⟨(k, (stp b1 (v, k)).2), by omega, hlv4 rfl, hrun⟩, by (show _ < _; (try simp only); omega), Ent.toT ?_⟩; simp (disch:=omega) only [qR,qS,qTw,qU,get,Nat.reduceEqDiff,↓reduceIte,qV,qW,qX,qY,qZ,and_self,dI,i64_in,and_true,true_and,rA,rB,rC,rD]
  | false =>
   rw [hs] at hrun
   simp (disch:=omega) only [go_sem,simprocAttr,qN,qO,qP,qQ]
   repeat' (first|(with_reducible first|apply qA|apply qB|apply qC|apply qD|apply qE|apply qF)|(simp (disch:=omega) only [go_sem, simprocAttr, qN, qO, qP, qQ])|exact qM rfl rfl rfl|(refine qG rfl ?_)|(refine qH rfl ?_)|(refine qI rfl ?_ ?_<;>intro hc<;>(try simp only [go_sem] at hc))|(refine qJ ?_ ?_<;>intro hc<;>(try simp only [hc])<;>(try simp only [go_sem] at hc)))
   rw [hrun]
   exact retS_hid (own := []) (.inl rfl) (hH _) rfl
def w64 (n : Int) : Int := IntKind.i64.wrap n
def fallS : Int → Int → List (Lod × Nat) → List (Nat × Int × Int)
 | _, _, [] => []
 | lo, hi, e :: t => (e.2, lo, hi) :: fallS (w64 (lo + e.1.wl)) (w64 (hi + e.1.wh)) t
def enF (e : Nat × Int × Int) : List D := [dI e.1, .agg [dI e.2.1, dI e.2.2]]
def falS {β : Type} (stp : β → Nat × Int × Int → Bool × β) (y : β × Int × Int) (e : Lod × Nat) : Option Exit × (β × Int × Int) :=
 if (stp y.1 (e.2, y.2.1, y.2.2)).1 = true then (none, ((stp y.1 (e.2, y.2.1, y.2.2)).2, w64 (y.2.1 + e.1.wl), w64 (y.2.2 + e.1.wh))) else (some .ret, ((stp y.1 (e.2, y.2.1, y.2.2)).2, y.2))
theorem falS_run {β : Type} (stp : β → Nat × Int × Int → Bool × β) : ∀ (L : List (Lod × Nat)) (b : β) (lo hi : Int),
  ((runIt (falS stp) (b, lo, hi) L).1 = some .ret ∨ (runIt (falS stp) (b, lo, hi) L).1 = none) ∧ (runIt (falS stp) (b, lo, hi) L).2.1 = runB stp b (fallS lo hi L)
 | [], b, lo, hi => ⟨.inr rfl, rfl⟩
 | e :: L, b, lo, hi => by
  simp only [runIt, falS, fallS, runB]
  by_cases hs : (stp b (e.2, lo, hi)).1 = true
  ·simp only [hs, if_true]
   exact falS_run stp L _ _ _
  ·simp [hs]
attribute [go_sem] enBack enF
theorem crFalling (l : List Lod) : DCall Tryd.prog 58 [.c (.sl false 4 (rows eLd l))] [] (.fn (.func 103) [] [.c (.ro false [.sl false 4 (rows eLd l)] 0)]) [] := by
 refine DCall.of Tryd.func58 sf58 hb58 (Nat.le_of_ble_eq_true rfl) (okRes_nil fun _ => rfl) ?_; simp only [s58, idxs, Nat.reduceAdd]
 repeat' (first|(with_reducible first|apply qA|apply qB|apply qC|apply qD|apply qE|apply qF)|(simp (disch:=omega) only [go_sem, simprocAttr, qN, qO, qP, qQ])|exact qM rfl rfl rfl|(refine qG rfl ?_)|(refine qH rfl ?_)|(refine qI rfl ?_ ?_<;>intro hc<;>(try simp only [go_sem] at hc))|(refine qJ ?_ ?_<;>intro hc<;>(try simp only [hc])<;>(try simp only [go_sem] at hc)))
 (refine retS_ent (Ent.rel 1 rfl) ?_; simp (disch:=omega) only [go_sem,simprocAttr,qN,qO,qP,qQ])
 refine retS_wk rfl ?_ (by simp only [Blk.nb, rowC_nb, D.nb, D.nbs, C.nb, C.nbs, C.nbss, rows_nb eI_nb, Bool.and_true, Bool.not_false, Bool.and_self, bD, dI, iD, rows_nb eK_nb, rows_nb eLd_nb]); exact .refl _
set_option maxHeartbeats 1000000 in
theorem crFall1 (l : List Lod) (hl : l.length ≤ 1000) (p : Bool) : ItD Tryd.prog 103 [] [.c (.ro p [.sl false 4 (rows eLd l)] 0)] enF (fun e => e.1 < l.length) (fallS 0 0 (backL l)) := by
 intro ly β H stp live hW hY b0 hl0
 have hH : ∀ b, HidOk (H b) := fun b => (hW b).toHidOk
 have hb := crBackward l
 have hit := crBack l hl false
 refine DCall.of Tryd.func103 sf103 hb103 (Nat.le_of_ble_eq_true rfl) (hH _).res ?_
 simp only [s103, idxs, Nat.reduceAdd, List.map_nil, List.map_cons, List.nil_append, List.cons_append]
 have f1 := hid_get (hH b0)
 have f2 := hid_ins (hH b0)
 have f3 := (hH b0).men
 have f4 := (hH b0).lo
 have f5 : ∀ k x, k < 1000 → ins k x (H b0) = H b0 ++ [(k, x)] := fun k x hk => by have := f2 k hk x []; rwa [List.append_nil] at this
 repeat' (first|(with_reducible first|apply qA|apply qB|apply qC|apply qD|apply qE|apply qF)|(simp (disch:=omega) only [go_sem, simprocAttr, qN, qO, qP, qQ, f1, f2, f3, f4, f5, ins])|exact qM rfl rfl rfl|(refine qG rfl ?_)|(refine qK (hb) (by decide) ?_)|(refine qH rfl ?_)|(refine qI rfl ?_ ?_<;>intro hc<;>(try simp only [go_sem] at hc))|(refine qJ ?_ ?_<;>intro hc<;>(try simp only [hc])<;>(try simp only [go_sem] at hc)))
 refine DW.ent (Ent.comm (hH b0) rfl).1 ?_
 refine DW.ent (σ' := ⟨28, [(7, .fn (.func 128) [] [.c (.ro false [.sl false 4 (rows eLd l)] 0)]), (3, .box 3 0), (2, .box 2 0)], [(3, .box [dI 0, dI 0]), (2, .box [.c (.fn (.yield ly) [] [])])] ++ H b0⟩) ?_ ?_
 ·refine Ent.toH (hH b0) rfl ?_ ?_ <;> simp (disch:=omega) only [qR,qS,qTw,qU,get,Nat.reduceEqDiff,↓reduceIte,qV,qW,qX,qY,qZ,and_self,dI,i64_in,and_true,true_and,rA,rB,rC,rD]
 refine DW.rngD (fs := []) (caps := [.c (.ro false [.sl false 4 (rows eLd l)] 0)]) rfl (fun _ => ⟨rfl, rfl⟩) (fun y : β × Int × Int => [(3, .box [dI y.2.1, dI y.2.2]), (2, .box [.c (.fn (.yield ly) [] [])])] ++ H y.1) (b0, 0, 0) rfl (falS stp) enBack (fun e => l[e.2]? = some e.1) (backL l) hit (fun y => live y.1) hl0 ?_ (by decide) (fun _ _ => rfl) (fun _ _ _ => rfl) (by simp only [List.map_cons, List.map_nil]; decide) ?_ ?_ ?_ ?_ ?_ ?_ ?_
 ·rintro ⟨b, lo, hi⟩ ⟨s, i⟩ hiv hs h1
  have hlt : i < l.length := (List.getElem?_eq_some_iff.1 hs).1
  simp only [falS] at h1 ⊢
  dsimp only at hiv
  split at h1
  ·rename_i hc
   rw [if_pos hc]
   exact (hY b (i, lo, hi) hiv hlt).2 hc
  ·cases h1
 ·intro y
  show get 999 (H y.1) = none
  exact (hH y.1).lo 999 (by decide)
 ·intro y
  have := (hW y.1).app2 (3, Blk.box [dI y.2.1, dI y.2.2]) (2, .box [.c (.fn (.yield ly) [] [])])
  simp only [List.cons_append, List.nil_append, wfB, List.all_cons, List.all_nil, this, Bool.and_true]
  rfl
 ·intro y j x hj
  rw [get_app] at hj
  cases hg : get j [(3, Blk.box [dI y.2.1, dI y.2.2]), (2, .box [.c (.fn (.yield ly) [] [])])] with
  | none => rw [hg] at hj; exact (hH y.1).nb j x hj
  | some x' =>
   rw [hg] at hj; cases hj
   have := get_mem hg
   simp only [List.mem_cons, Prod.mk.injEq, List.not_mem_nil, or_false] at this
   rcases this with ⟨_, rfl⟩ | ⟨_, rfl⟩ <;> rfl
 ·intro p hp
  simp only [List.mem_cons, List.not_mem_nil, or_false] at hp
  rcases hp with rfl | rfl | rfl
  ·simp only [D.nb, D.nbs, C.nb, C.nbs, rows_nb eLd_nb, Bool.and_self, Bool.not_false]
  ·rfl
  ·rfl
 ·intro y e
  simp only [falS]
  split <;> rfl
 ·rintro ⟨b, lo, hi⟩ hiv ⟨s, i⟩ hs v
  have hlt : i < l.length := (List.getElem?_eq_some_iff.1 hs).1
  dsimp only at hiv hs
  obtain ⟨hyc, hlv⟩ := hY b (i, lo, hi) hiv hlt
  have g1 := hid_get (hH b)
  have g2 := hid_ins (hH b)
  have g3 := (hH b).men
  have g4 := (hH b).lo
  refine DW.ent (Ent.swap ((hH b).lo 999 (by decide))).1 ?_
  have hS : falS stp (b, lo, hi) (s, i) = if (stp b (i, lo, hi)).1 = true then (none, ((stp b (i, lo, hi)).2, w64 (lo + s.wl), w64 (hi + s.wh))) else (some .ret, ((stp b (i, lo, hi)).2, lo, hi)) := rfl
  cases hc : (stp b (i, lo, hi)).1 with
  | true =>
   rw [hc, if_pos rfl] at hS
   rw [hc] at hyc
   rw [hS]
   simp (disch:=omega) only [go_sem,simprocAttr,qN,qO,qP,qQ,rF,rG,g3,g4]
   repeat' (first|(with_reducible first|apply qA|apply qB|apply qC|apply qD|apply qE|apply qF)|(simp (disch:=omega) only [go_sem, simprocAttr, qN, qO, qP, qQ, rF, rG, g3, g4])|exact qM rfl rfl rfl|(refine qG rfl ?_)|(refine qH rfl ?_)|(refine qI rfl ?_ ?_<;>intro hc<;>(try simp only [go_sem] at hc))|(refine qJ ?_ ?_<;>intro hc<;>(try simp only [hc])<;>(try simp only [go_sem] at hc)))
   refine call_y (own := [_, _, _, _]) hyc rfl rfl rfl (hH _) (hH _) (by decide) ?_
   simp (disch:=omega) only [go_sem,simprocAttr,qN,qO,qP,qQ]
   repeat' (first|(with_reducible first|apply qA|apply qB|apply qC|apply qD|apply qE|apply qF)|(simp (disch:=omega) only [go_sem, simprocAttr, qN, qO, qP, qQ])|exact qM rfl rfl rfl|(refine qG rfl ?_)|(refine qH rfl ?_)|(refine qI rfl ?_ ?_<;>intro hc<;>(try simp only [go_sem] at hc))|(refine qJ ?_ ?_<;>intro hc<;>(try simp only [hc])<;>(try simp only [go_sem] at hc)))
   refine round_end rfl rfl (Ent.trans ?_ (Ent.swap (o := [(3, Blk.box [dI (w64 (lo + s.wl)), dI (w64 (hi + s.wh))]), (2, Blk.box [D.c (C.fn (Fn.yield ly) [] [])])]) (c := capB v [(7, D.fn (Fn.func 128) [] [D.c (C.ro false [C.sl false 4 (rows eLd l)] 0)]), (3, D.box 3 0), (2, D.box 2 0)]) ((hH (stp b (i, lo, hi)).2).lo 999 (by decide))).2)
   refine Ent.toH (o := [_, _, _, _]) (o' := [_, _, _]) (hH _) ?_ ?_ ?_
   ·rfl
   ·simp (disch:=omega) only [qR,qS,qTw,qU,get,Nat.reduceEqDiff,↓reduceIte,qV,qW,qX,qY,qZ,and_self,dI,i64_in,and_true,true_and,rA,rB,rC,rD,capB]
   ·simp (disch:=omega) only [qR,qS,qTw,qU,get,Nat.reduceEqDiff,↓reduceIte,qV,qW,qX,qY,qZ,and_self,dI,i64_in,and_true,true_and,rA,rB,rC,rD,capB,w64]
  | false =>
   rw [hc, if_neg (by decide)] at hS
   rw [hc] at hyc
   rw [hS]
   simp (disch:=omega) only [go_sem,simprocAttr,qN,qO,qP,qQ,rF,rG,g3,g4]
   repeat' (first|(with_reducible first|apply qA|apply qB|apply qC|apply qD|apply qE|apply qF)|(simp (disch:=omega) only [go_sem, simprocAttr, qN, qO, qP, qQ, rF, rG, g3, g4])|exact qM rfl rfl rfl|(refine qG rfl ?_)|(refine qH rfl ?_)|(refine qI rfl ?_ ?_<;>intro hc<;>(try simp only [go_sem] at hc))|(refine qJ ?_ ?_<;>intro hc<;>(try simp only [hc])<;>(try simp only [go_sem] at hc)))
   refine call_y (own := [_, _, _, _]) hyc rfl rfl rfl (hH _) (hH _) (by decide) ?_
   simp (disch:=omega) only [go_sem,simprocAttr,qN,qO,qP,qQ]
   repeat' (first|(with_reducible first|apply qA|apply qB|apply qC|apply qD|apply qE|apply qF)|(simp (disch:=omega) only [go_sem, simprocAttr, qN, qO, qP, qQ])|exact qM rfl rfl rfl|(refine qG rfl ?_)|(refine qH rfl ?_)|(refine qI rfl ?_ ?_<;>intro hc<;>(try simp only [go_sem] at hc))|(refine qJ ?_ ?_<;>intro hc<;>(try simp only [hc])<;>(try simp only [go_sem] at hc)))
   refine round_end rfl rfl (Ent.trans ?_ (Ent.swap (o := [(3, Blk.box [dI lo, dI hi]), (2, Blk.box [D.c (C.fn (Fn.yield ly) [] [])])]) (c := capB v [(7, D.fn (Fn.func 128) [] [D.c (C.ro false [C.sl false 4 (rows eLd l)] 0)]), (3, D.box 3 0), (2, D.box 2 0)]) ((hH (stp b (i, lo, hi)).2).lo 999 (by decide))).2)
   refine Ent.toH (o := [_, _, _, _]) (o' := [_, _, _]) (hH _) ?_ ?_ ?_
   ·rfl
   ·simp (disch:=omega) only [qR,qS,qTw,qU,get,Nat.reduceEqDiff,↓reduceIte,qV,qW,qX,qY,qZ,and_self,dI,i64_in,and_true,true_and,rA,rB,rC,rD,capB]
   ·simp (disch:=omega) only [qR,qS,qTw,qU,get,Nat.reduceEqDiff,↓reduceIte,qV,qW,qX,qY,qZ,and_self,dI,i64_in,and_true,true_and,rA,rB,rC,rD,capB]
 ·have hrs := falS_run stp (backL l) b0 0 0
  generalize runIt (falS stp) (b0, 0, 0) (backL l) = R at *
  obtain ⟨o, b, lo, hi⟩ := R
  dsimp only at hrs ⊢
  rw [← hrs.2]
  rcases hrs.1 with rfl | rfl
  ·simp (disch:=omega) only [go_sem,simprocAttr,qN,qO,qP,qQ,Option.getD_some]
   exact retS_hid (own := [_, _]) (.inl rfl) (hH _) rfl
  ·simp (disch:=omega) only [go_sem,simprocAttr,qN,qO,qP,qQ,Option.getD_none]
   exact retS_hid (own := [_, _]) (.inr rfl) (hH _) rfl
end Go.Dw.Seat.Cr
end
