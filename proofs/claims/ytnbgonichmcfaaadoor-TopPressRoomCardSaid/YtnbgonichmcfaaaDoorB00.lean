/- Helpers of a proof. -/
import Derived.Test.YtnbgonichmcfaaaDoorW46
import Derived.Test.YtnbgonichmcfaaaDoorProg
set_option linter.unusedVariables false
set_option linter.unusedSimpArgs false
section
namespace Go.Dw.Seat
open Go Go.Dw Go.Proofs
def tab64 : List Value := [0, 1, 56, 2, 57, 49, 28, 3, 61, 58, 42, 50, 38, 29, 17, 4, 62, 47, 59, 36, 45, 43, 51, 22, 53, 39, 33, 30, 24, 18, 12, 5, 63, 55, 48, 27, 60, 41, 37, 16, 46, 35, 44, 21, 52, 32, 23, 11, 54, 26, 40, 15, 34, 20, 31, 10, 25, 14, 19, 9, 13, 8, 7, 6].map (fun n => Value.int .u8 n)
instance laysI : Lays := ⟨[(1, tab64)]⟩
theorem lays_l : (Lays.l : List (Nat × List Value)) = [(1, tab64)] := rfl
attribute [go_sem] lays_l
theorem el0 : elemI Tryd.prog 0 = none := by kernel_rfl
theorem ty1 : tyI Tryd.prog 1 = some ⟨false, 1, [.nilFunc], 8⟩ := by kernel_rfl
theorem el1 : elemI Tryd.prog 1 = none := by kernel_rfl
theorem ty2 : tyI Tryd.prog 2 = some ⟨false, 1, [(.int .i64 0)], 8⟩ := by kernel_rfl
theorem el2 : elemI Tryd.prog 2 = none := by kernel_rfl
theorem it2 : intI Tryd.prog 2 = some .i64 := by kernel_rfl
theorem ty3 : tyI Tryd.prog 3 = some ⟨false, 1, [(.int .i64 0)], 8⟩ := by kernel_rfl
theorem el3 : elemI Tryd.prog 3 = none := by kernel_rfl
theorem it3 : intI Tryd.prog 3 = some .i64 := by kernel_rfl
theorem ty4 : tyI Tryd.prog 4 = some ⟨false, 1, [(.bool false)], 1⟩ := by kernel_rfl
theorem el4 : elemI Tryd.prog 4 = none := by kernel_rfl
theorem bl4 : blI Tryd.prog 4 = true := by kernel_rfl
theorem ty5 : tyI Tryd.prog 5 = some ⟨false, 1, [(.int .u8 0)], 1⟩ := by kernel_rfl
theorem el5 : elemI Tryd.prog 5 = none := by kernel_rfl
theorem it5 : intI Tryd.prog 5 = some .u8 := by kernel_rfl
theorem ty6 : tyI Tryd.prog 6 = some ⟨false, 1, [(.int .u8 0)], 1⟩ := by kernel_rfl
theorem el6 : elemI Tryd.prog 6 = none := by kernel_rfl
theorem it6 : intI Tryd.prog 6 = some .u8 := by kernel_rfl
theorem ty7 : tyI Tryd.prog 7 = some ⟨true, 4, [(.int .i64 0), (.int .i64 0), (.bool false), (.int .u8 0)], 24⟩ := by kernel_rfl
theorem el7 : elemI Tryd.prog 7 = none := by kernel_rfl
theorem eq7 : eqTy Tryd.prog 7 = some (.st [(0, 1, .it), (1, 1, .it), (2, 1, .bl), (3, 1, .it)]) := by kernel_rfl
theorem pl7 : placesI Tryd.prog 7 = some [(0, 1), (1, 1), (2, 1), (3, 1)] := by kernel_rfl
theorem fi7_0 : fieldI Tryd.prog 7 0 = some (0, 1, false) := by kernel_rfl
theorem fi7_1 : fieldI Tryd.prog 7 1 = some (1, 1, false) := by kernel_rfl
theorem fi7_2 : fieldI Tryd.prog 7 2 = some (2, 1, false) := by kernel_rfl
theorem fi7_3 : fieldI Tryd.prog 7 3 = some (3, 1, false) := by kernel_rfl
theorem ty8 : tyI Tryd.prog 8 = some ⟨true, 4, [(.int .i64 0), (.int .i64 0), (.bool false), (.int .u8 0)], 24⟩ := by kernel_rfl
theorem el8 : elemI Tryd.prog 8 = none := by kernel_rfl
theorem eq8 : eqTy Tryd.prog 8 = some (.st [(0, 1, .it), (1, 1, .it), (2, 1, .bl), (3, 1, .it)]) := by kernel_rfl
theorem pl8 : placesI Tryd.prog 8 = some [(0, 1), (1, 1), (2, 1), (3, 1)] := by kernel_rfl
theorem fi8_0 : fieldI Tryd.prog 8 0 = some (0, 1, false) := by kernel_rfl
theorem fi8_1 : fieldI Tryd.prog 8 1 = some (1, 1, false) := by kernel_rfl
theorem fi8_2 : fieldI Tryd.prog 8 2 = some (2, 1, false) := by kernel_rfl
theorem fi8_3 : fieldI Tryd.prog 8 3 = some (3, 1, false) := by kernel_rfl
theorem ty9 : tyI Tryd.prog 9 = some ⟨false, 1, [(.string ⟨#[]⟩)], 16⟩ := by kernel_rfl
theorem el9 : elemI Tryd.prog 9 = none := by kernel_rfl
theorem ty10 : tyI Tryd.prog 10 = some ⟨false, 1, [(.string ⟨#[]⟩)], 16⟩ := by kernel_rfl
theorem el10 : elemI Tryd.prog 10 = none := by kernel_rfl
theorem ty11 : tyI Tryd.prog 11 = some ⟨false, 1, [(.string ⟨#[]⟩)], 16⟩ := by kernel_rfl
theorem el11 : elemI Tryd.prog 11 = none := by kernel_rfl
theorem ty12 : tyI Tryd.prog 12 = some ⟨false, 1, [(.int .u64 0)], 8⟩ := by kernel_rfl
theorem el12 : elemI Tryd.prog 12 = none := by kernel_rfl
theorem it12 : intI Tryd.prog 12 = some .u64 := by kernel_rfl
theorem ty13 : tyI Tryd.prog 13 = some ⟨true, 2, [(.string ⟨#[]⟩), (.int .u64 0)], 24⟩ := by kernel_rfl
theorem el13 : elemI Tryd.prog 13 = none := by kernel_rfl
theorem pl13 : placesI Tryd.prog 13 = some [(0, 1), (1, 1)] := by kernel_rfl
theorem fi13_0 : fieldI Tryd.prog 13 0 = some (0, 1, false) := by kernel_rfl
theorem fi13_1 : fieldI Tryd.prog 13 1 = some (1, 1, false) := by kernel_rfl
theorem ty14 : tyI Tryd.prog 14 = some ⟨true, 2, [(.string ⟨#[]⟩), (.int .u64 0)], 24⟩ := by kernel_rfl
theorem el14 : elemI Tryd.prog 14 = none := by kernel_rfl
theorem pl14 : placesI Tryd.prog 14 = some [(0, 1), (1, 1)] := by kernel_rfl
theorem fi14_0 : fieldI Tryd.prog 14 0 = some (0, 1, false) := by kernel_rfl
theorem fi14_1 : fieldI Tryd.prog 14 1 = some (1, 1, false) := by kernel_rfl
theorem ty15 : tyI Tryd.prog 15 = some ⟨false, 1, [(.pointer none)], 8⟩ := by kernel_rfl
theorem el15 : elemI Tryd.prog 15 = none := by kernel_rfl
theorem ty16 : tyI Tryd.prog 16 = some ⟨false, 1, [(.pointer none)], 8⟩ := by kernel_rfl
theorem el16 : elemI Tryd.prog 16 = none := by kernel_rfl
theorem ty17 : tyI Tryd.prog 17 = some ⟨false, 1, [(.pointer none)], 8⟩ := by kernel_rfl
theorem el17 : elemI Tryd.prog 17 = none := by kernel_rfl
theorem ty18 : tyI Tryd.prog 18 = some ⟨true, 1, [(.pointer none)], 8⟩ := by kernel_rfl
theorem el18 : elemI Tryd.prog 18 = none := by kernel_rfl
theorem pl18 : placesI Tryd.prog 18 = some [(0, 1)] := by kernel_rfl
theorem fi18_0 : fieldI Tryd.prog 18 0 = some (0, 1, false) := by kernel_rfl
theorem ty19 : tyI Tryd.prog 19 = some ⟨true, 1, [(.pointer none)], 8⟩ := by kernel_rfl
theorem el19 : elemI Tryd.prog 19 = none := by kernel_rfl
theorem pl19 : placesI Tryd.prog 19 = some [(0, 1)] := by kernel_rfl
theorem fi19_0 : fieldI Tryd.prog 19 0 = some (0, 1, false) := by kernel_rfl
theorem ty20 : tyI Tryd.prog 20 = some ⟨false, 1, [.nilIface], 16⟩ := by kernel_rfl
theorem el20 : elemI Tryd.prog 20 = none := by kernel_rfl
theorem ty21 : tyI Tryd.prog 21 = some ⟨false, 1, [(.int .i32 0)], 4⟩ := by kernel_rfl
theorem el21 : elemI Tryd.prog 21 = none := by kernel_rfl
theorem it21 : intI Tryd.prog 21 = some .i32 := by kernel_rfl
theorem ty22 : tyI Tryd.prog 22 = some ⟨true, 3, [(.int .u8 0), (.int .u8 0), (.int .u8 0)], 3⟩ := by kernel_rfl
theorem el22 : elemI Tryd.prog 22 = none := by kernel_rfl
theorem ar22 : arrI Tryd.prog 22 = some (3, 5) := by kernel_rfl
theorem pl22 : placesI Tryd.prog 22 = some [(0, 1), (1, 1), (2, 1)] := by kernel_rfl
theorem ty23 : tyI Tryd.prog 23 = some ⟨true, 7, [(.int .u8 0), (.int .u8 0), (.int .u8 0), (.int .u8 0), (.int .u8 0), (.int .u8 0), (.int .u8 0)], 7⟩ := by kernel_rfl
theorem el23 : elemI Tryd.prog 23 = none := by kernel_rfl
theorem ar23 : arrI Tryd.prog 23 = some (7, 5) := by kernel_rfl
theorem pl23 : placesI Tryd.prog 23 = some [(0, 1), (1, 1), (2, 1), (3, 1), (4, 1), (5, 1), (6, 1)] := by kernel_rfl
theorem ty24 : tyI Tryd.prog 24 = some ⟨true, 2, [(.int .u8 0), (.int .u8 0)], 2⟩ := by kernel_rfl
theorem el24 : elemI Tryd.prog 24 = none := by kernel_rfl
theorem ar24 : arrI Tryd.prog 24 = some (2, 5) := by kernel_rfl
theorem pl24 : placesI Tryd.prog 24 = some [(0, 1), (1, 1)] := by kernel_rfl
theorem ty25 : tyI Tryd.prog 25 = some ⟨true, 3, [(.int .i64 0), (.int .i64 0), (.int .i64 0)], 24⟩ := by kernel_rfl
theorem el25 : elemI Tryd.prog 25 = none := by kernel_rfl
theorem eq25 : eqTy Tryd.prog 25 = some (.st [(0, 1, .it), (1, 1, .it), (2, 1, .it)]) := by kernel_rfl
theorem pl25 : placesI Tryd.prog 25 = some [(0, 1), (1, 1), (2, 1)] := by kernel_rfl
theorem fi25_0 : fieldI Tryd.prog 25 0 = some (0, 1, false) := by kernel_rfl
theorem fi25_1 : fieldI Tryd.prog 25 1 = some (1, 1, false) := by kernel_rfl
theorem fi25_2 : fieldI Tryd.prog 25 2 = some (2, 1, false) := by kernel_rfl
theorem ty26 : tyI Tryd.prog 26 = some ⟨true, 3, [(.int .i64 0), (.int .i64 0), (.int .i64 0)], 24⟩ := by kernel_rfl
theorem el26 : elemI Tryd.prog 26 = none := by kernel_rfl
theorem eq26 : eqTy Tryd.prog 26 = some (.st [(0, 1, .it), (1, 1, .it), (2, 1, .it)]) := by kernel_rfl
theorem pl26 : placesI Tryd.prog 26 = some [(0, 1), (1, 1), (2, 1)] := by kernel_rfl
theorem fi26_0 : fieldI Tryd.prog 26 0 = some (0, 1, false) := by kernel_rfl
theorem fi26_1 : fieldI Tryd.prog 26 1 = some (1, 1, false) := by kernel_rfl
theorem fi26_2 : fieldI Tryd.prog 26 2 = some (2, 1, false) := by kernel_rfl
theorem ty27 : tyI Tryd.prog 27 = some ⟨true, 2, [(.int .i64 0), (.int .i64 0)], 16⟩ := by kernel_rfl
theorem el27 : elemI Tryd.prog 27 = none := by kernel_rfl
theorem eq27 : eqTy Tryd.prog 27 = some (.st [(0, 1, .it), (1, 1, .it)]) := by kernel_rfl
theorem pl27 : placesI Tryd.prog 27 = some [(0, 1), (1, 1)] := by kernel_rfl
theorem fi27_0 : fieldI Tryd.prog 27 0 = some (0, 1, false) := by kernel_rfl
theorem fi27_1 : fieldI Tryd.prog 27 1 = some (1, 1, false) := by kernel_rfl
theorem ty28 : tyI Tryd.prog 28 = some ⟨true, 2, [(.int .i64 0), (.int .i64 0)], 16⟩ := by kernel_rfl
theorem el28 : elemI Tryd.prog 28 = none := by kernel_rfl
theorem eq28 : eqTy Tryd.prog 28 = some (.st [(0, 1, .it), (1, 1, .it)]) := by kernel_rfl
theorem pl28 : placesI Tryd.prog 28 = some [(0, 1), (1, 1)] := by kernel_rfl
theorem fi28_0 : fieldI Tryd.prog 28 0 = some (0, 1, false) := by kernel_rfl
theorem fi28_1 : fieldI Tryd.prog 28 1 = some (1, 1, false) := by kernel_rfl
theorem ty29 : tyI Tryd.prog 29 = some ⟨false, 1, [(.int .i64 0)], 8⟩ := by kernel_rfl
theorem el29 : elemI Tryd.prog 29 = none := by kernel_rfl
theorem it29 : intI Tryd.prog 29 = some .i64 := by kernel_rfl
theorem el30 : elemI Tryd.prog 30 = none := by kernel_rfl
theorem ty31 : tyI Tryd.prog 31 = some ⟨false, 1, [.nilFunc], 8⟩ := by kernel_rfl
theorem el31 : elemI Tryd.prog 31 = none := by kernel_rfl
theorem ty32 : tyI Tryd.prog 32 = some ⟨false, 1, [.nilFunc], 8⟩ := by kernel_rfl
theorem el32 : elemI Tryd.prog 32 = none := by kernel_rfl
theorem ty33 : tyI Tryd.prog 33 = some ⟨true, 4, [(.int .i64 0), (.int .i64 0), (.int .i64 0), (.int .i64 0)], 32⟩ := by kernel_rfl
theorem el33 : elemI Tryd.prog 33 = none := by kernel_rfl
theorem eq33 : eqTy Tryd.prog 33 = some (.st [(0, 2, (.st [(0, 1, .it), (1, 1, .it)])), (2, 2, (.st [(0, 1, .it), (1, 1, .it)]))]) := by kernel_rfl
theorem pl33 : placesI Tryd.prog 33 = some [(0, 2), (2, 2)] := by kernel_rfl
theorem fi33_0 : fieldI Tryd.prog 33 0 = some (0, 2, true) := by kernel_rfl
theorem fi33_1 : fieldI Tryd.prog 33 1 = some (2, 2, true) := by kernel_rfl
theorem ty34 : tyI Tryd.prog 34 = some ⟨true, 4, [(.int .i64 0), (.int .i64 0), (.int .i64 0), (.int .i64 0)], 32⟩ := by kernel_rfl
theorem el34 : elemI Tryd.prog 34 = none := by kernel_rfl
theorem eq34 : eqTy Tryd.prog 34 = some (.st [(0, 2, (.st [(0, 1, .it), (1, 1, .it)])), (2, 2, (.st [(0, 1, .it), (1, 1, .it)]))]) := by kernel_rfl
theorem pl34 : placesI Tryd.prog 34 = some [(0, 2), (2, 2)] := by kernel_rfl
theorem fi34_0 : fieldI Tryd.prog 34 0 = some (0, 2, true) := by kernel_rfl
theorem fi34_1 : fieldI Tryd.prog 34 1 = some (2, 2, true) := by kernel_rfl
theorem ty35 : tyI Tryd.prog 35 = some ⟨true, 2, [(.int .i64 0), (.int .i64 0)], 16⟩ := by kernel_rfl
theorem el35 : elemI Tryd.prog 35 = none := by kernel_rfl
theorem eq35 : eqTy Tryd.prog 35 = some (.st [(0, 1, .it), (1, 1, .it)]) := by kernel_rfl
theorem pl35 : placesI Tryd.prog 35 = some [(0, 1), (1, 1)] := by kernel_rfl
theorem fi35_0 : fieldI Tryd.prog 35 0 = some (0, 1, false) := by kernel_rfl
theorem fi35_1 : fieldI Tryd.prog 35 1 = some (1, 1, false) := by kernel_rfl
theorem ty36 : tyI Tryd.prog 36 = some ⟨true, 2, [(.int .i64 0), (.int .i64 0)], 16⟩ := by kernel_rfl
theorem el36 : elemI Tryd.prog 36 = none := by kernel_rfl
theorem eq36 : eqTy Tryd.prog 36 = some (.st [(0, 1, .it), (1, 1, .it)]) := by kernel_rfl
theorem pl36 : placesI Tryd.prog 36 = some [(0, 1), (1, 1)] := by kernel_rfl
theorem fi36_0 : fieldI Tryd.prog 36 0 = some (0, 1, false) := by kernel_rfl
theorem fi36_1 : fieldI Tryd.prog 36 1 = some (1, 1, false) := by kernel_rfl
theorem ty37 : tyI Tryd.prog 37 = some ⟨true, 5, [(.int .i64 0), (.int .i64 0), (.int .i64 0), (.int .i64 0), (.int .i64 0)], 40⟩ := by kernel_rfl
theorem el37 : elemI Tryd.prog 37 = none := by kernel_rfl
theorem eq37 : eqTy Tryd.prog 37 = some (.st [(0, 2, (.st [(0, 1, .it), (1, 1, .it)])), (2, 2, (.st [(0, 1, .it), (1, 1, .it)])), (4, 1, .it)]) := by kernel_rfl
theorem pl37 : placesI Tryd.prog 37 = some [(0, 2), (2, 2), (4, 1)] := by kernel_rfl
theorem fi37_0 : fieldI Tryd.prog 37 0 = some (0, 2, true) := by kernel_rfl
theorem fi37_1 : fieldI Tryd.prog 37 1 = some (2, 2, true) := by kernel_rfl
theorem fi37_2 : fieldI Tryd.prog 37 2 = some (4, 1, false) := by kernel_rfl
theorem ty38 : tyI Tryd.prog 38 = some ⟨true, 5, [(.int .i64 0), (.int .i64 0), (.int .i64 0), (.int .i64 0), (.int .i64 0)], 40⟩ := by kernel_rfl
theorem el38 : elemI Tryd.prog 38 = none := by kernel_rfl
theorem eq38 : eqTy Tryd.prog 38 = some (.st [(0, 2, (.st [(0, 1, .it), (1, 1, .it)])), (2, 2, (.st [(0, 1, .it), (1, 1, .it)])), (4, 1, .it)]) := by kernel_rfl
theorem pl38 : placesI Tryd.prog 38 = some [(0, 2), (2, 2), (4, 1)] := by kernel_rfl
theorem fi38_0 : fieldI Tryd.prog 38 0 = some (0, 2, true) := by kernel_rfl
theorem fi38_1 : fieldI Tryd.prog 38 1 = some (2, 2, true) := by kernel_rfl
theorem fi38_2 : fieldI Tryd.prog 38 2 = some (4, 1, false) := by kernel_rfl
theorem ty39 : tyI Tryd.prog 39 = some ⟨true, 3, [(.int .i64 0), (.int .i64 0), (.int .i64 0)], 24⟩ := by kernel_rfl
theorem el39 : elemI Tryd.prog 39 = none := by kernel_rfl
theorem eq39 : eqTy Tryd.prog 39 = some (.st [(0, 2, (.st [(0, 1, .it), (1, 1, .it)])), (2, 1, .it)]) := by kernel_rfl
theorem pl39 : placesI Tryd.prog 39 = some [(0, 2), (2, 1)] := by kernel_rfl
theorem fi39_0 : fieldI Tryd.prog 39 0 = some (0, 2, true) := by kernel_rfl
theorem fi39_1 : fieldI Tryd.prog 39 1 = some (2, 1, false) := by kernel_rfl
theorem ty40 : tyI Tryd.prog 40 = some ⟨true, 3, [(.int .i64 0), (.int .i64 0), (.int .i64 0)], 24⟩ := by kernel_rfl
theorem el40 : elemI Tryd.prog 40 = none := by kernel_rfl
theorem eq40 : eqTy Tryd.prog 40 = some (.st [(0, 2, (.st [(0, 1, .it), (1, 1, .it)])), (2, 1, .it)]) := by kernel_rfl
theorem pl40 : placesI Tryd.prog 40 = some [(0, 2), (2, 1)] := by kernel_rfl
theorem fi40_0 : fieldI Tryd.prog 40 0 = some (0, 2, true) := by kernel_rfl
theorem fi40_1 : fieldI Tryd.prog 40 1 = some (2, 1, false) := by kernel_rfl
theorem el41 : elemI Tryd.prog 41 = none := by kernel_rfl
theorem ty42 : tyI Tryd.prog 42 = some ⟨false, 1, [.nilFunc], 8⟩ := by kernel_rfl
theorem el42 : elemI Tryd.prog 42 = none := by kernel_rfl
theorem ty43 : tyI Tryd.prog 43 = some ⟨false, 1, [(.slice none 0 0)], 24⟩ := by kernel_rfl
theorem el43 : elemI Tryd.prog 43 = some 3 := by kernel_rfl
theorem el44 : elemI Tryd.prog 44 = none := by kernel_rfl
theorem ty45 : tyI Tryd.prog 45 = some ⟨false, 1, [.nilFunc], 8⟩ := by kernel_rfl
theorem el45 : elemI Tryd.prog 45 = none := by kernel_rfl
theorem ty46 : tyI Tryd.prog 46 = some ⟨false, 1, [(.slice none 0 0)], 24⟩ := by kernel_rfl
theorem el46 : elemI Tryd.prog 46 = some 38 := by kernel_rfl
theorem ty47 : tyI Tryd.prog 47 = some ⟨false, 1, [(.slice none 0 0)], 24⟩ := by kernel_rfl
theorem el47 : elemI Tryd.prog 47 = some 40 := by kernel_rfl
theorem el48 : elemI Tryd.prog 48 = none := by kernel_rfl
theorem ty49 : tyI Tryd.prog 49 = some ⟨false, 1, [.nilFunc], 8⟩ := by kernel_rfl
theorem el49 : elemI Tryd.prog 49 = none := by kernel_rfl
theorem ty50 : tyI Tryd.prog 50 = some ⟨false, 1, [(.slice none 0 0)], 24⟩ := by kernel_rfl
theorem el50 : elemI Tryd.prog 50 = some 34 := by kernel_rfl
theorem ty51 : tyI Tryd.prog 51 = some ⟨false, 1, [.nilFunc], 8⟩ := by kernel_rfl
theorem el51 : elemI Tryd.prog 51 = none := by kernel_rfl
theorem ty52 : tyI Tryd.prog 52 = some ⟨false, 1, [.nilFunc], 8⟩ := by kernel_rfl
theorem el52 : elemI Tryd.prog 52 = none := by kernel_rfl
theorem ty53 : tyI Tryd.prog 53 = some ⟨false, 1, [.nilFunc], 8⟩ := by kernel_rfl
theorem el53 : elemI Tryd.prog 53 = none := by kernel_rfl
theorem ty54 : tyI Tryd.prog 54 = some ⟨false, 1, [(.slice none 0 0)], 24⟩ := by kernel_rfl
theorem el54 : elemI Tryd.prog 54 = some 59 := by kernel_rfl
theorem ty55 : tyI Tryd.prog 55 = some ⟨false, 1, [(.slice none 0 0)], 24⟩ := by kernel_rfl
theorem el55 : elemI Tryd.prog 55 = some 22 := by kernel_rfl
theorem ty56 : tyI Tryd.prog 56 = some ⟨false, 1, [(.slice none 0 0)], 24⟩ := by kernel_rfl
theorem el56 : elemI Tryd.prog 56 = some 5 := by kernel_rfl
theorem ty57 : tyI Tryd.prog 57 = some ⟨true, 3, [(.slice none 0 0), (.slice none 0 0), (.slice none 0 0)], 72⟩ := by kernel_rfl
theorem el57 : elemI Tryd.prog 57 = none := by kernel_rfl
theorem pl57 : placesI Tryd.prog 57 = some [(0, 1), (1, 1), (2, 1)] := by kernel_rfl
theorem fi57_0 : fieldI Tryd.prog 57 0 = some (0, 1, false) := by kernel_rfl
theorem fi57_1 : fieldI Tryd.prog 57 1 = some (1, 1, false) := by kernel_rfl
theorem fi57_2 : fieldI Tryd.prog 57 2 = some (2, 1, false) := by kernel_rfl
theorem ty58 : tyI Tryd.prog 58 = some ⟨true, 3, [(.slice none 0 0), (.slice none 0 0), (.slice none 0 0)], 72⟩ := by kernel_rfl
theorem el58 : elemI Tryd.prog 58 = none := by kernel_rfl
theorem pl58 : placesI Tryd.prog 58 = some [(0, 1), (1, 1), (2, 1)] := by kernel_rfl
theorem fi58_0 : fieldI Tryd.prog 58 0 = some (0, 1, false) := by kernel_rfl
theorem fi58_1 : fieldI Tryd.prog 58 1 = some (1, 1, false) := by kernel_rfl
theorem fi58_2 : fieldI Tryd.prog 58 2 = some (2, 1, false) := by kernel_rfl
theorem ty59 : tyI Tryd.prog 59 = some ⟨true, 6, [(.int .u8 0), (.int .u8 0), (.int .u8 0), (.int .u8 0), (.int .u8 0), (.int .u8 0)], 6⟩ := by kernel_rfl
theorem el59 : elemI Tryd.prog 59 = none := by kernel_rfl
theorem ar59 : arrI Tryd.prog 59 = some (6, 5) := by kernel_rfl
theorem pl59 : placesI Tryd.prog 59 = some [(0, 1), (1, 1), (2, 1), (3, 1), (4, 1), (5, 1)] := by kernel_rfl
theorem ty60 : tyI Tryd.prog 60 = some ⟨false, 1, [(.slice none 0 0)], 24⟩ := by kernel_rfl
theorem el60 : elemI Tryd.prog 60 = some 128 := by kernel_rfl
theorem ty61 : tyI Tryd.prog 61 = some ⟨false, 1, [(.slice none 0 0)], 24⟩ := by kernel_rfl
theorem el61 : elemI Tryd.prog 61 = some 130 := by kernel_rfl
theorem ty62 : tyI Tryd.prog 62 = some ⟨true, 2, [(.slice none 0 0), (.slice none 0 0)], 48⟩ := by kernel_rfl
theorem el62 : elemI Tryd.prog 62 = none := by kernel_rfl
theorem pl62 : placesI Tryd.prog 62 = some [(0, 1), (1, 1)] := by kernel_rfl
theorem fi62_0 : fieldI Tryd.prog 62 0 = some (0, 1, false) := by kernel_rfl
theorem fi62_1 : fieldI Tryd.prog 62 1 = some (1, 1, false) := by kernel_rfl
theorem ty63 : tyI Tryd.prog 63 = some ⟨true, 2, [(.slice none 0 0), (.slice none 0 0)], 48⟩ := by kernel_rfl
theorem el63 : elemI Tryd.prog 63 = none := by kernel_rfl
theorem pl63 : placesI Tryd.prog 63 = some [(0, 1), (1, 1)] := by kernel_rfl
theorem fi63_0 : fieldI Tryd.prog 63 0 = some (0, 1, false) := by kernel_rfl
theorem fi63_1 : fieldI Tryd.prog 63 1 = some (1, 1, false) := by kernel_rfl
theorem ty64 : tyI Tryd.prog 64 = some ⟨false, 1, [.nilFunc], 8⟩ := by kernel_rfl
theorem el64 : elemI Tryd.prog 64 = none := by kernel_rfl
theorem ty65 : tyI Tryd.prog 65 = some ⟨false, 1, [(.slice none 0 0)], 24⟩ := by kernel_rfl
theorem el65 : elemI Tryd.prog 65 = some 75 := by kernel_rfl
theorem ty66 : tyI Tryd.prog 66 = some ⟨true, 2, [(.slice none 0 0), (.slice none 0 0)], 48⟩ := by kernel_rfl
theorem el66 : elemI Tryd.prog 66 = none := by kernel_rfl
theorem pl66 : placesI Tryd.prog 66 = some [(0, 1), (1, 1)] := by kernel_rfl
theorem fi66_0 : fieldI Tryd.prog 66 0 = some (0, 1, false) := by kernel_rfl
theorem fi66_1 : fieldI Tryd.prog 66 1 = some (1, 1, false) := by kernel_rfl
theorem ty67 : tyI Tryd.prog 67 = some ⟨true, 2, [(.slice none 0 0), (.slice none 0 0)], 48⟩ := by kernel_rfl
theorem el67 : elemI Tryd.prog 67 = none := by kernel_rfl
theorem pl67 : placesI Tryd.prog 67 = some [(0, 1), (1, 1)] := by kernel_rfl
theorem fi67_0 : fieldI Tryd.prog 67 0 = some (0, 1, false) := by kernel_rfl
theorem fi67_1 : fieldI Tryd.prog 67 1 = some (1, 1, false) := by kernel_rfl
theorem ty68 : tyI Tryd.prog 68 = some ⟨false, 1, [.nilFunc], 8⟩ := by kernel_rfl
theorem el68 : elemI Tryd.prog 68 = none := by kernel_rfl
theorem el69 : elemI Tryd.prog 69 = none := by kernel_rfl
theorem ty70 : tyI Tryd.prog 70 = some ⟨false, 1, [.nilFunc], 8⟩ := by kernel_rfl
theorem el70 : elemI Tryd.prog 70 = none := by kernel_rfl
theorem ty71 : tyI Tryd.prog 71 = some ⟨false, 1, [.nilFunc], 8⟩ := by kernel_rfl
theorem el71 : elemI Tryd.prog 71 = none := by kernel_rfl
theorem ty72 : tyI Tryd.prog 72 = some ⟨false, 1, [.nilFunc], 8⟩ := by kernel_rfl
theorem el72 : elemI Tryd.prog 72 = none := by kernel_rfl
theorem ty73 : tyI Tryd.prog 73 = some ⟨false, 1, [.nilFunc], 8⟩ := by kernel_rfl
theorem el73 : elemI Tryd.prog 73 = none := by kernel_rfl
theorem ty74 : tyI Tryd.prog 74 = some ⟨true, 4, [(.int .i64 0), (.int .i64 0), (.int .i64 0), (.int .i64 0)], 32⟩ := by kernel_rfl
theorem el74 : elemI Tryd.prog 74 = none := by kernel_rfl
theorem eq74 : eqTy Tryd.prog 74 = some (.st [(0, 2, (.st [(0, 1, .it), (1, 1, .it)])), (2, 2, (.st [(0, 1, .it), (1, 1, .it)]))]) := by kernel_rfl
theorem pl74 : placesI Tryd.prog 74 = some [(0, 2), (2, 2)] := by kernel_rfl
theorem fi74_0 : fieldI Tryd.prog 74 0 = some (0, 2, true) := by kernel_rfl
theorem fi74_1 : fieldI Tryd.prog 74 1 = some (2, 2, true) := by kernel_rfl
theorem ty75 : tyI Tryd.prog 75 = some ⟨true, 4, [(.int .i64 0), (.int .i64 0), (.int .i64 0), (.int .i64 0)], 32⟩ := by kernel_rfl
theorem el75 : elemI Tryd.prog 75 = none := by kernel_rfl
theorem eq75 : eqTy Tryd.prog 75 = some (.st [(0, 2, (.st [(0, 1, .it), (1, 1, .it)])), (2, 2, (.st [(0, 1, .it), (1, 1, .it)]))]) := by kernel_rfl
theorem pl75 : placesI Tryd.prog 75 = some [(0, 2), (2, 2)] := by kernel_rfl
theorem fi75_0 : fieldI Tryd.prog 75 0 = some (0, 2, true) := by kernel_rfl
theorem fi75_1 : fieldI Tryd.prog 75 1 = some (2, 2, true) := by kernel_rfl
theorem ty76 : tyI Tryd.prog 76 = some ⟨true, 2, [(.int .i64 0), (.int .i64 0)], 16⟩ := by kernel_rfl
theorem el76 : elemI Tryd.prog 76 = none := by kernel_rfl
theorem eq76 : eqTy Tryd.prog 76 = some (.st [(0, 1, .it), (1, 1, .it)]) := by kernel_rfl
theorem pl76 : placesI Tryd.prog 76 = some [(0, 1), (1, 1)] := by kernel_rfl
theorem fi76_0 : fieldI Tryd.prog 76 0 = some (0, 1, false) := by kernel_rfl
theorem fi76_1 : fieldI Tryd.prog 76 1 = some (1, 1, false) := by kernel_rfl
theorem ty77 : tyI Tryd.prog 77 = some ⟨true, 2, [(.int .i64 0), (.int .i64 0)], 16⟩ := by kernel_rfl
theorem el77 : elemI Tryd.prog 77 = none := by kernel_rfl
theorem eq77 : eqTy Tryd.prog 77 = some (.st [(0, 1, .it), (1, 1, .it)]) := by kernel_rfl
theorem pl77 : placesI Tryd.prog 77 = some [(0, 1), (1, 1)] := by kernel_rfl
theorem fi77_0 : fieldI Tryd.prog 77 0 = some (0, 1, false) := by kernel_rfl
theorem fi77_1 : fieldI Tryd.prog 77 1 = some (1, 1, false) := by kernel_rfl
theorem ty78 : tyI Tryd.prog 78 = some ⟨false, 1, [(.slice none 0 0)], 24⟩ := by kernel_rfl
theorem el78 : elemI Tryd.prog 78 = some 77 := by kernel_rfl
theorem ty79 : tyI Tryd.prog 79 = some ⟨false, 1, [.nilFunc], 8⟩ := by kernel_rfl
theorem el79 : elemI Tryd.prog 79 = none := by kernel_rfl
theorem ty80 : tyI Tryd.prog 80 = some ⟨false, 1, [.nilFunc], 8⟩ := by kernel_rfl
theorem el80 : elemI Tryd.prog 80 = none := by kernel_rfl
theorem ty81 : tyI Tryd.prog 81 = some ⟨true, 6, [(.bool false), (.bool false), (.bool false), (.bool false), (.bool false), (.bool false)], 6⟩ := by kernel_rfl
theorem el81 : elemI Tryd.prog 81 = none := by kernel_rfl
theorem ar81 : arrI Tryd.prog 81 = some (6, 4) := by kernel_rfl
theorem pl81 : placesI Tryd.prog 81 = some [(0, 1), (1, 1), (2, 1), (3, 1), (4, 1), (5, 1)] := by kernel_rfl
theorem ty82 : tyI Tryd.prog 82 = some ⟨false, 1, [(.slice none 0 0)], 24⟩ := by kernel_rfl
theorem el82 : elemI Tryd.prog 82 = some 28 := by kernel_rfl
theorem el83 : elemI Tryd.prog 83 = none := by kernel_rfl
theorem ty84 : tyI Tryd.prog 84 = some ⟨false, 1, [.nilFunc], 8⟩ := by kernel_rfl
theorem el84 : elemI Tryd.prog 84 = none := by kernel_rfl
theorem el85 : elemI Tryd.prog 85 = none := by kernel_rfl
theorem ty86 : tyI Tryd.prog 86 = some ⟨false, 1, [.nilFunc], 8⟩ := by kernel_rfl
theorem el86 : elemI Tryd.prog 86 = none := by kernel_rfl
theorem ty87 : tyI Tryd.prog 87 = some ⟨false, 1, [.nilFunc], 8⟩ := by kernel_rfl
theorem el87 : elemI Tryd.prog 87 = none := by kernel_rfl
theorem ty88 : tyI Tryd.prog 88 = some ⟨false, 1, [.nilFunc], 8⟩ := by kernel_rfl
theorem el88 : elemI Tryd.prog 88 = none := by kernel_rfl
theorem ty89 : tyI Tryd.prog 89 = some ⟨false, 1, [.nilFunc], 8⟩ := by kernel_rfl
theorem el89 : elemI Tryd.prog 89 = none := by kernel_rfl
theorem ty90 : tyI Tryd.prog 90 = some ⟨true, 3, [(.int .i64 0), (.int .i64 0), (.int .i64 0)], 24⟩ := by kernel_rfl
theorem el90 : elemI Tryd.prog 90 = none := by kernel_rfl
theorem eq90 : eqTy Tryd.prog 90 = some (.st [(0, 3, (.st [(0, 1, .it), (1, 1, .it), (2, 1, .it)]))]) := by kernel_rfl
theorem pl90 : placesI Tryd.prog 90 = some [(0, 3)] := by kernel_rfl
theorem fi90_0 : fieldI Tryd.prog 90 0 = some (0, 3, true) := by kernel_rfl
theorem ty91 : tyI Tryd.prog 91 = some ⟨true, 3, [(.int .i64 0), (.int .i64 0), (.int .i64 0)], 24⟩ := by kernel_rfl
theorem el91 : elemI Tryd.prog 91 = none := by kernel_rfl
theorem eq91 : eqTy Tryd.prog 91 = some (.st [(0, 3, (.st [(0, 1, .it), (1, 1, .it), (2, 1, .it)]))]) := by kernel_rfl
theorem pl91 : placesI Tryd.prog 91 = some [(0, 3)] := by kernel_rfl
theorem fi91_0 : fieldI Tryd.prog 91 0 = some (0, 3, true) := by kernel_rfl
theorem ty92 : tyI Tryd.prog 92 = some ⟨false, 1, [.nilFunc], 8⟩ := by kernel_rfl
theorem el92 : elemI Tryd.prog 92 = none := by kernel_rfl
theorem ty93 : tyI Tryd.prog 93 = some ⟨false, 1, [.nilFunc], 8⟩ := by kernel_rfl
theorem el93 : elemI Tryd.prog 93 = none := by kernel_rfl
theorem ty94 : tyI Tryd.prog 94 = some ⟨false, 1, [.nilFunc], 8⟩ := by kernel_rfl
theorem el94 : elemI Tryd.prog 94 = none := by kernel_rfl
theorem ty95 : tyI Tryd.prog 95 = some ⟨true, 2, [(.int .i64 0), (.int .i64 0)], 16⟩ := by kernel_rfl
theorem el95 : elemI Tryd.prog 95 = none := by kernel_rfl
theorem eq95 : eqTy Tryd.prog 95 = some (.st [(0, 2, (.st [(0, 1, .it), (1, 1, .it)]))]) := by kernel_rfl
theorem pl95 : placesI Tryd.prog 95 = some [(0, 2)] := by kernel_rfl
theorem fi95_0 : fieldI Tryd.prog 95 0 = some (0, 2, true) := by kernel_rfl
theorem ty96 : tyI Tryd.prog 96 = some ⟨true, 2, [(.int .i64 0), (.int .i64 0)], 16⟩ := by kernel_rfl
theorem el96 : elemI Tryd.prog 96 = none := by kernel_rfl
theorem eq96 : eqTy Tryd.prog 96 = some (.st [(0, 2, (.st [(0, 1, .it), (1, 1, .it)]))]) := by kernel_rfl
theorem pl96 : placesI Tryd.prog 96 = some [(0, 2)] := by kernel_rfl
theorem fi96_0 : fieldI Tryd.prog 96 0 = some (0, 2, true) := by kernel_rfl
theorem ty97 : tyI Tryd.prog 97 = some ⟨false, 1, [.nilFunc], 8⟩ := by kernel_rfl
theorem el97 : elemI Tryd.prog 97 = none := by kernel_rfl
theorem ty98 : tyI Tryd.prog 98 = some ⟨false, 1, [.nilFunc], 8⟩ := by kernel_rfl
theorem el98 : elemI Tryd.prog 98 = none := by kernel_rfl
theorem ty99 : tyI Tryd.prog 99 = some ⟨false, 1, [(.pointer none)], 8⟩ := by kernel_rfl
theorem el99 : elemI Tryd.prog 99 = none := by kernel_rfl
theorem el100 : elemI Tryd.prog 100 = none := by kernel_rfl
theorem ty101 : tyI Tryd.prog 101 = some ⟨false, 1, [.nilFunc], 8⟩ := by kernel_rfl
theorem el101 : elemI Tryd.prog 101 = none := by kernel_rfl
theorem ty102 : tyI Tryd.prog 102 = some ⟨false, 1, [(.int .u64 0)], 8⟩ := by kernel_rfl
theorem el102 : elemI Tryd.prog 102 = none := by kernel_rfl
theorem it102 : intI Tryd.prog 102 = some .u64 := by kernel_rfl
theorem ty103 : tyI Tryd.prog 103 = some ⟨false, 1, [(.int .u64 0)], 8⟩ := by kernel_rfl
theorem el103 : elemI Tryd.prog 103 = none := by kernel_rfl
theorem it103 : intI Tryd.prog 103 = some .u64 := by kernel_rfl
theorem ty104 : tyI Tryd.prog 104 = some ⟨false, 1, [.nilFunc], 8⟩ := by kernel_rfl
theorem el104 : elemI Tryd.prog 104 = none := by kernel_rfl
theorem ty105 : tyI Tryd.prog 105 = some ⟨false, 1, [(.slice none 0 0)], 24⟩ := by kernel_rfl
theorem el105 : elemI Tryd.prog 105 = some 103 := by kernel_rfl
theorem ty106 : tyI Tryd.prog 106 = some ⟨true, 2, [(.slice none 0 0), (.slice none 0 0)], 48⟩ := by kernel_rfl
theorem el106 : elemI Tryd.prog 106 = none := by kernel_rfl
theorem pl106 : placesI Tryd.prog 106 = some [(0, 1), (1, 1)] := by kernel_rfl
theorem fi106_0 : fieldI Tryd.prog 106 0 = some (0, 1, false) := by kernel_rfl
theorem fi106_1 : fieldI Tryd.prog 106 1 = some (1, 1, false) := by kernel_rfl
theorem ty107 : tyI Tryd.prog 107 = some ⟨true, 2, [(.slice none 0 0), (.slice none 0 0)], 48⟩ := by kernel_rfl
theorem el107 : elemI Tryd.prog 107 = none := by kernel_rfl
theorem pl107 : placesI Tryd.prog 107 = some [(0, 1), (1, 1)] := by kernel_rfl
theorem fi107_0 : fieldI Tryd.prog 107 0 = some (0, 1, false) := by kernel_rfl
theorem fi107_1 : fieldI Tryd.prog 107 1 = some (1, 1, false) := by kernel_rfl
theorem ty108 : tyI Tryd.prog 108 = some ⟨false, 1, [.nilFunc], 8⟩ := by kernel_rfl
theorem el108 : elemI Tryd.prog 108 = none := by kernel_rfl
theorem ty109 : tyI Tryd.prog 109 = some ⟨false, 1, [.nilFunc], 8⟩ := by kernel_rfl
theorem el109 : elemI Tryd.prog 109 = none := by kernel_rfl
theorem ty110 : tyI Tryd.prog 110 = some ⟨false, 1, [.nilFunc], 8⟩ := by kernel_rfl
theorem el110 : elemI Tryd.prog 110 = none := by kernel_rfl
theorem ty111 : tyI Tryd.prog 111 = some ⟨false, 1, [.nilFunc], 8⟩ := by kernel_rfl
theorem el111 : elemI Tryd.prog 111 = none := by kernel_rfl
theorem ty112 : tyI Tryd.prog 112 = some ⟨false, 1, [.nilFunc], 8⟩ := by kernel_rfl
theorem el112 : elemI Tryd.prog 112 = none := by kernel_rfl
theorem ty113 : tyI Tryd.prog 113 = some ⟨false, 1, [.nilFunc], 8⟩ := by kernel_rfl
theorem el113 : elemI Tryd.prog 113 = none := by kernel_rfl
theorem ty114 : tyI Tryd.prog 114 = some ⟨false, 1, [.nilFunc], 8⟩ := by kernel_rfl
theorem el114 : elemI Tryd.prog 114 = none := by kernel_rfl
theorem ty115 : tyI Tryd.prog 115 = some ⟨true, 2, [(.int .i64 0), (.slice none 0 0)], 32⟩ := by kernel_rfl
theorem el115 : elemI Tryd.prog 115 = none := by kernel_rfl
theorem pl115 : placesI Tryd.prog 115 = some [(0, 1), (1, 1)] := by kernel_rfl
theorem fi115_0 : fieldI Tryd.prog 115 0 = some (0, 1, false) := by kernel_rfl
theorem fi115_1 : fieldI Tryd.prog 115 1 = some (1, 1, false) := by kernel_rfl
theorem ty116 : tyI Tryd.prog 116 = some ⟨true, 2, [(.int .i64 0), (.slice none 0 0)], 32⟩ := by kernel_rfl
theorem el116 : elemI Tryd.prog 116 = none := by kernel_rfl
theorem pl116 : placesI Tryd.prog 116 = some [(0, 1), (1, 1)] := by kernel_rfl
theorem fi116_0 : fieldI Tryd.prog 116 0 = some (0, 1, false) := by kernel_rfl
theorem fi116_1 : fieldI Tryd.prog 116 1 = some (1, 1, false) := by kernel_rfl
theorem ty117 : tyI Tryd.prog 117 = some ⟨false, 1, [.nilFunc], 8⟩ := by kernel_rfl
theorem el117 : elemI Tryd.prog 117 = none := by kernel_rfl
theorem ty118 : tyI Tryd.prog 118 = some ⟨false, 1, [(.int .i64 0)], 8⟩ := by kernel_rfl
theorem el118 : elemI Tryd.prog 118 = none := by kernel_rfl
theorem it118 : intI Tryd.prog 118 = some .i64 := by kernel_rfl
theorem ty119 : tyI Tryd.prog 119 = some ⟨true, 3, [(.int .i64 0), (.int .i64 0), (.int .i64 0)], 24⟩ := by kernel_rfl
theorem el119 : elemI Tryd.prog 119 = none := by kernel_rfl
theorem eq119 : eqTy Tryd.prog 119 = some (.st [(0, 1, .it), (1, 1, .it), (2, 1, .it)]) := by kernel_rfl
theorem pl119 : placesI Tryd.prog 119 = some [(0, 1), (1, 1), (2, 1)] := by kernel_rfl
theorem fi119_0 : fieldI Tryd.prog 119 0 = some (0, 1, false) := by kernel_rfl
theorem fi119_1 : fieldI Tryd.prog 119 1 = some (1, 1, false) := by kernel_rfl
theorem fi119_2 : fieldI Tryd.prog 119 2 = some (2, 1, false) := by kernel_rfl
theorem ty120 : tyI Tryd.prog 120 = some ⟨true, 3, [(.int .i64 0), (.int .i64 0), (.int .i64 0)], 24⟩ := by kernel_rfl
theorem el120 : elemI Tryd.prog 120 = none := by kernel_rfl
theorem eq120 : eqTy Tryd.prog 120 = some (.st [(0, 1, .it), (1, 1, .it), (2, 1, .it)]) := by kernel_rfl
theorem pl120 : placesI Tryd.prog 120 = some [(0, 1), (1, 1), (2, 1)] := by kernel_rfl
theorem fi120_0 : fieldI Tryd.prog 120 0 = some (0, 1, false) := by kernel_rfl
theorem fi120_1 : fieldI Tryd.prog 120 1 = some (1, 1, false) := by kernel_rfl
theorem fi120_2 : fieldI Tryd.prog 120 2 = some (2, 1, false) := by kernel_rfl
theorem ty121 : tyI Tryd.prog 121 = some ⟨false, 1, [(.slice none 0 0)], 24⟩ := by kernel_rfl
theorem el121 : elemI Tryd.prog 121 = some 120 := by kernel_rfl
theorem ty122 : tyI Tryd.prog 122 = some ⟨false, 1, [.nilFunc], 8⟩ := by kernel_rfl
theorem el122 : elemI Tryd.prog 122 = none := by kernel_rfl
theorem ty123 : tyI Tryd.prog 123 = some ⟨true, 3, [(.int .i64 0), (.int .i64 0), (.int .i64 0)], 24⟩ := by kernel_rfl
theorem el123 : elemI Tryd.prog 123 = none := by kernel_rfl
theorem eq123 : eqTy Tryd.prog 123 = some (.st [(0, 2, (.st [(0, 1, .it), (1, 1, .it)])), (2, 1, .it)]) := by kernel_rfl
theorem pl123 : placesI Tryd.prog 123 = some [(0, 2), (2, 1)] := by kernel_rfl
theorem fi123_0 : fieldI Tryd.prog 123 0 = some (0, 2, true) := by kernel_rfl
theorem fi123_1 : fieldI Tryd.prog 123 1 = some (2, 1, false) := by kernel_rfl
theorem ty124 : tyI Tryd.prog 124 = some ⟨true, 3, [(.int .i64 0), (.int .i64 0), (.int .i64 0)], 24⟩ := by kernel_rfl
theorem el124 : elemI Tryd.prog 124 = none := by kernel_rfl
theorem eq124 : eqTy Tryd.prog 124 = some (.st [(0, 2, (.st [(0, 1, .it), (1, 1, .it)])), (2, 1, .it)]) := by kernel_rfl
theorem pl124 : placesI Tryd.prog 124 = some [(0, 2), (2, 1)] := by kernel_rfl
theorem fi124_0 : fieldI Tryd.prog 124 0 = some (0, 2, true) := by kernel_rfl
theorem fi124_1 : fieldI Tryd.prog 124 1 = some (2, 1, false) := by kernel_rfl
theorem ty125 : tyI Tryd.prog 125 = some ⟨false, 1, [(.slice none 0 0)], 24⟩ := by kernel_rfl
theorem el125 : elemI Tryd.prog 125 = some 124 := by kernel_rfl
theorem ty126 : tyI Tryd.prog 126 = some ⟨false, 1, [(.int .i64 0)], 8⟩ := by kernel_rfl
theorem el126 : elemI Tryd.prog 126 = none := by kernel_rfl
theorem it126 : intI Tryd.prog 126 = some .i64 := by kernel_rfl
theorem ty127 : tyI Tryd.prog 127 = some ⟨true, 8, [(.int .i64 0), (.int .i64 0), (.int .i64 0), (.int .i64 0), (.int .i64 0), (.int .i64 0), (.int .i64 0), (.int .i64 0)], 64⟩ := by kernel_rfl
theorem el127 : elemI Tryd.prog 127 = none := by kernel_rfl
theorem eq127 : eqTy Tryd.prog 127 = some (.st [(0, 1, .it), (1, 1, .it), (2, 2, (.st [(0, 1, .it), (1, 1, .it)])), (4, 2, (.st [(0, 1, .it), (1, 1, .it)])), (6, 1, .it), (7, 1, .it)]) := by kernel_rfl
theorem pl127 : placesI Tryd.prog 127 = some [(0, 1), (1, 1), (2, 2), (4, 2), (6, 1), (7, 1)] := by kernel_rfl
theorem fi127_0 : fieldI Tryd.prog 127 0 = some (0, 1, false) := by kernel_rfl
theorem fi127_1 : fieldI Tryd.prog 127 1 = some (1, 1, false) := by kernel_rfl
theorem fi127_2 : fieldI Tryd.prog 127 2 = some (2, 2, true) := by kernel_rfl
theorem fi127_3 : fieldI Tryd.prog 127 3 = some (4, 2, true) := by kernel_rfl
theorem fi127_4 : fieldI Tryd.prog 127 4 = some (6, 1, false) := by kernel_rfl
theorem fi127_5 : fieldI Tryd.prog 127 5 = some (7, 1, false) := by kernel_rfl
theorem ty128 : tyI Tryd.prog 128 = some ⟨true, 8, [(.int .i64 0), (.int .i64 0), (.int .i64 0), (.int .i64 0), (.int .i64 0), (.int .i64 0), (.int .i64 0), (.int .i64 0)], 64⟩ := by kernel_rfl
theorem el128 : elemI Tryd.prog 128 = none := by kernel_rfl
theorem eq128 : eqTy Tryd.prog 128 = some (.st [(0, 1, .it), (1, 1, .it), (2, 2, (.st [(0, 1, .it), (1, 1, .it)])), (4, 2, (.st [(0, 1, .it), (1, 1, .it)])), (6, 1, .it), (7, 1, .it)]) := by kernel_rfl
theorem pl128 : placesI Tryd.prog 128 = some [(0, 1), (1, 1), (2, 2), (4, 2), (6, 1), (7, 1)] := by kernel_rfl
theorem fi128_0 : fieldI Tryd.prog 128 0 = some (0, 1, false) := by kernel_rfl
theorem fi128_1 : fieldI Tryd.prog 128 1 = some (1, 1, false) := by kernel_rfl
theorem fi128_2 : fieldI Tryd.prog 128 2 = some (2, 2, true) := by kernel_rfl
theorem fi128_3 : fieldI Tryd.prog 128 3 = some (4, 2, true) := by kernel_rfl
theorem fi128_4 : fieldI Tryd.prog 128 4 = some (6, 1, false) := by kernel_rfl
theorem fi128_5 : fieldI Tryd.prog 128 5 = some (7, 1, false) := by kernel_rfl
theorem ty129 : tyI Tryd.prog 129 = some ⟨true, 4, [(.int .i64 0), (.int .i64 0), (.int .i64 0), (.int .i64 0)], 32⟩ := by kernel_rfl
theorem el129 : elemI Tryd.prog 129 = none := by kernel_rfl
theorem eq129 : eqTy Tryd.prog 129 = some (.st [(0, 1, .it), (1, 1, .it), (2, 2, (.st [(0, 1, .it), (1, 1, .it)]))]) := by kernel_rfl
theorem pl129 : placesI Tryd.prog 129 = some [(0, 1), (1, 1), (2, 2)] := by kernel_rfl
theorem fi129_0 : fieldI Tryd.prog 129 0 = some (0, 1, false) := by kernel_rfl
theorem fi129_1 : fieldI Tryd.prog 129 1 = some (1, 1, false) := by kernel_rfl
theorem fi129_2 : fieldI Tryd.prog 129 2 = some (2, 2, true) := by kernel_rfl
theorem ty130 : tyI Tryd.prog 130 = some ⟨true, 4, [(.int .i64 0), (.int .i64 0), (.int .i64 0), (.int .i64 0)], 32⟩ := by kernel_rfl
theorem el130 : elemI Tryd.prog 130 = none := by kernel_rfl
theorem eq130 : eqTy Tryd.prog 130 = some (.st [(0, 1, .it), (1, 1, .it), (2, 2, (.st [(0, 1, .it), (1, 1, .it)]))]) := by kernel_rfl
theorem pl130 : placesI Tryd.prog 130 = some [(0, 1), (1, 1), (2, 2)] := by kernel_rfl
theorem fi130_0 : fieldI Tryd.prog 130 0 = some (0, 1, false) := by kernel_rfl
theorem fi130_1 : fieldI Tryd.prog 130 1 = some (1, 1, false) := by kernel_rfl
theorem fi130_2 : fieldI Tryd.prog 130 2 = some (2, 2, true) := by kernel_rfl
theorem ty131 : tyI Tryd.prog 131 = some ⟨true, 2, [(.slice none 0 0), (.slice none 0 0)], 48⟩ := by kernel_rfl
theorem el131 : elemI Tryd.prog 131 = none := by kernel_rfl
theorem ar131 : arrI Tryd.prog 131 = some (2, 43) := by kernel_rfl
theorem pl131 : placesI Tryd.prog 131 = some [(0, 1), (1, 1)] := by kernel_rfl
theorem ty132 : tyI Tryd.prog 132 = some ⟨false, 1, [.nilFunc], 8⟩ := by kernel_rfl
theorem el132 : elemI Tryd.prog 132 = none := by kernel_rfl
theorem ty133 : tyI Tryd.prog 133 = some ⟨true, 5, [(.slice none 0 0), (.slice none 0 0), (.slice none 0 0), (.slice none 0 0), (.int .i64 0)], 104⟩ := by kernel_rfl
theorem el133 : elemI Tryd.prog 133 = none := by kernel_rfl
theorem pl133 : placesI Tryd.prog 133 = some [(0, 2), (2, 2), (4, 1)] := by kernel_rfl
theorem fi133_0 : fieldI Tryd.prog 133 0 = some (0, 2, true) := by kernel_rfl
theorem fi133_1 : fieldI Tryd.prog 133 1 = some (2, 2, true) := by kernel_rfl
theorem fi133_2 : fieldI Tryd.prog 133 2 = some (4, 1, false) := by kernel_rfl
theorem ty134 : tyI Tryd.prog 134 = some ⟨true, 5, [(.slice none 0 0), (.slice none 0 0), (.slice none 0 0), (.slice none 0 0), (.int .i64 0)], 104⟩ := by kernel_rfl
theorem el134 : elemI Tryd.prog 134 = none := by kernel_rfl
theorem pl134 : placesI Tryd.prog 134 = some [(0, 2), (2, 2), (4, 1)] := by kernel_rfl
theorem fi134_0 : fieldI Tryd.prog 134 0 = some (0, 2, true) := by kernel_rfl
theorem fi134_1 : fieldI Tryd.prog 134 1 = some (2, 2, true) := by kernel_rfl
theorem fi134_2 : fieldI Tryd.prog 134 2 = some (4, 1, false) := by kernel_rfl
theorem el135 : elemI Tryd.prog 135 = none := by kernel_rfl
theorem ty136 : tyI Tryd.prog 136 = some ⟨false, 1, [.nilFunc], 8⟩ := by kernel_rfl
theorem el136 : elemI Tryd.prog 136 = none := by kernel_rfl
theorem el137 : elemI Tryd.prog 137 = none := by kernel_rfl
theorem ty138 : tyI Tryd.prog 138 = some ⟨false, 1, [.nilFunc], 8⟩ := by kernel_rfl
theorem el138 : elemI Tryd.prog 138 = none := by kernel_rfl
theorem ty139 : tyI Tryd.prog 139 = some ⟨false, 1, [.nilFunc], 8⟩ := by kernel_rfl
theorem el139 : elemI Tryd.prog 139 = none := by kernel_rfl
theorem ty140 : tyI Tryd.prog 140 = some ⟨false, 1, [(.pointer none)], 8⟩ := by kernel_rfl
theorem el140 : elemI Tryd.prog 140 = none := by kernel_rfl
theorem el141 : elemI Tryd.prog 141 = none := by kernel_rfl
theorem ty142 : tyI Tryd.prog 142 = some ⟨false, 1, [.nilFunc], 8⟩ := by kernel_rfl
theorem el142 : elemI Tryd.prog 142 = none := by kernel_rfl
theorem ty143 : tyI Tryd.prog 143 = some ⟨false, 1, [(.int .u64 0)], 8⟩ := by kernel_rfl
theorem el143 : elemI Tryd.prog 143 = none := by kernel_rfl
theorem it143 : intI Tryd.prog 143 = some .u64 := by kernel_rfl
theorem ty144 : tyI Tryd.prog 144 = some ⟨false, 1, [.nilFunc], 8⟩ := by kernel_rfl
theorem el144 : elemI Tryd.prog 144 = none := by kernel_rfl
theorem ty145 : tyI Tryd.prog 145 = some ⟨false, 1, [.nilFunc], 8⟩ := by kernel_rfl
theorem el145 : elemI Tryd.prog 145 = none := by kernel_rfl
theorem ty146 : tyI Tryd.prog 146 = some ⟨false, 1, [.nilFunc], 8⟩ := by kernel_rfl
theorem el146 : elemI Tryd.prog 146 = none := by kernel_rfl
theorem ty147 : tyI Tryd.prog 147 = some ⟨true, 6, [(.int .i64 0), (.int .i64 0), (.int .i64 0), (.int .i64 0), (.int .i64 0), (.int .i64 0)], 48⟩ := by kernel_rfl
theorem el147 : elemI Tryd.prog 147 = none := by kernel_rfl
theorem eq147 : eqTy Tryd.prog 147 = some (.st [(0, 2, (.st [(0, 1, .it), (1, 1, .it)])), (2, 2, (.st [(0, 1, .it), (1, 1, .it)])), (4, 1, .it), (5, 1, .it)]) := by kernel_rfl
theorem pl147 : placesI Tryd.prog 147 = some [(0, 2), (2, 2), (4, 1), (5, 1)] := by kernel_rfl
theorem fi147_0 : fieldI Tryd.prog 147 0 = some (0, 2, true) := by kernel_rfl
theorem fi147_1 : fieldI Tryd.prog 147 1 = some (2, 2, true) := by kernel_rfl
theorem fi147_2 : fieldI Tryd.prog 147 2 = some (4, 1, false) := by kernel_rfl
theorem fi147_3 : fieldI Tryd.prog 147 3 = some (5, 1, false) := by kernel_rfl
theorem ty148 : tyI Tryd.prog 148 = some ⟨true, 6, [(.int .i64 0), (.int .i64 0), (.int .i64 0), (.int .i64 0), (.int .i64 0), (.int .i64 0)], 48⟩ := by kernel_rfl
theorem el148 : elemI Tryd.prog 148 = none := by kernel_rfl
theorem eq148 : eqTy Tryd.prog 148 = some (.st [(0, 2, (.st [(0, 1, .it), (1, 1, .it)])), (2, 2, (.st [(0, 1, .it), (1, 1, .it)])), (4, 1, .it), (5, 1, .it)]) := by kernel_rfl
theorem pl148 : placesI Tryd.prog 148 = some [(0, 2), (2, 2), (4, 1), (5, 1)] := by kernel_rfl
theorem fi148_0 : fieldI Tryd.prog 148 0 = some (0, 2, true) := by kernel_rfl
theorem fi148_1 : fieldI Tryd.prog 148 1 = some (2, 2, true) := by kernel_rfl
theorem fi148_2 : fieldI Tryd.prog 148 2 = some (4, 1, false) := by kernel_rfl
theorem fi148_3 : fieldI Tryd.prog 148 3 = some (5, 1, false) := by kernel_rfl
theorem ty149 : tyI Tryd.prog 149 = some ⟨false, 1, [.nilFunc], 8⟩ := by kernel_rfl
theorem el149 : elemI Tryd.prog 149 = none := by kernel_rfl
theorem ty150 : tyI Tryd.prog 150 = some ⟨false, 1, [.nilFunc], 8⟩ := by kernel_rfl
theorem el150 : elemI Tryd.prog 150 = none := by kernel_rfl
theorem ty151 : tyI Tryd.prog 151 = some ⟨false, 1, [.nilFunc], 8⟩ := by kernel_rfl
theorem el151 : elemI Tryd.prog 151 = none := by kernel_rfl
theorem ty152 : tyI Tryd.prog 152 = some ⟨false, 1, [.nilFunc], 8⟩ := by kernel_rfl
theorem el152 : elemI Tryd.prog 152 = none := by kernel_rfl
theorem ty153 : tyI Tryd.prog 153 = some ⟨false, 1, [.nilFunc], 8⟩ := by kernel_rfl
theorem el153 : elemI Tryd.prog 153 = none := by kernel_rfl
theorem ty154 : tyI Tryd.prog 154 = some ⟨true, 2, [(.slice none 0 0), (.int .i64 0)], 32⟩ := by kernel_rfl
theorem el154 : elemI Tryd.prog 154 = none := by kernel_rfl
theorem pl154 : placesI Tryd.prog 154 = some [(0, 1), (1, 1)] := by kernel_rfl
theorem fi154_0 : fieldI Tryd.prog 154 0 = some (0, 1, false) := by kernel_rfl
theorem fi154_1 : fieldI Tryd.prog 154 1 = some (1, 1, false) := by kernel_rfl
theorem ty155 : tyI Tryd.prog 155 = some ⟨true, 2, [(.slice none 0 0), (.int .i64 0)], 32⟩ := by kernel_rfl
theorem el155 : elemI Tryd.prog 155 = none := by kernel_rfl
theorem pl155 : placesI Tryd.prog 155 = some [(0, 1), (1, 1)] := by kernel_rfl
theorem fi155_0 : fieldI Tryd.prog 155 0 = some (0, 1, false) := by kernel_rfl
theorem fi155_1 : fieldI Tryd.prog 155 1 = some (1, 1, false) := by kernel_rfl
theorem el156 : elemI Tryd.prog 156 = none := by kernel_rfl
theorem ty157 : tyI Tryd.prog 157 = some ⟨false, 1, [.nilFunc], 8⟩ := by kernel_rfl
theorem el157 : elemI Tryd.prog 157 = none := by kernel_rfl
theorem el158 : elemI Tryd.prog 158 = none := by kernel_rfl
theorem ty159 : tyI Tryd.prog 159 = some ⟨false, 1, [.nilFunc], 8⟩ := by kernel_rfl
theorem el159 : elemI Tryd.prog 159 = none := by kernel_rfl
theorem ty160 : tyI Tryd.prog 160 = some ⟨false, 1, [.nilFunc], 8⟩ := by kernel_rfl
theorem el160 : elemI Tryd.prog 160 = none := by kernel_rfl
theorem ty161 : tyI Tryd.prog 161 = some ⟨false, 1, [.nilFunc], 8⟩ := by kernel_rfl
theorem el161 : elemI Tryd.prog 161 = none := by kernel_rfl
theorem ty162 : tyI Tryd.prog 162 = some ⟨false, 1, [.nilFunc], 8⟩ := by kernel_rfl
theorem el162 : elemI Tryd.prog 162 = none := by kernel_rfl
theorem ty163 : tyI Tryd.prog 163 = some ⟨false, 1, [.nilFunc], 8⟩ := by kernel_rfl
theorem el163 : elemI Tryd.prog 163 = none := by kernel_rfl
theorem ty164 : tyI Tryd.prog 164 = some ⟨false, 1, [.nilFunc], 8⟩ := by kernel_rfl
theorem el164 : elemI Tryd.prog 164 = none := by kernel_rfl
theorem ty165 : tyI Tryd.prog 165 = some ⟨false, 1, [.nilFunc], 8⟩ := by kernel_rfl
theorem el165 : elemI Tryd.prog 165 = none := by kernel_rfl
theorem ty166 : tyI Tryd.prog 166 = some ⟨false, 1, [.nilFunc], 8⟩ := by kernel_rfl
theorem el166 : elemI Tryd.prog 166 = none := by kernel_rfl
theorem ty167 : tyI Tryd.prog 167 = some ⟨false, 1, [.nilFunc], 8⟩ := by kernel_rfl
theorem el167 : elemI Tryd.prog 167 = none := by kernel_rfl
theorem ty168 : tyI Tryd.prog 168 = some ⟨false, 1, [.nilFunc], 8⟩ := by kernel_rfl
theorem el168 : elemI Tryd.prog 168 = none := by kernel_rfl
theorem ty169 : tyI Tryd.prog 169 = some ⟨false, 1, [.nilFunc], 8⟩ := by kernel_rfl
theorem el169 : elemI Tryd.prog 169 = none := by kernel_rfl
theorem ty170 : tyI Tryd.prog 170 = some ⟨false, 1, [.nilFunc], 8⟩ := by kernel_rfl
theorem el170 : elemI Tryd.prog 170 = none := by kernel_rfl
theorem ty171 : tyI Tryd.prog 171 = some ⟨false, 1, [.nilFunc], 8⟩ := by kernel_rfl
theorem el171 : elemI Tryd.prog 171 = none := by kernel_rfl
theorem ty172 : tyI Tryd.prog 172 = some ⟨false, 1, [.nilFunc], 8⟩ := by kernel_rfl
theorem el172 : elemI Tryd.prog 172 = none := by kernel_rfl
theorem ty173 : tyI Tryd.prog 173 = some ⟨false, 1, [.nilFunc], 8⟩ := by kernel_rfl
theorem el173 : elemI Tryd.prog 173 = none := by kernel_rfl
theorem ty174 : tyI Tryd.prog 174 = some ⟨true, 2, [(.int .i64 0), (.slice none 0 0)], 32⟩ := by kernel_rfl
theorem el174 : elemI Tryd.prog 174 = none := by kernel_rfl
theorem pl174 : placesI Tryd.prog 174 = some [(0, 2)] := by kernel_rfl
theorem fi174_0 : fieldI Tryd.prog 174 0 = some (0, 2, true) := by kernel_rfl
theorem ty175 : tyI Tryd.prog 175 = some ⟨true, 2, [(.int .i64 0), (.slice none 0 0)], 32⟩ := by kernel_rfl
theorem el175 : elemI Tryd.prog 175 = none := by kernel_rfl
theorem pl175 : placesI Tryd.prog 175 = some [(0, 2)] := by kernel_rfl
theorem fi175_0 : fieldI Tryd.prog 175 0 = some (0, 2, true) := by kernel_rfl
theorem el176 : elemI Tryd.prog 176 = none := by kernel_rfl
theorem ty177 : tyI Tryd.prog 177 = some ⟨false, 1, [.nilFunc], 8⟩ := by kernel_rfl
theorem el177 : elemI Tryd.prog 177 = none := by kernel_rfl
theorem ty178 : tyI Tryd.prog 178 = some ⟨false, 1, [.nilFunc], 8⟩ := by kernel_rfl
theorem el178 : elemI Tryd.prog 178 = none := by kernel_rfl
theorem ty179 : tyI Tryd.prog 179 = some ⟨false, 1, [.nilFunc], 8⟩ := by kernel_rfl
theorem el179 : elemI Tryd.prog 179 = none := by kernel_rfl
theorem ty180 : tyI Tryd.prog 180 = some ⟨false, 1, [.nilFunc], 8⟩ := by kernel_rfl
theorem el180 : elemI Tryd.prog 180 = none := by kernel_rfl
theorem ty181 : tyI Tryd.prog 181 = some ⟨false, 1, [.nilFunc], 8⟩ := by kernel_rfl
theorem el181 : elemI Tryd.prog 181 = none := by kernel_rfl
theorem ty182 : tyI Tryd.prog 182 = some ⟨false, 1, [.nilFunc], 8⟩ := by kernel_rfl
theorem el182 : elemI Tryd.prog 182 = none := by kernel_rfl
theorem ty183 : tyI Tryd.prog 183 = some ⟨false, 1, [.nilFunc], 8⟩ := by kernel_rfl
theorem el183 : elemI Tryd.prog 183 = none := by kernel_rfl
theorem ty184 : tyI Tryd.prog 184 = some ⟨false, 1, [.nilFunc], 8⟩ := by kernel_rfl
theorem el184 : elemI Tryd.prog 184 = none := by kernel_rfl
theorem ty185 : tyI Tryd.prog 185 = some ⟨false, 1, [.nilFunc], 8⟩ := by kernel_rfl
theorem el185 : elemI Tryd.prog 185 = none := by kernel_rfl
theorem ty186 : tyI Tryd.prog 186 = some ⟨false, 1, [.nilFunc], 8⟩ := by kernel_rfl
theorem el186 : elemI Tryd.prog 186 = none := by kernel_rfl
theorem ty187 : tyI Tryd.prog 187 = some ⟨false, 1, [.nilFunc], 8⟩ := by kernel_rfl
theorem el187 : elemI Tryd.prog 187 = none := by kernel_rfl
theorem ty188 : tyI Tryd.prog 188 = some ⟨false, 1, [.nilFunc], 8⟩ := by kernel_rfl
theorem el188 : elemI Tryd.prog 188 = none := by kernel_rfl
theorem ty189 : tyI Tryd.prog 189 = some ⟨false, 1, [(.map none)], 8⟩ := by kernel_rfl
theorem el189 : elemI Tryd.prog 189 = none := by kernel_rfl
theorem mp189 : mapI Tryd.prog 189 = some ((.c (.v (.bool false))), (.int .u64)) := by kernel_rfl
theorem ty190 : tyI Tryd.prog 190 = some ⟨true, 3, [(.slice none 0 0), (.int .i64 0), (.map none)], 40⟩ := by kernel_rfl
theorem el190 : elemI Tryd.prog 190 = none := by kernel_rfl
theorem pl190 : placesI Tryd.prog 190 = some [(0, 1), (1, 1), (2, 1)] := by kernel_rfl
theorem fi190_0 : fieldI Tryd.prog 190 0 = some (0, 1, false) := by kernel_rfl
theorem fi190_1 : fieldI Tryd.prog 190 1 = some (1, 1, false) := by kernel_rfl
theorem fi190_2 : fieldI Tryd.prog 190 2 = some (2, 1, false) := by kernel_rfl
theorem ty191 : tyI Tryd.prog 191 = some ⟨true, 3, [(.slice none 0 0), (.int .i64 0), (.map none)], 40⟩ := by kernel_rfl
theorem el191 : elemI Tryd.prog 191 = none := by kernel_rfl
theorem pl191 : placesI Tryd.prog 191 = some [(0, 1), (1, 1), (2, 1)] := by kernel_rfl
theorem fi191_0 : fieldI Tryd.prog 191 0 = some (0, 1, false) := by kernel_rfl
theorem fi191_1 : fieldI Tryd.prog 191 1 = some (1, 1, false) := by kernel_rfl
theorem fi191_2 : fieldI Tryd.prog 191 2 = some (2, 1, false) := by kernel_rfl
theorem el192 : elemI Tryd.prog 192 = none := by kernel_rfl
theorem ty193 : tyI Tryd.prog 193 = some ⟨false, 1, [.nilFunc], 8⟩ := by kernel_rfl
theorem el193 : elemI Tryd.prog 193 = none := by kernel_rfl
theorem ty194 : tyI Tryd.prog 194 = some ⟨false, 1, [.nilFunc], 8⟩ := by kernel_rfl
theorem el194 : elemI Tryd.prog 194 = none := by kernel_rfl
theorem ty195 : tyI Tryd.prog 195 = some ⟨false, 1, [.nilFunc], 8⟩ := by kernel_rfl
theorem el195 : elemI Tryd.prog 195 = none := by kernel_rfl
theorem ty196 : tyI Tryd.prog 196 = some ⟨false, 1, [.nilFunc], 8⟩ := by kernel_rfl
theorem el196 : elemI Tryd.prog 196 = none := by kernel_rfl
theorem ty197 : tyI Tryd.prog 197 = some ⟨false, 1, [.nilFunc], 8⟩ := by kernel_rfl
theorem el197 : elemI Tryd.prog 197 = none := by kernel_rfl
theorem ty198 : tyI Tryd.prog 198 = some ⟨false, 1, [.nilFunc], 8⟩ := by kernel_rfl
theorem el198 : elemI Tryd.prog 198 = none := by kernel_rfl
theorem ty199 : tyI Tryd.prog 199 = some ⟨false, 1, [.nilFunc], 8⟩ := by kernel_rfl
theorem el199 : elemI Tryd.prog 199 = none := by kernel_rfl
theorem ty200 : tyI Tryd.prog 200 = some ⟨false, 1, [.nilFunc], 8⟩ := by kernel_rfl
theorem el200 : elemI Tryd.prog 200 = none := by kernel_rfl
theorem ty201 : tyI Tryd.prog 201 = some ⟨false, 1, [.nilFunc], 8⟩ := by kernel_rfl
theorem el201 : elemI Tryd.prog 201 = none := by kernel_rfl
theorem ty202 : tyI Tryd.prog 202 = some ⟨false, 1, [.nilFunc], 8⟩ := by kernel_rfl
theorem el202 : elemI Tryd.prog 202 = none := by kernel_rfl
theorem ty203 : tyI Tryd.prog 203 = some ⟨false, 1, [.nilFunc], 8⟩ := by kernel_rfl
theorem el203 : elemI Tryd.prog 203 = none := by kernel_rfl
theorem ty204 : tyI Tryd.prog 204 = some ⟨false, 1, [.nilFunc], 8⟩ := by kernel_rfl
theorem el204 : elemI Tryd.prog 204 = none := by kernel_rfl
theorem ty205 : tyI Tryd.prog 205 = some ⟨false, 1, [.nilFunc], 8⟩ := by kernel_rfl
theorem el205 : elemI Tryd.prog 205 = none := by kernel_rfl
theorem ty206 : tyI Tryd.prog 206 = some ⟨false, 1, [(.int .u32 0)], 4⟩ := by kernel_rfl
theorem el206 : elemI Tryd.prog 206 = none := by kernel_rfl
theorem it206 : intI Tryd.prog 206 = some .u32 := by kernel_rfl
theorem ty207 : tyI Tryd.prog 207 = some ⟨false, 1, [.nilFunc], 8⟩ := by kernel_rfl
theorem el207 : elemI Tryd.prog 207 = none := by kernel_rfl
theorem ty208 : tyI Tryd.prog 208 = some ⟨false, 1, [(.int .u64 0)], 8⟩ := by kernel_rfl
theorem el208 : elemI Tryd.prog 208 = none := by kernel_rfl
theorem it208 : intI Tryd.prog 208 = some .u64 := by kernel_rfl
theorem ty209 : tyI Tryd.prog 209 = some ⟨false, 1, [.nilFunc], 8⟩ := by kernel_rfl
theorem el209 : elemI Tryd.prog 209 = none := by kernel_rfl
theorem ty210 : tyI Tryd.prog 210 = some ⟨false, 1, [(.slice none 0 0)], 24⟩ := by kernel_rfl
theorem el210 : elemI Tryd.prog 210 = some 121 := by kernel_rfl
theorem ty211 : tyI Tryd.prog 211 = some ⟨false, 1, [.nilFunc], 8⟩ := by kernel_rfl
theorem el211 : elemI Tryd.prog 211 = none := by kernel_rfl
theorem ty212 : tyI Tryd.prog 212 = some ⟨false, 1, [.nilFunc], 8⟩ := by kernel_rfl
theorem el212 : elemI Tryd.prog 212 = none := by kernel_rfl
theorem ty213 : tyI Tryd.prog 213 = some ⟨false, 1, [.nilFunc], 8⟩ := by kernel_rfl
theorem el213 : elemI Tryd.prog 213 = none := by kernel_rfl
theorem ty214 : tyI Tryd.prog 214 = some ⟨false, 1, [.nilFunc], 8⟩ := by kernel_rfl
theorem el214 : elemI Tryd.prog 214 = none := by kernel_rfl
theorem ty215 : tyI Tryd.prog 215 = some ⟨false, 1, [.nilFunc], 8⟩ := by kernel_rfl
theorem el215 : elemI Tryd.prog 215 = none := by kernel_rfl
theorem ty216 : tyI Tryd.prog 216 = some ⟨false, 1, [.nilFunc], 8⟩ := by kernel_rfl
theorem el216 : elemI Tryd.prog 216 = none := by kernel_rfl
theorem ty217 : tyI Tryd.prog 217 = some ⟨false, 1, [.nilFunc], 8⟩ := by kernel_rfl
theorem el217 : elemI Tryd.prog 217 = none := by kernel_rfl
theorem ty218 : tyI Tryd.prog 218 = some ⟨false, 1, [.nilFunc], 8⟩ := by kernel_rfl
theorem el218 : elemI Tryd.prog 218 = none := by kernel_rfl
theorem ty219 : tyI Tryd.prog 219 = some ⟨false, 1, [(.slice none 0 0)], 24⟩ := by kernel_rfl
theorem el219 : elemI Tryd.prog 219 = some 126 := by kernel_rfl
theorem ty220 : tyI Tryd.prog 220 = some ⟨false, 1, [.nilFunc], 8⟩ := by kernel_rfl
theorem el220 : elemI Tryd.prog 220 = none := by kernel_rfl
theorem ty221 : tyI Tryd.prog 221 = some ⟨false, 1, [.nilFunc], 8⟩ := by kernel_rfl
theorem el221 : elemI Tryd.prog 221 = none := by kernel_rfl
theorem ty222 : tyI Tryd.prog 222 = some ⟨false, 1, [.nilFunc], 8⟩ := by kernel_rfl
theorem el222 : elemI Tryd.prog 222 = none := by kernel_rfl
theorem ty223 : tyI Tryd.prog 223 = some ⟨false, 1, [.nilFunc], 8⟩ := by kernel_rfl
theorem el223 : elemI Tryd.prog 223 = none := by kernel_rfl
theorem ty224 : tyI Tryd.prog 224 = some ⟨false, 1, [.nilFunc], 8⟩ := by kernel_rfl
theorem el224 : elemI Tryd.prog 224 = none := by kernel_rfl
theorem ty225 : tyI Tryd.prog 225 = some ⟨true, 32, [(.int .u8 0), (.int .u8 0), (.int .u8 0), (.int .u8 0), (.int .u8 0), (.int .u8 0), (.int .u8 0), (.int .u8 0), (.int .u8 0), (.int .u8 0), (.int .u8 0), (.int .u8 0), (.int .u8 0), (.int .u8 0), (.int .u8 0), (.int .u8 0), (.int .u8 0), (.int .u8 0), (.int .u8 0), (.int .u8 0), (.int .u8 0), (.int .u8 0), (.int .u8 0), (.int .u8 0), (.int .u8 0), (.int .u8 0), (.int .u8 0), (.int .u8 0), (.int .u8 0), (.int .u8 0), (.int .u8 0), (.int .u8 0)], 32⟩ := by kernel_rfl
theorem el225 : elemI Tryd.prog 225 = none := by kernel_rfl
theorem ar225 : arrI Tryd.prog 225 = some (32, 5) := by kernel_rfl
theorem pl225 : placesI Tryd.prog 225 = some [(0, 1), (1, 1), (2, 1), (3, 1), (4, 1), (5, 1), (6, 1), (7, 1), (8, 1), (9, 1), (10, 1), (11, 1), (12, 1), (13, 1), (14, 1), (15, 1), (16, 1), (17, 1), (18, 1), (19, 1), (20, 1), (21, 1), (22, 1), (23, 1), (24, 1), (25, 1), (26, 1), (27, 1), (28, 1), (29, 1), (30, 1), (31, 1)] := by kernel_rfl
theorem el226 : elemI Tryd.prog 226 = none := by kernel_rfl
theorem ar226 : arrI Tryd.prog 226 = some (64, 5) := by kernel_rfl
theorem ty227 : tyI Tryd.prog 227 = some ⟨false, 1, [.nilFunc], 8⟩ := by kernel_rfl
theorem el227 : elemI Tryd.prog 227 = none := by kernel_rfl
theorem ty228 : tyI Tryd.prog 228 = some ⟨false, 1, [.nilFunc], 8⟩ := by kernel_rfl
theorem el228 : elemI Tryd.prog 228 = none := by kernel_rfl
theorem ty229 : tyI Tryd.prog 229 = some ⟨false, 1, [.nilFunc], 8⟩ := by kernel_rfl
theorem el229 : elemI Tryd.prog 229 = none := by kernel_rfl
theorem ty230 : tyI Tryd.prog 230 = some ⟨false, 1, [.nilFunc], 8⟩ := by kernel_rfl
theorem el230 : elemI Tryd.prog 230 = none := by kernel_rfl
theorem ty231 : tyI Tryd.prog 231 = some ⟨false, 1, [.nilFunc], 8⟩ := by kernel_rfl
theorem el231 : elemI Tryd.prog 231 = none := by kernel_rfl
theorem ty232 : tyI Tryd.prog 232 = some ⟨false, 1, [.nilFunc], 8⟩ := by kernel_rfl
theorem el232 : elemI Tryd.prog 232 = none := by kernel_rfl
theorem ty233 : tyI Tryd.prog 233 = some ⟨false, 1, [.nilFunc], 8⟩ := by kernel_rfl
theorem el233 : elemI Tryd.prog 233 = none := by kernel_rfl
theorem ty234 : tyI Tryd.prog 234 = some ⟨false, 1, [.nilFunc], 8⟩ := by kernel_rfl
theorem el234 : elemI Tryd.prog 234 = none := by kernel_rfl
theorem ty235 : tyI Tryd.prog 235 = some ⟨false, 1, [.nilFunc], 8⟩ := by kernel_rfl
theorem el235 : elemI Tryd.prog 235 = none := by kernel_rfl
theorem ty236 : tyI Tryd.prog 236 = some ⟨false, 1, [.nilFunc], 8⟩ := by kernel_rfl
theorem el236 : elemI Tryd.prog 236 = none := by kernel_rfl
theorem ty237 : tyI Tryd.prog 237 = some ⟨false, 1, [.nilFunc], 8⟩ := by kernel_rfl
theorem el237 : elemI Tryd.prog 237 = none := by kernel_rfl
theorem ty238 : tyI Tryd.prog 238 = some ⟨true, 4, [(.pointer none), (.pointer none), (.pointer none), (.string ⟨#[]⟩)], 40⟩ := by kernel_rfl
theorem el238 : elemI Tryd.prog 238 = none := by kernel_rfl
theorem pl238 : placesI Tryd.prog 238 = some [(0, 1), (1, 1), (2, 1), (3, 1)] := by kernel_rfl
theorem fi238_0 : fieldI Tryd.prog 238 0 = some (0, 1, false) := by kernel_rfl
theorem fi238_1 : fieldI Tryd.prog 238 1 = some (1, 1, false) := by kernel_rfl
theorem fi238_2 : fieldI Tryd.prog 238 2 = some (2, 1, false) := by kernel_rfl
theorem fi238_3 : fieldI Tryd.prog 238 3 = some (3, 1, false) := by kernel_rfl
theorem ty239 : tyI Tryd.prog 239 = some ⟨true, 4, [(.pointer none), (.pointer none), (.pointer none), (.string ⟨#[]⟩)], 40⟩ := by kernel_rfl
theorem el239 : elemI Tryd.prog 239 = none := by kernel_rfl
theorem pl239 : placesI Tryd.prog 239 = some [(0, 1), (1, 1), (2, 1), (3, 1)] := by kernel_rfl
theorem fi239_0 : fieldI Tryd.prog 239 0 = some (0, 1, false) := by kernel_rfl
theorem fi239_1 : fieldI Tryd.prog 239 1 = some (1, 1, false) := by kernel_rfl
theorem fi239_2 : fieldI Tryd.prog 239 2 = some (2, 1, false) := by kernel_rfl
theorem fi239_3 : fieldI Tryd.prog 239 3 = some (3, 1, false) := by kernel_rfl
theorem ty240 : tyI Tryd.prog 240 = some ⟨true, 0, [], 0⟩ := by kernel_rfl
theorem el240 : elemI Tryd.prog 240 = none := by kernel_rfl
theorem ar240 : arrI Tryd.prog 240 = some (0, 16) := by kernel_rfl
theorem pl240 : placesI Tryd.prog 240 = some [] := by kernel_rfl
theorem ty241 : tyI Tryd.prog 241 = some ⟨true, 0, [], 0⟩ := by kernel_rfl
theorem el241 : elemI Tryd.prog 241 = none := by kernel_rfl
theorem pl241 : placesI Tryd.prog 241 = some [(0, 0)] := by kernel_rfl
theorem ty242 : tyI Tryd.prog 242 = some ⟨true, 0, [], 0⟩ := by kernel_rfl
theorem el242 : elemI Tryd.prog 242 = none := by kernel_rfl
theorem pl242 : placesI Tryd.prog 242 = some [(0, 0)] := by kernel_rfl
theorem ty243 : tyI Tryd.prog 243 = some ⟨false, 1, [(.int .u8 0)], 1⟩ := by kernel_rfl
theorem el243 : elemI Tryd.prog 243 = none := by kernel_rfl
theorem it243 : intI Tryd.prog 243 = some .u8 := by kernel_rfl
theorem ty244 : tyI Tryd.prog 244 = some ⟨false, 1, [(.int .u8 0)], 1⟩ := by kernel_rfl
theorem el244 : elemI Tryd.prog 244 = none := by kernel_rfl
theorem it244 : intI Tryd.prog 244 = some .u8 := by kernel_rfl
theorem ty245 : tyI Tryd.prog 245 = some ⟨false, 1, [.nilFunc], 8⟩ := by kernel_rfl
theorem el245 : elemI Tryd.prog 245 = none := by kernel_rfl
theorem ty246 : tyI Tryd.prog 246 = some ⟨false, 1, [(.pointer none)], 8⟩ := by kernel_rfl
theorem el246 : elemI Tryd.prog 246 = none := by kernel_rfl
theorem ty247 : tyI Tryd.prog 247 = some ⟨false, 1, [(.int .i32 0)], 4⟩ := by kernel_rfl
theorem el247 : elemI Tryd.prog 247 = none := by kernel_rfl
theorem it247 : intI Tryd.prog 247 = some .i32 := by kernel_rfl
theorem ty248 : tyI Tryd.prog 248 = some ⟨false, 1, [(.int .i32 0)], 4⟩ := by kernel_rfl
theorem el248 : elemI Tryd.prog 248 = none := by kernel_rfl
theorem it248 : intI Tryd.prog 248 = some .i32 := by kernel_rfl
theorem ty249 : tyI Tryd.prog 249 = some ⟨true, 11, [(.int .u64 0), (.int .u64 0), (.int .u32 0), (.int .u8 0), (.int .u8 0), (.int .u8 0), (.int .u8 0), .nilFunc, (.pointer none), (.int .i32 0), (.int .i32 0)], 48⟩ := by kernel_rfl
theorem el249 : elemI Tryd.prog 249 = none := by kernel_rfl
theorem pl249 : placesI Tryd.prog 249 = some [(0, 1), (1, 1), (2, 1), (3, 1), (4, 1), (5, 1), (6, 1), (7, 1), (8, 1), (9, 1), (10, 1)] := by kernel_rfl
theorem fi249_0 : fieldI Tryd.prog 249 0 = some (0, 1, false) := by kernel_rfl
theorem fi249_1 : fieldI Tryd.prog 249 1 = some (1, 1, false) := by kernel_rfl
theorem fi249_2 : fieldI Tryd.prog 249 2 = some (2, 1, false) := by kernel_rfl
theorem fi249_3 : fieldI Tryd.prog 249 3 = some (3, 1, false) := by kernel_rfl
theorem fi249_4 : fieldI Tryd.prog 249 4 = some (4, 1, false) := by kernel_rfl
theorem fi249_5 : fieldI Tryd.prog 249 5 = some (5, 1, false) := by kernel_rfl
theorem fi249_6 : fieldI Tryd.prog 249 6 = some (6, 1, false) := by kernel_rfl
theorem fi249_7 : fieldI Tryd.prog 249 7 = some (7, 1, false) := by kernel_rfl
theorem fi249_8 : fieldI Tryd.prog 249 8 = some (8, 1, false) := by kernel_rfl
theorem fi249_9 : fieldI Tryd.prog 249 9 = some (9, 1, false) := by kernel_rfl
theorem fi249_10 : fieldI Tryd.prog 249 10 = some (10, 1, false) := by kernel_rfl
theorem ty250 : tyI Tryd.prog 250 = some ⟨true, 11, [(.int .u64 0), (.int .u64 0), (.int .u32 0), (.int .u8 0), (.int .u8 0), (.int .u8 0), (.int .u8 0), .nilFunc, (.pointer none), (.int .i32 0), (.int .i32 0)], 48⟩ := by kernel_rfl
theorem el250 : elemI Tryd.prog 250 = none := by kernel_rfl
theorem pl250 : placesI Tryd.prog 250 = some [(0, 1), (1, 1), (2, 1), (3, 1), (4, 1), (5, 1), (6, 1), (7, 1), (8, 1), (9, 1), (10, 1)] := by kernel_rfl
theorem fi250_0 : fieldI Tryd.prog 250 0 = some (0, 1, false) := by kernel_rfl
theorem fi250_1 : fieldI Tryd.prog 250 1 = some (1, 1, false) := by kernel_rfl
theorem fi250_2 : fieldI Tryd.prog 250 2 = some (2, 1, false) := by kernel_rfl
theorem fi250_3 : fieldI Tryd.prog 250 3 = some (3, 1, false) := by kernel_rfl
theorem fi250_4 : fieldI Tryd.prog 250 4 = some (4, 1, false) := by kernel_rfl
theorem fi250_5 : fieldI Tryd.prog 250 5 = some (5, 1, false) := by kernel_rfl
theorem fi250_6 : fieldI Tryd.prog 250 6 = some (6, 1, false) := by kernel_rfl
theorem fi250_7 : fieldI Tryd.prog 250 7 = some (7, 1, false) := by kernel_rfl
theorem fi250_8 : fieldI Tryd.prog 250 8 = some (8, 1, false) := by kernel_rfl
theorem fi250_9 : fieldI Tryd.prog 250 9 = some (9, 1, false) := by kernel_rfl
theorem fi250_10 : fieldI Tryd.prog 250 10 = some (10, 1, false) := by kernel_rfl
theorem ty251 : tyI Tryd.prog 251 = some ⟨false, 1, [(.pointer none)], 8⟩ := by kernel_rfl
theorem el251 : elemI Tryd.prog 251 = none := by kernel_rfl
attribute [go_sem] el0 ty1 el1 ty2 el2 it2 ty3 el3 it3 ty4 el4 bl4 ty5 el5 it5 ty6 el6 it6 ty7 el7 eq7 pl7 fi7_0 fi7_1 fi7_2 fi7_3 ty8 el8 eq8 pl8 fi8_0 fi8_1 fi8_2 fi8_3 ty9 el9 ty10 el10 ty11 el11 ty12 el12 it12 ty13 el13 pl13 fi13_0 fi13_1 ty14 el14 pl14 fi14_0 fi14_1 ty15 el15 ty16 el16 ty17 el17 ty18 el18 pl18 fi18_0 ty19 el19 pl19 fi19_0 ty20 el20 ty21 el21 it21 ty22 el22 ar22 pl22 ty23 el23 ar23 pl23 ty24 el24 ar24 pl24 ty25 el25 eq25 pl25 fi25_0 fi25_1 fi25_2 ty26 el26 eq26 pl26 fi26_0 fi26_1 fi26_2 ty27 el27 eq27 pl27 fi27_0 fi27_1 ty28 el28 eq28 pl28 fi28_0 fi28_1 ty29 el29 it29 el30 ty31 el31 ty32 el32 ty33 el33 eq33 pl33 fi33_0 fi33_1 ty34 el34 eq34 pl34 fi34_0 fi34_1 ty35 el35 eq35 pl35 fi35_0 fi35_1 ty36 el36 eq36 pl36 fi36_0 fi36_1 ty37 el37 eq37 pl37 fi37_0 fi37_1 fi37_2 ty38 el38 eq38 pl38 fi38_0 fi38_1 fi38_2 ty39 el39 eq39 pl39 fi39_0 fi39_1 ty40 el40 eq40 pl40 fi40_0 fi40_1 el41 ty42 el42 ty43 el43 el44 ty45 el45 ty46 el46 ty47 el47 el48 ty49 el49 ty50 el50 ty51 el51 ty52 el52 ty53 el53 ty54 el54 ty55 el55 ty56 el56 ty57 el57 pl57 fi57_0 fi57_1 fi57_2 ty58 el58 pl58 fi58_0 fi58_1 fi58_2 ty59 el59 ar59 pl59 ty60 el60 ty61 el61 ty62 el62 pl62 fi62_0 fi62_1 ty63 el63 pl63 fi63_0 fi63_1 ty64 el64 ty65 el65 ty66 el66 pl66 fi66_0 fi66_1 ty67 el67 pl67 fi67_0 fi67_1 ty68 el68 el69 ty70 el70 ty71 el71 ty72 el72 ty73 el73 ty74 el74 eq74 pl74 fi74_0 fi74_1 ty75 el75 eq75 pl75 fi75_0 fi75_1 ty76 el76 eq76 pl76 fi76_0 fi76_1 ty77 el77 eq77 pl77 fi77_0 fi77_1 ty78 el78 ty79 el79 ty80 el80 ty81 el81 ar81 pl81 ty82 el82 el83 ty84 el84 el85 ty86 el86 ty87 el87 ty88 el88 ty89 el89 ty90 el90 eq90 pl90 fi90_0 ty91 el91 eq91 pl91 fi91_0 ty92 el92 ty93 el93 ty94 el94 ty95 el95 eq95 pl95 fi95_0 ty96 el96 eq96 pl96 fi96_0 ty97 el97 ty98 el98 ty99 el99 el100 ty101 el101 ty102 el102 it102 ty103 el103 it103 ty104 el104 ty105 el105 ty106 el106 pl106 fi106_0 fi106_1 ty107 el107 pl107 fi107_0 fi107_1 ty108 el108 ty109 el109 ty110 el110 ty111 el111 ty112 el112 ty113 el113 ty114 el114 ty115 el115 pl115 fi115_0 fi115_1 ty116 el116 pl116 fi116_0 fi116_1 ty117 el117 ty118 el118 it118 ty119 el119 eq119 pl119 fi119_0 fi119_1 fi119_2 ty120 el120 eq120 pl120 fi120_0 fi120_1 fi120_2 ty121 el121 ty122 el122 ty123 el123 eq123 pl123 fi123_0 fi123_1 ty124 el124 eq124 pl124 fi124_0 fi124_1 ty125 el125 ty126 el126 it126 ty127 el127 eq127 pl127 fi127_0 fi127_1 fi127_2 fi127_3 fi127_4 fi127_5 ty128 el128 eq128 pl128 fi128_0 fi128_1 fi128_2 fi128_3 fi128_4 fi128_5 ty129 el129 eq129 pl129 fi129_0 fi129_1 fi129_2 ty130 el130 eq130 pl130 fi130_0 fi130_1 fi130_2 ty131 el131 ar131 pl131 ty132 el132 ty133 el133 pl133 fi133_0 fi133_1 fi133_2 ty134 el134 pl134 fi134_0 fi134_1 fi134_2 el135 ty136 el136 el137 ty138 el138 ty139 el139 ty140 el140 el141 ty142 el142 ty143 el143 it143 ty144 el144 ty145 el145 ty146 el146 ty147 el147 eq147 pl147 fi147_0 fi147_1 fi147_2 fi147_3 ty148 el148 eq148 pl148 fi148_0 fi148_1 fi148_2 fi148_3 ty149 el149 ty150 el150 ty151 el151 ty152 el152 ty153 el153 ty154 el154 pl154 fi154_0 fi154_1 ty155 el155 pl155 fi155_0 fi155_1 el156 ty157 el157 el158 ty159 el159 ty160 el160 ty161 el161 ty162 el162 ty163 el163 ty164 el164 ty165 el165 ty166 el166 ty167 el167 ty168 el168 ty169 el169 ty170 el170 ty171 el171 ty172 el172 ty173 el173 ty174 el174 pl174 fi174_0 ty175 el175 pl175 fi175_0 el176 ty177 el177 ty178 el178 ty179 el179 ty180 el180 ty181 el181 ty182 el182 ty183 el183 ty184 el184 ty185 el185 ty186 el186 ty187 el187 ty188 el188 ty189 el189 mp189 ty190 el190 pl190 fi190_0 fi190_1 fi190_2 ty191 el191 pl191 fi191_0 fi191_1 fi191_2 el192 ty193 el193 ty194 el194 ty195 el195 ty196 el196 ty197 el197 ty198 el198 ty199 el199 ty200 el200 ty201 el201 ty202 el202 ty203 el203 ty204 el204 ty205 el205 ty206 el206 it206 ty207 el207 ty208 el208 it208 ty209 el209 ty210 el210 ty211 el211 ty212 el212 ty213 el213 ty214 el214 ty215 el215 ty216 el216 ty217 el217 ty218 el218 ty219 el219 ty220 el220 ty221 el221 ty222 el222 ty223 el223 ty224 el224 ty225 el225 ar225 pl225 el226 ar226 ty227 el227 ty228 el228 ty229 el229 ty230 el230 ty231 el231 ty232 el232 ty233 el233 ty234 el234 ty235 el235 ty236 el236 ty237 el237 ty238 el238 pl238 fi238_0 fi238_1 fi238_2 fi238_3 ty239 el239 pl239 fi239_0 fi239_1 fi239_2 fi239_3 ty240 el240 ar240 pl240 ty241 el241 pl241 ty242 el242 pl242 ty243 el243 it243 ty244 el244 it244 ty245 el245 ty246 el246 ty247 el247 it247 ty248 el248 it248 ty249 el249 pl249 fi249_0 fi249_1 fi249_2 fi249_3 fi249_4 fi249_5 fi249_6 fi249_7 fi249_8 fi249_9 fi249_10 ty250 el250 pl250 fi250_0 fi250_1 fi250_2 fi250_3 fi250_4 fi250_5 fi250_6 fi250_7 fi250_8 fi250_9 fi250_10 ty251 el251
end Go.Dw.Seat
end
section
namespace Go.Dw.Seat
open Go Go.Dw
def Tm (n : Nat) : Operand := .tmp n
def Kn (n : Int) : Operand := .const (.int .i64 n)
def Kb (b : Bool) : Operand := .const (.bool b)
def Mv (a c : Nat) : SO := ⟨some a, .move (.tmp c), none⟩
def Sg (a c : Nat) : SO := ⟨some a, .assign (.tmp c), none⟩
def Sk (a : Nat) (c : Operand) : SO := ⟨some a, .assign c, none⟩
def Ld (a b c : Nat) : SO := ⟨some a, .load b (.tmp c), none⟩
def Fa (a b c d : Nat) : SO := ⟨some a, .fieldAddr b (.tmp c) d, none⟩
def Xt (a c d : Nat) : SO := ⟨some a, .extract (.tmp c) d, none⟩
def Ix (a b c d : Nat) : SO := ⟨some a, .indexAddr b (.tmp c) (.tmp d), none⟩
def Lq (a c t : Nat) : SO := ⟨some a, .call { callee := .builtin .len, args := #[.tmp c], argTypes := #[t] }, none⟩
def Cl (a f : Nat) (x : Array Operand) (y : Array TypeId) : SO := ⟨some a, .call { callee := .value (.func f), args := x, argTypes := y }, none⟩
def Bo (a : Nat) (o : BinOp) (t : Nat) (x y : Operand) (u : Nat) : SO := ⟨some a, .binOp o t x y u, none⟩
def Pk (a x : Nat) (y z : Operand) : SO := ⟨some a, .pick (.tmp x) y z, none⟩
def Sr (t : Nat) (x y : Operand) : SO := ⟨none, .store t x y, none⟩
def Nk (a c : Nat) : SO := ⟨some a, .nilCheck (.tmp c), none⟩
def Oo (a : Nat) (o : Op) : SO := ⟨some a, o, none⟩
def Gm (a c g : Nat) (b : Bool) : SO := ⟨some a, .move (.tmp c), some (g, b)⟩
def Gl (a t c g : Nat) (b : Bool) : SO := ⟨some a, .load t (.tmp c), some (g, b)⟩
def Gf (a t c d g : Nat) (b : Bool) : SO := ⟨some a, .fieldAddr t (.tmp c) d, some (g, b)⟩
def Gx (a t c d g : Nat) (b : Bool) : SO := ⟨some a, .indexAddr t (.tmp c) (.tmp d), some (g, b)⟩
def Gc (a f : Nat) (x : Array Operand) (y : Array TypeId) (g : Nat) (b : Bool) : SO := ⟨some a, .call { callee := .value (.func f), args := x, argTypes := y }, some (g, b)⟩
def Gb (a : Nat) (o : BinOp) (t : Nat) (x y : Operand) (u g : Nat) (b : Bool) : SO := ⟨some a, .binOp o t x y u, some (g, b)⟩
def Og (a : Nat) (o : Op) (g : Nat) (b : Bool) : SO := ⟨some a, o, some (g, b)⟩
abbrev R0 (l : List SO) : SC := .reg false l
abbrev R1 (l : List SO) : SC := .reg true l
attribute [go_sem] Tm Kn Kb Mv Sg Sk Ld Fa Xt Ix Lq Cl Bo Pk Sr Nk Oo Gm Gl Gf Gx Gc Gb Og
end Go.Dw.Seat
namespace Go.Dw.Seat
open Go Go.Dw Go.Proofs
def o3_0 : SO := (Ld 38 26 7)
def o3_1 : SO := (Oo 39 (.indexAddr 23 (Tm 4) (Kn 0)))
def o3_2 : SO := (Ld 40 5 39)
def o3_3 : SO := (Oo 41 (.convert 5 3 (Tm 40)))
def o3_4 : SO := (Bo 42 .rem 3 (Tm 41) (Kn 20) 3)
def o3_5 : SO := (Oo 43 (.indexAddr 23 (Tm 4) (Kn 0)))
def o3_6 : SO := (Ld 44 5 43)
def o3_7 : SO := (Oo 45 (.convert 5 3 (Tm 44)))
def o3_8 : SO := (Bo 46 .rem 3 (Tm 45) (Kn 20) 3)
def o3_9 : SO := (Bo 47 .add 3 (Tm 46) (Kn 5) 3)
def o3_10 : SO := (Cl 48 6 #[Tm 42, Tm 47] #[3, 3])
def o3_11 : SO := (Oo 49 (.indexAddr 23 (Tm 4) (Kn 1)))
def o3_12 : SO := (Ld 50 5 49)
def o3_13 : SO := (Oo 51 (.convert 5 3 (Tm 50)))
def o3_14 : SO := (Bo 52 .rem 3 (Tm 51) (Kn 70) 3)
def o3_15 : SO := (Oo 53 (.indexAddr 23 (Tm 4) (Kn 1)))
def o3_16 : SO := (Ld 54 5 53)
def o3_17 : SO := (Oo 55 (.convert 5 3 (Tm 54)))
def o3_18 : SO := (Bo 56 .rem 3 (Tm 55) (Kn 70) 3)
def o3_19 : SO := (Oo 57 (.indexAddr 23 (Tm 4) (Kn 2)))
def o3_20 : SO := (Ld 58 5 57)
def o3_21 : SO := (Oo 59 (.convert 5 3 (Tm 58)))
def o3_22 : SO := (Bo 60 .rem 3 (Tm 59) (Kn 30) 3)
def o3_23 : SO := (Bo 61 .add 3 (Tm 56) (Tm 60) 3)
def o3_24 : SO := (Cl 62 6 #[Tm 52, Tm 61] #[3, 3])
def o3_25 : SO := (Oo 63 (.build 34 #[(0, (Tm 48)), (1, (Tm 62))]))
def o3_26 : SO := (Cl 64 5 #[Tm 38, Tm 63] #[26, 34])
def o3_27 : SO := (Mv 37 64)
def o3_28 : SO := (Xt 65 37 0)
def o3_29 : SO := (Oo 8 (.alloc 28))
def o3_30 : SO := (Sr 28 (Tm 8) (Tm 65))
def o3_31 : SO := (Xt 66 37 1)
def o3_32 : SO := (Sg 9 66)
def o3_33 : SO := (Oo 83 (.indexAddr 24 (Tm 5) (Kn 0)))
def o3_34 : SO := (Ld 84 5 83)
def o3_35 : SO := (Oo 85 (.convert 5 3 (Tm 84)))
def o3_36 : SO := (Bo 86 .rem 3 (Tm 85) (Kn 11) 3)
def o3_37 : SO := (Oo 87 (.indexAddr 24 (Tm 5) (Kn 1)))
def o3_38 : SO := (Ld 88 5 87)
def o3_39 : SO := (Oo 89 (.convert 5 3 (Tm 88)))
def o3_40 : SO := (Bo 90 .rem 3 (Tm 89) (Kn 11) 3)
def o3_41 : SO := (Oo 91 (.build 36 #[(0, (Tm 86)), (1, (Tm 90))]))
def o3_42 : SO := (Oo 92 (.indexAddr 23 (Tm 4) (Kn 3)))
def o3_43 : SO := (Ld 93 5 92)
def o3_44 : SO := (Oo 94 (.convert 5 3 (Tm 93)))
def o3_45 : SO := (Bo 95 .rem 3 (Tm 94) (Kn 20) 3)
def o3_46 : SO := (Bo 96 .add 3 (Kn 50) (Tm 95) 3)
def o3_47 : SO := (Cl 97 6 #[Kn 50, Tm 96] #[3, 3])
def o3_48 : SO := (Oo 98 (.indexAddr 23 (Tm 4) (Kn 4)))
def o3_49 : SO := (Ld 99 5 98)
def o3_50 : SO := (Oo 100 (.convert 5 3 (Tm 99)))
def o3_51 : SO := (Bo 101 .rem 3 (Tm 100) (Kn 60) 3)
def o3_52 : SO := (Bo 102 .sub 3 (Kn 50) (Tm 101) 3)
def o3_53 : SO := (Oo 103 (.call { callee := .builtin .max, args := #[Kn 0, Tm 102], argTypes := #[3, 3] }))
def o3_54 : SO := (Oo 104 (.indexAddr 23 (Tm 4) (Kn 5)))
def o3_55 : SO := (Ld 105 5 104)
def o3_56 : SO := (Oo 106 (.convert 5 3 (Tm 105)))
def o3_57 : SO := (Bo 107 .rem 3 (Tm 106) (Kn 60) 3)
def o3_58 : SO := (Bo 108 .add 3 (Kn 70) (Tm 107) 3)
def o3_59 : SO := (Cl 109 6 #[Tm 103, Tm 108] #[3, 3])
def o3_60 : SO := (Oo 11 (.alloc 36))
def o3_61 : SO := (Oo 12 (.alloc 38))
def o3_62 : SO := (Sr 36 (Tm 11) (Tm 91))
def o3_63 : SO := (Mv 110 10)
def o3_64 : SO := (Oo 111 (.build 38 #[(0, (Tm 97)), (1, (Tm 109)), (2, (Tm 110))]))
def o3_65 : SO := (Sr 38 (Tm 12) (Tm 111))
def s3 : SF := ⟨246, [.tmp 6], (.seq (R0 [Oo 3 (.box 22 (Tm 0)), Oo 4 (.box 23 (Tm 1)), Oo 5 (.box 24 (Tm 2)), Sk 6 (Kb false)]) (.seq (R0 [Oo 23 (.indexAddr 22 (Tm 3) (Kn 0)), Ld 24 5 23, Oo 25 (.convert 5 3 (Tm 24)), Bo 26 .mul 3 (Kn 2) (Tm 25) 3, Bo 27 .add 3 (Kn 1) (Tm 26) 3, Oo 28 (.indexAddr 22 (Tm 3) (Kn 1)), Ld 29 5 28, Oo 30 (.convert 5 3 (Tm 29)), Bo 31 .rem 3 (Tm 30) (Kn 21) 3, Oo 32 (.indexAddr 22 (Tm 3) (Kn 2)), Ld 33 5 32, Oo 34 (.convert 5 3 (Tm 33)), Bo 35 .rem 3 (Tm 34) (Kn 21) 3, Oo 36 (.build 26 #[(0, (Tm 27)), (1, (Tm 31)), (2, (Tm 35))]), Oo 7 (.alloc 26), Sr 26 (Tm 7) (Tm 36)]) (.seq (.ord (.op o3_0 (.op o3_1 (.op o3_2 (.op o3_3 (.op o3_4 (.op o3_5 (.op o3_6 (.op o3_7 (.op o3_8 (.op o3_9 (.op o3_10 (.op o3_11 (.op o3_12 (.op o3_13 (.op o3_14 (.op o3_15 (.op o3_16 (.op o3_17 (.op o3_18 (.op o3_19 (.op o3_20 (.op o3_21 (.op o3_22 (.op o3_23 (.op o3_24 (.op o3_25 (.op o3_26 (.op o3_27 (.op o3_28 (.op o3_29 (.app o3_30 [37] [66] (.op o3_31 (.op o3_32 .done)))))))))))))))))))))))))))))))))) (.seq (.seq (R0 [Mv 67 9, Bo 68 .neq 29 (Tm 67) (Kn 0) 29, Mv 69 68, Gf 70 28 8 0 69 false, Gl 71 3 70 69 false, Gb 72 .lss 3 (Tm 71) (Kn 1) 3 69 false, Pk 73 69 (Kb true) (Tm 72), Mv 74 73, Gf 75 28 8 1 74 false, Gl 76 3 75 74 false, Gb 77 .gtr 3 (Tm 76) (Kn 2400) 3 74 false, Pk 78 74 (Kb true) (Tm 77)]) (.cond (Tm 78) (.seq (R0 [Sk 6 (Kb false)]) .ret) .skip)) (.seq (R0 [Fa 79 28 8 1, Ld 80 3 79, Bo 81 .add 3 (Tm 80) (Kn 59) 3, Bo 82 .quo 3 (Tm 81) (Kn 60) 3, Sg 10 82]) (.seq (.ord (.op o3_33 (.op o3_34 (.op o3_35 (.op o3_36 (.op o3_37 (.op o3_38 (.op o3_39 (.op o3_40 (.op o3_41 (.op o3_42 (.op o3_43 (.op o3_44 (.op o3_45 (.op o3_46 (.op o3_47 (.op o3_48 (.op o3_49 (.op o3_50 (.op o3_51 (.op o3_52 (.op o3_53 (.op o3_54 (.op o3_55 (.op o3_56 (.op o3_57 (.op o3_58 (.op o3_59 (.op o3_60 (.op o3_61 (.app o3_62 [10, 97, 109, 110] [110, 111] (.op o3_63 (.op o3_64 (.op o3_65 .done)))))))))))))))))))))))))))))))))) (.seq (R0 [Oo 112 (.indexAddr 23 (Tm 4) (Kn 6)), Ld 113 5 112, Oo 114 (.convert 5 3 (Tm 113)), Bo 115 .rem 3 (Tm 114) (Kn 140) 3, Oo 116 (.indexAddr 23 (Tm 4) (Kn 6)), Ld 117 5 116, Oo 118 (.convert 5 3 (Tm 117)), Bo 119 .rem 3 (Tm 118) (Kn 140) 3, Bo 120 .add 3 (Tm 119) (Kn 9) 3, Cl 121 6 #[Tm 115, Tm 120] #[3, 3], Oo 122 (.build 40 #[(0, (Tm 121)), (1, (Kn 1))]), Oo 13 (.alloc 40), Sr 40 (Tm 13) (Tm 122)]) (.seq (R0 [Ld 124 36 11, Fa 125 38 12 0, Ld 126 28 125, Fa 127 40 13 0, Ld 128 28 127, Fa 129 38 12 1, Ld 130 28 129, Cl 131 7 #[Tm 124, Tm 126, Tm 128, Tm 130] #[36, 28, 28, 28], Mv 123 131, Xt 132 123 0, Xt 133 123 1, Sg 14 132, Sg 15 133]) (.seq (R0 [Ld 135 36 11, Ld 136 38 12, Oo 137 (.buildSlice 46 1 #[(0, (Tm 136))]), Ld 138 40 13, Oo 139 (.buildSlice 47 1 #[(0, (Tm 138))]), Cl 140 8 #[Tm 135, Tm 137, Tm 139] #[36, 46, 47], Mv 134 140, Xt 141 134 0, Xt 142 134 1, Sg 16 141, Sg 17 142]) (.seq (R0 [Ld 144 36 11, Ld 145 38 12, Oo 146 (.buildSlice 46 1 #[(0, (Tm 145))]), Ld 147 40 13, Oo 148 (.buildSlice 47 1 #[(0, (Tm 147))]), Cl 149 9 #[Tm 144, Tm 146, Tm 148] #[36, 46, 47], Mv 143 149, Xt 150 143 0, Xt 151 143 1, Sg 18 150, Sg 19 151]) (.seq (R1 [Ld 153 26 7, Oo 154 (.indexAddr 23 (Tm 4) (Kn 0)), Ld 155 5 154, Oo 156 (.convert 5 3 (Tm 155)), Bo 157 .rem 3 (Tm 156) (Kn 20) 3, Oo 158 (.indexAddr 23 (Tm 4) (Kn 0)), Ld 159 5 158, Oo 160 (.convert 5 3 (Tm 159)), Bo 161 .rem 3 (Tm 160) (Kn 20) 3, Bo 162 .add 3 (Tm 161) (Kn 5) 3, Cl 163 6 #[Tm 157, Tm 162] #[3, 3], Oo 164 (.indexAddr 23 (Tm 4) (Kn 1)), Ld 165 5 164, Oo 166 (.convert 5 3 (Tm 165)), Bo 167 .rem 3 (Tm 166) (Kn 70) 3, Oo 168 (.indexAddr 23 (Tm 4) (Kn 1)), Ld 169 5 168, Oo 170 (.convert 5 3 (Tm 169)), Bo 171 .rem 3 (Tm 170) (Kn 70) 3, Oo 172 (.indexAddr 23 (Tm 4) (Kn 2)), Ld 173 5 172, Oo 174 (.convert 5 3 (Tm 173)), Bo 175 .rem 3 (Tm 174) (Kn 30) 3, Bo 176 .add 3 (Tm 171) (Tm 175) 3, Cl 177 6 #[Tm 167, Tm 176] #[3, 3], Oo 178 (.build 34 #[(0, (Tm 163)), (1, (Tm 177))]), Oo 179 (.buildSlice 50 1 #[(0, (Tm 178))]), Mv 180 10, Bo 181 .mul 3 (Kn 60) (Tm 180) 3, Oo 182 (.call { callee := .builtin .min, args := #[Kn 2400, Tm 181], argTypes := #[3, 3] }), Oo 183 (.buildSlice 43 1 #[(0, (Tm 182))]), Cl 184 10 #[Tm 153, Tm 179, Tm 183] #[26, 50, 43], Mv 152 184, Xt 185 152 0, Xt 186 152 1, Xt 187 152 2, Sg 20 185, Sg 21 186, Sg 22 187]) (.seq (.seq (R0 [Mv 188 15, Bo 189 .neq 29 (Tm 188) (Kn 0) 29, Mv 190 189, Gm 191 22 190 false, Gb 192 .neq 29 (Tm 191) (Kn 0) 29 190 false, Pk 193 190 (Kb true) (Tm 192), Mv 194 193, Gm 195 21 194 false, Og 196 (.call { callee := .builtin .len, args := #[Tm 195], argTypes := #[43] }) 194 false, Gb 197 .neq 3 (Tm 196) (Kn 0) 3 194 false, Pk 198 194 (Kb true) (Tm 197)]) (.cond (Tm 198) (.seq (R0 [Sk 6 (Kb false)]) .ret) .skip)) (.seq (.seq (R0 [Mv 199 14, Mv 200 10, Bo 201 .geq 3 (Tm 199) (Tm 200) 3]) (.cond (Tm 201) (.seq (R0 [Mv 202 17, Bo 203 .eql 29 (Tm 202) (Kn 0) 29, Mv 204 203, Gm 205 19 204 true, Gb 206 .eql 29 (Tm 205) (Kn 7) 29 204 true, Pk 207 204 (Tm 206) (Kb false), Mv 208 207, Gm 209 16 208 true, Og 210 (.buildSlice 43 1 #[(0, (Kn 0))]) 208 true, Gc 211 11 #[Tm 209, Tm 210] #[43, 43] 208 true, Pk 212 208 (Tm 211) (Kb false), Mv 213 212, Gm 214 18 213 true, Og 215 (.call { callee := .builtin .len, args := #[Tm 214], argTypes := #[43] }) 213 true, Gb 216 .eql 3 (Tm 215) (Kn 0) 3 213 true, Pk 217 213 (Tm 216) (Kb false), Mv 218 217, Gc 219 12 #[] #[] 218 true, Pk 220 218 (Tm 219) (Kb false), Mv 221 220, Gc 222 13 #[] #[] 221 true, Pk 223 221 (Tm 222) (Kb false), Sg 6 223]) .ret) .skip)) (.seq (R0 [Mv 224 17, Bo 225 .eql 29 (Tm 224) (Kn 9) 29, Mv 226 225, Gm 227 19 226 true, Gb 228 .eql 29 (Tm 227) (Kn 0) 29 226 true, Pk 229 226 (Tm 228) (Kb false), Mv 230 229, Gm 231 18 230 true, Og 232 (.buildSlice 43 1 #[(0, (Kn 0))]) 230 true, Gc 233 11 #[Tm 231, Tm 232] #[43, 43] 230 true, Pk 234 230 (Tm 233) (Kb false), Mv 235 234, Gm 236 16 235 true, Og 237 (.call { callee := .builtin .len, args := #[Tm 236], argTypes := #[43] }) 235 true, Gb 238 .eql 3 (Tm 237) (Kn 0) 3 235 true, Pk 239 235 (Tm 238) (Kb false), Mv 240 239, Gc 241 12 #[] #[] 240 true, Pk 242 240 (Tm 241) (Kb false), Mv 243 242, Gc 244 13 #[] #[] 243 true, Pk 245 243 (Tm 244) (Kb false), Sg 6 245]) .ret))))))))))))))⟩
theorem sf3 : sfOf Tryd.f3 = some s3 := by kernel_rfl
theorem hb3 : hasBody Tryd.prog 3 = true := by kernel_rfl
def s5 : SF := ⟨20, [.cell 4 28, .tmp 5], (.seq (R0 [Oo 2 (.box 26 (Tm 0)), Oo 3 (.box 34 (Tm 1)), Oo 4 (.alloc 28), Sk 5 (Kn 0)]) (.seq (.block 0 (.seq (R0 [Ld 7 26 2, Cl 8 27 #[Tm 7] #[26], Oo 9 (.unOp .not 4 (Tm 8)), Sg 6 9]) (.cond (Tm 6) (.seq (R0 [Ld 10 28 4, Sr 28 (Tm 4) (Tm 10), Sk 5 (Kn 2)]) .ret) (.seq (R0 [Ld 12 34 3, Cl 13 28 #[Tm 12] #[34], Oo 14 (.unOp .not 4 (Tm 13)), Sg 11 14]) (.cond (Tm 11) (.seq (R0 [Ld 15 28 4, Sr 28 (Tm 4) (Tm 15), Sk 5 (Kn 3)]) .ret) .skip))))) (.seq (R0 [Ld 16 26 2, Oo 17 (.build 91 #[(0, (Tm 16))]), Ld 18 34 3, Cl 19 29 #[Tm 17, Tm 18] #[91, 34], Sr 28 (Tm 4) (Tm 19), Sk 5 (Kn 0)]) .ret)))⟩
theorem sf5 : sfOf Tryd.f5 = some s5 := by kernel_rfl
theorem hb5 : hasBody Tryd.prog 5 = true := by kernel_rfl
def s6 : SF := ⟨8, [.cell 4 28], (.seq (R0 [Oo 4 (.alloc 28)]) (.seq (R0 [Mv 5 0, Mv 6 1, Oo 7 (.build 28 #[(0, (Tm 5)), (1, (Tm 6))]), Sr 28 (Tm 4) (Tm 7)]) .ret))⟩
theorem sf6 : sfOf Tryd.f6 = some s6 := by kernel_rfl
theorem hb6 : hasBody Tryd.prog 6 = true := by kernel_rfl
def s7 : SF := ⟨44, [.tmp 8, .tmp 9], (.seq (R0 [Oo 4 (.box 36 (Tm 0)), Oo 5 (.box 28 (Tm 1)), Oo 6 (.box 28 (Tm 2)), Oo 7 (.box 28 (Tm 3)), Sk 8 (Kn 0), Sk 9 (Kn 0)]) (.seq (.block 0 (.seq (R0 [Ld 12 36 4, Cl 13 30 #[Tm 12] #[36], Oo 14 (.unOp .not 4 (Tm 13)), Sg 11 14]) (.cond (Tm 11) (.seq (R0 [Sk 8 (Kn 0), Sk 9 (Kn 2)]) .ret) (.seq (R0 [Ld 16 28 5, Ld 17 28 6, Ld 18 28 7, Oo 19 (.buildSlice 82 3 #[(0, (Tm 16)), (1, (Tm 17)), (2, (Tm 18))]), Cl 20 31 #[Tm 19] #[82], Oo 21 (.unOp .not 4 (Tm 20)), Sg 15 21]) (.cond (Tm 15) (.seq (R0 [Sk 8 (Kn 0), Sk 9 (Kn 3)]) .ret) (.seq (R0 [Ld 23 28 5, Oo 24 (.build 96 #[(0, (Tm 23))]), Ld 25 28 7, Cl 26 32 #[Tm 24, Tm 25] #[96, 28], Oo 27 (.unOp .not 4 (Tm 26)), Sg 22 27]) (.cond (Tm 22) (.seq (R0 [Sk 8 (Kn 0), Sk 9 (Kn 9)]) .ret) .skip))))))) (.seq (R0 [Sk 10 (Kn 0)]) (.seq (.block 1 (.loop (.seq (.seq (R1 [Mv 28 10, Bo 29 .lss 3 (Tm 28) (Kn 500) 3, Mv 30 29, Gl 31 28 5 30 true, Og 32 (.build 96 #[(0, (Tm 31))]) 30 true, Gl 33 36 4 30 true, Gl 34 28 6 30 true, Gm 35 10 30 true, Gb 36 .add 3 (Tm 35) (Kn 1) 3 30 true, Gc 37 33 #[Tm 32, Tm 33, Tm 34, Tm 36] #[96, 36, 28, 3] 30 true, Gl 38 28 7 30 true, Gc 39 32 #[Tm 37, Tm 38] #[96, 28] 30 true, Pk 40 30 (Tm 39) (Kb false)]) (.cond (Tm 40) .skip (.exit 1))) (.block 2 (R0 [Mv 41 10, Bo 42 .add 3 (Tm 41) (Kn 1) 3, Sg 10 42]))))) (.seq (R0 [Mv 43 10, Sg 8 43, Sk 9 (Kn 0)]) .ret)))))⟩
theorem sf7 : sfOf Tryd.f7 = some s7 := by kernel_rfl
theorem hb7 : hasBody Tryd.prog 7 = true := by kernel_rfl
def s8 : SF := ⟨82, [.cell 6 43, .tmp 7], (.seq (R0 [Oo 3 (.box 36 (Tm 0)), Oo 6 (.alloc 43), Sk 7 (Kn 0)]) (.seq (R0 [Ld 14 36 3, Mv 15 1, Mv 16 2, Cl 17 34 #[Tm 14, Tm 15, Tm 16] #[36, 46, 47], Mv 13 17, Xt 18 13 0, Xt 19 13 1, Oo 8 (.alloc 99), Sr 99 (Tm 8) (Tm 18), Sg 7 19]) (.seq (.seq (R0 [Mv 20 7, Bo 21 .neq 29 (Tm 20) (Kn 0) 29]) (.cond (Tm 21) (.seq (R0 [Mv 22 7, Sr 43 (Tm 6) (.const (.slice none 0 0)), Sg 7 22]) .ret) .skip)) (.seq (R1 [Mv 23 1, Lq 24 23 46, Bo 25 .shl 103 (.const (.int .u64 1)) (Tm 24) 3, Bo 26 .sub 103 (Tm 25) (.const (.int .u64 1)) 103, Ld 27 99 8, Nk 28 27, Fa 29 107 28 1, Ld 30 43 29, Cl 31 35 #[Tm 30] #[43], Oo 9 (.alloc 103), Oo 10 (.alloc 43), Sr 103 (Tm 9) (Tm 26), Sr 43 (Tm 10) (Tm 31)]) (.seq (.seq (R0 [Ld 32 99 8, Ld 33 103 9, Ld 34 43 10, Cl 35 36 #[Tm 32, Tm 33, Tm 34] #[99, 103, 43], Oo 36 (.unOp .not 4 (Tm 35))]) (.cond (Tm 36) (.seq (R0 [Sr 43 (Tm 6) (.const (.slice none 0 0)), Sk 7 (Kn 9)]) .ret) .skip)) (.seq (.seq (R0 [Mv 37 1, Lq 38 37 46, Oo 39 (.move (Kn 0))]) (.block 0 (.loop (.seq (R0 [Bo 40 .lss 3 (Tm 39) (Tm 38) 3]) (.seq (.cond (Tm 40) .skip (.exit 0)) (.seq (.block 1 (.seq (R0 [Mv 41 39, Sg 11 41]) (.seq (R1 [Ld 42 103 9, Mv 43 11, Bo 44 .shl 103 (.const (.int .u64 1)) (Tm 43) 3, Bo 45 .andNot 103 (Tm 42) (Tm 44) 103, Sr 103 (Tm 9) (Tm 45)]) (.seq (R0 [Ld 46 99 8, Nk 47 46, Fa 48 107 47 0, Ld 49 105 48, Mv 50 11, Ix 51 105 49 50, Ld 52 103 51, Oo 53 (.makeFunc (.func 37) #[Tm 52] #[])]) (.block 2 (.rng (Tm 53) [54] (R0 [Sg 12 54]) (.block 3 (.seq (.seq (R0 [Ld 55 43 10, Mv 56 12, Ix 57 43 55 56, Ld 58 3 57, Bo 59 .eql 3 (Tm 58) (Kn 0) 3]) (.cond (Tm 59) (.exit 3) .skip)) (.seq (R0 [Ld 60 43 10, Mv 61 12, Ix 62 43 60 61, Ld 63 3 62, Bo 64 .sub 3 (Tm 63) (Kn 1) 3, Ix 65 43 60 61, Sr 3 (Tm 65) (Tm 64)]) (.seq (.seq (R0 [Ld 66 99 8, Ld 67 103 9, Ld 68 43 10, Cl 69 36 #[Tm 66, Tm 67, Tm 68] #[99, 103, 43]]) (.cond (Tm 69) (.seq (R0 [Ld 70 43 6, Mv 71 12, Oo 72 (.buildSlice 43 1 #[(0, (Tm 71))]), Oo 73 (.call { callee := .builtin .append, args := #[Tm 70, Tm 72], argTypes := #[43, 43] }), Sr 43 (Tm 6) (Tm 73)]) (.exit 2)) .skip)) (R0 [Ld 74 43 10, Mv 75 12, Ix 76 43 74 75, Ld 77 3 76, Bo 78 .add 3 (Tm 77) (Kn 1) 3, Ix 79 43 74 75, Sr 3 (Tm 79) (Tm 78)]))))))))))) (R0 [Bo 80 .add 3 (Tm 39) (Kn 1) 3, Mv 39 80]))))))) (.seq (R0 [Ld 81 43 6, Sr 43 (Tm 6) (Tm 81), Sk 7 (Kn 0)]) .ret)))))))⟩
theorem sf8 : sfOf Tryd.f8 = some s8 := by kernel_rfl
theorem hb8 : hasBody Tryd.prog 8 = true := by kernel_rfl
def s9 : SF := ⟨64, [.tmp 6, .tmp 7], (.seq (R0 [Oo 3 (.box 36 (Tm 0)), Oo 6 (.assign (.const (.slice none 0 0))), Sk 7 (Kn 0)]) (.seq (R0 [Ld 12 36 3, Mv 13 1, Mv 14 2, Cl 15 34 #[Tm 12, Tm 13, Tm 14] #[36, 46, 47], Mv 11 15, Xt 16 11 0, Xt 17 11 1, Sg 8 16, Sg 7 17]) (.seq (.seq (R0 [Mv 18 7, Bo 19 .neq 29 (Tm 18) (Kn 0) 29]) (.cond (Tm 19) (.seq (R0 [Mv 20 7, Oo 6 (.assign (.const (.slice none 0 0))), Sg 7 20]) .ret) .skip)) (.seq (.seq (R0 [Mv 21 1, Lq 22 21 46, Bo 23 .shl 103 (.const (.int .u64 1)) (Tm 22) 3, Oo 24 (.move (.const (.int .u64 0)))]) (.block 0 (.loop (.seq (R0 [Bo 25 .lss 103 (Tm 24) (Tm 23) 103]) (.seq (.cond (Tm 25) .skip (.exit 0)) (.seq (.block 1 (.seq (R0 [Mv 26 24, Sg 9 26]) (.seq (.seq (R0 [Mv 27 8, Mv 28 9, Mv 29 8, Nk 30 29, Fa 31 107 30 1, Ld 32 43 31, Cl 33 36 #[Tm 27, Tm 28, Tm 32] #[99, 103, 43]]) (.cond (Tm 33) (.exit 1) .skip)) (.seq (R0 [Mv 34 9, Oo 35 (.makeFunc (.func 37) #[Tm 34] #[]), Cl 36 38 #[Tm 35] #[170], Sg 10 36]) (.seq (R0 [Mv 37 6, Bo 38 .eql 43 (Tm 37) (.const (.slice none 0 0)) 43, Mv 39 38, Gm 40 10 39 false, Og 41 (.call { callee := .builtin .len, args := #[Tm 40], argTypes := #[43] }) 39 false, Gm 42 6 39 false, Og 43 (.call { callee := .builtin .len, args := #[Tm 42], argTypes := #[43] }) 39 false, Gb 44 .lss 3 (Tm 41) (Tm 43) 3 39 false, Pk 45 39 (Kb true) (Tm 44), Mv 46 45, Gm 47 10 46 false, Og 48 (.call { callee := .builtin .len, args := #[Tm 47], argTypes := #[43] }) 46 false, Gm 49 6 46 false, Og 50 (.call { callee := .builtin .len, args := #[Tm 49], argTypes := #[43] }) 46 false, Gb 51 .eql 3 (Tm 48) (Tm 50) 3 46 false, Gm 52 51 46 false, Gm 53 10 52 true, Gm 54 6 52 true, Gc 55 39 #[Tm 53, Tm 54] #[43, 43] 52 true, Gb 56 .lss 3 (Tm 55) (Kn 0) 3 52 true, Og 57 (.pick (Tm 52) (Tm 56) (Kb false)) 46 false, Pk 58 46 (Kb true) (Tm 57)]) (.cond (Tm 58) (R0 [Mv 59 10, Sg 6 59]) .skip)))))) (R0 [Bo 60 .add 103 (Tm 24) (.const (.int .u64 1)) 103, Mv 24 60]))))))) (.seq (.seq (R0 [Mv 61 6, Bo 62 .eql 43 (Tm 61) (.const (.slice none 0 0)) 43]) (.cond (Tm 62) (.seq (R0 [Oo 6 (.assign (.const (.slice none 0 0))), Sk 7 (Kn 7)]) .ret) .skip)) (.seq (R0 [Mv 63 6, Sg 6 63, Sk 7 (Kn 0)]) .ret))))))⟩
theorem sf9 : sfOf Tryd.f9 = some s9 := by kernel_rfl
theorem hb9 : hasBody Tryd.prog 9 = true := by kernel_rfl
def s10 : SF := ⟨70, [.tmp 6, .tmp 7, .tmp 8], (.seq (R0 [Oo 3 (.box 26 (Tm 0)), Oo 6 (.assign (.const (.slice none 0 0))), Oo 7 (.assign (.const (.slice none 0 0))), Sk 8 (Kn 0)]) (.seq (R0 [Oo 9 (.assign (.func 40))]) (.seq (.block 0 (.seq (R0 [Ld 14 26 3, Cl 15 27 #[Tm 14] #[26], Oo 16 (.unOp .not 4 (Tm 15)), Sg 13 16]) (.cond (Tm 13) (.seq (R0 [Oo 6 (.assign (.const (.slice none 0 0))), Oo 7 (.assign (.const (.slice none 0 0))), Sk 8 (Kn 2)]) .ret) (.seq (R0 [Mv 18 1, Lq 19 18 50, Bo 20 .gtr 3 (Tm 19) (Kn 50) 3, Sg 17 20]) (.cond (Tm 17) (.seq (R0 [Oo 6 (.assign (.const (.slice none 0 0))), Oo 7 (.assign (.const (.slice none 0 0))), Sk 8 (Kn 5)]) .ret) (.seq (R0 [Mv 22 2, Lq 23 22 43, Mv 24 1, Lq 25 24 50, Bo 26 .neq 3 (Tm 23) (Tm 25) 3, Sg 21 26]) (.cond (Tm 21) (.seq (R0 [Oo 6 (.assign (.const (.slice none 0 0))), Oo 7 (.assign (.const (.slice none 0 0))), Sk 8 (Kn 4)]) .ret) (.seq (.seq (R0 [Mv 28 1, Mv 29 9, Cl 30 41 #[Tm 28, Tm 29] #[50, 89], Sg 27 30]) (.cond (Tm 27) .skip (R0 [Mv 31 2, Cl 32 42 #[Kn 0, Kn 2400, Tm 31] #[3, 3, 43], Oo 33 (.unOp .not 4 (Tm 32)), Sg 27 33]))) (.cond (Tm 27) (.seq (R0 [Oo 6 (.assign (.const (.slice none 0 0))), Oo 7 (.assign (.const (.slice none 0 0))), Sk 8 (Kn 3)]) .ret) .skip))))))))) (.seq (.seq (R0 [Mv 34 1, Lq 35 34 50, Oo 36 (.move (Kn 0))]) (.block 1 (.loop (.seq (R0 [Bo 37 .lss 3 (Tm 36) (Tm 35) 3]) (.seq (.cond (Tm 37) .skip (.exit 1)) (.seq (.block 2 (.seq (R0 [Mv 38 36, Ix 39 50 34 36, Ld 40 34 39, Oo 11 (.alloc 34), Sg 10 38, Sr 34 (Tm 11) (Tm 40)]) (.seq (R0 [Ld 41 26 3, Oo 42 (.build 91 #[(0, (Tm 41))]), Ld 43 34 11, Cl 44 29 #[Tm 42, Tm 43] #[91, 34], Oo 12 (.alloc 28), Sr 28 (Tm 12) (Tm 44)]) (.seq (.seq (R1 [Mv 45 2, Mv 46 10, Ix 47 43 45 46, Ld 48 3 47, Fa 49 28 12 0, Ld 50 3 49, Cl 51 43 #[Tm 48, Tm 50] #[3, 3]]) (.cond (Tm 51) (R0 [Mv 52 6, Mv 53 10, Oo 54 (.buildSlice 43 1 #[(0, (Tm 53))]), Oo 55 (.call { callee := .builtin .append, args := #[Tm 52, Tm 54], argTypes := #[43, 43] }), Sg 6 55]) .skip)) (.seq (R1 [Mv 56 2, Mv 57 10, Ix 58 43 56 57, Ld 59 3 58, Fa 60 28 12 1, Ld 61 3 60, Cl 62 43 #[Tm 59, Tm 61] #[3, 3]]) (.cond (Tm 62) (R0 [Mv 63 7, Mv 64 10, Oo 65 (.buildSlice 43 1 #[(0, (Tm 64))]), Oo 66 (.call { callee := .builtin .append, args := #[Tm 63, Tm 65], argTypes := #[43, 43] }), Sg 7 66]) .skip)))))) (R0 [Bo 67 .add 3 (Tm 36) (Kn 1) 3, Mv 36 67]))))))) (.seq (R0 [Mv 68 6, Mv 69 7, Sg 6 68, Sg 7 69, Sk 8 (Kn 0)]) .ret)))))⟩
theorem sf10 : sfOf Tryd.f10 = some s10 := by kernel_rfl
theorem hb10 : hasBody Tryd.prog 10 = true := by kernel_rfl
def s11 : SF := ⟨26, [.tmp 4], (.seq (R0 [Sk 4 (Kb false)]) (.seq (.seq (R0 [Mv 6 0, Lq 7 6 43, Mv 8 1, Lq 9 8 43, Bo 10 .neq 3 (Tm 7) (Tm 9) 3]) (.cond (Tm 10) (.seq (R0 [Sk 4 (Kb false)]) .ret) .skip)) (.seq (.seq (R0 [Sk 5 (Kn 0)]) (.block 0 (.loop (.seq (.seq (R0 [Mv 11 5, Mv 12 0, Lq 13 12 43, Bo 14 .lss 3 (Tm 11) (Tm 13) 3]) (.cond (Tm 14) .skip (.exit 0))) (.seq (.block 1 (.seq (R1 [Mv 17 0, Mv 18 5, Ix 19 43 17 18, Ld 20 3 19, Mv 21 1, Mv 22 5, Ix 23 43 21 22, Ld 24 3 23, Bo 25 .neq 3 (Tm 20) (Tm 24) 3]) (.cond (Tm 25) (.seq (R0 [Sk 4 (Kb false)]) .ret) .skip))) (R0 [Mv 15 5, Bo 16 .add 3 (Tm 15) (Kn 1) 3, Sg 5 16])))))) (.seq (R0 [Sk 4 (Kb true)]) .ret))))⟩
theorem sf11 : sfOf Tryd.f11 = some s11 := by kernel_rfl
theorem hb11 : hasBody Tryd.prog 11 = true := by kernel_rfl
def s12 : SF := ⟨39, [.tmp 0], (.seq (R0 [Sk 0 (Kb false)]) (.seq (R0 [Oo 6 (.buildSlice 43 2 #[(0, (Kn 14)), (1, (Kn 18))]), Oo 7 (.build 116 #[(0, (Kn 6)), (1, (Tm 6))]), Oo 1 (.alloc 116), Sr 116 (Tm 1) (Tm 7)]) (.seq (R0 [Ld 9 116 1, Oo 10 (.build 120 #[(0, (Kn 1)), (1, (Kn 2))]), Oo 11 (.buildSlice 121 1 #[(0, (Tm 10))]), Cl 12 44 #[Tm 9, Tm 11, Kn 5] #[116, 121, 3], Mv 8 12, Xt 13 8 0, Xt 14 8 1, Sg 2 13, Sg 3 14]) (.seq (R0 [Oo 16 (.build 26 #[(0, (Kn 60)), (1, (Kn 10)), (2, (Kn 5))]), Cl 17 6 #[Kn 0, Kn 10] #[3, 3], Cl 18 6 #[Kn 20, Kn 40] #[3, 3], Oo 19 (.build 34 #[(0, (Tm 17)), (1, (Tm 18))]), Cl 20 5 #[Tm 16, Tm 19] #[26, 34], Mv 15 20, Xt 21 15 0, Xt 22 15 1, Oo 4 (.alloc 28), Sr 28 (Tm 4) (Tm 21), Sg 5 22]) (.seq (R1 [Mv 23 3, Bo 24 .eql 29 (Tm 23) (Kn 0) 29, Mv 25 24, Gm 26 5 25 true, Gb 27 .eql 29 (Tm 26) (Kn 0) 29 25 true, Pk 28 25 (Tm 27) (Kb false), Mv 29 28, Gm 30 2 29 true, Og 31 (.buildSlice 43 2 #[(0, (Kn 14)), (1, (Kn 54))]) 29 true, Gc 32 11 #[Tm 30, Tm 31] #[43, 43] 29 true, Pk 33 29 (Tm 32) (Kb false), Mv 34 33, Gl 35 28 4 34 true, Gc 36 6 #[Kn 60, Kn 72] #[3, 3] 34 true, Gb 37 .eql 28 (Tm 35) (Tm 36) 28 34 true, Pk 38 34 (Tm 37) (Kb false), Sg 0 38]) .ret)))))⟩
theorem sf12 : sfOf Tryd.f12 = some s12 := by kernel_rfl
theorem hb12 : hasBody Tryd.prog 12 = true := by kernel_rfl
def s13 : SF := ⟨53, [.tmp 0], (.seq (R0 [Sk 0 (Kb false)]) (.seq (R0 [Oo 6 (.build 36 #[(0, (Kn 10)), (1, (Kn 4))]), Cl 7 6 #[Kn 60, Kn 70] #[3, 3], Cl 8 6 #[Kn 90, Kn 100] #[3, 3], Oo 9 (.build 124 #[(0, (Tm 8)), (1, (Kn 2))]), Cl 10 6 #[Kn 50, Kn 60] #[3, 3], Oo 11 (.build 124 #[(0, (Tm 10)), (1, (Kn 5))]), Oo 12 (.buildSlice 125 2 #[(0, (Tm 9)), (1, (Tm 11))]), Cl 13 45 #[Tm 6, Tm 7, Tm 12] #[36, 28, 125], Mv 5 13, Xt 14 5 0, Xt 15 5 1, Sg 1 14, Sg 2 15]) (.seq (R0 [Oo 17 (.build 36 #[(0, (Kn 10)), (1, (Kn 4))]), Cl 18 6 #[Kn 60, Kn 70] #[3, 3], Cl 19 6 #[Kn 90, Kn 100] #[3, 3], Cl 20 6 #[Kn 50, Kn 85] #[3, 3], Cl 21 7 #[Tm 17, Tm 18, Tm 19, Tm 20] #[36, 28, 28, 28], Mv 16 21, Xt 22 16 0, Xt 23 16 1, Sg 3 22, Sg 4 23]) (.seq (R1 [Mv 24 2, Bo 25 .eql 29 (Tm 24) (Kn 0) 29, Mv 26 25, Gm 27 4 26 true, Gb 28 .eql 29 (Tm 27) (Kn 0) 29 26 true, Pk 29 26 (Tm 28) (Kb false), Mv 30 29, Gm 31 1 30 true, Og 32 (.call { callee := .builtin .len, args := #[Tm 31], argTypes := #[82] }) 30 true, Gb 33 .eql 3 (Tm 32) (Kn 2) 3 30 true, Pk 34 30 (Tm 33) (Kb false), Mv 35 34, Gm 36 1 35 true, Og 37 (.indexAddr 82 (Tm 36) (Kn 0)) 35 true, Gl 38 28 37 35 true, Gc 39 6 #[Kn 80, Kn 90] #[3, 3] 35 true, Gb 40 .eql 28 (Tm 38) (Tm 39) 28 35 true, Pk 41 35 (Tm 40) (Kb false), Mv 42 41, Gm 43 1 42 true, Og 44 (.indexAddr 82 (Tm 43) (Kn 1)) 42 true, Gl 45 28 44 42 true, Gc 46 6 #[Kn 60, Kn 70] #[3, 3] 42 true, Gb 47 .eql 28 (Tm 45) (Tm 46) 28 42 true, Pk 48 42 (Tm 47) (Kb false), Mv 49 48, Gm 50 3 49 true, Gb 51 .eql 3 (Tm 50) (Kn 1) 3 49 true, Pk 52 49 (Tm 51) (Kb false), Sg 0 52]) .ret))))⟩
theorem sf13 : sfOf Tryd.f13 = some s13 := by kernel_rfl
theorem hb13 : hasBody Tryd.prog 13 = true := by kernel_rfl
end Go.Dw.Seat
end
section
namespace Go.Dw.Seat
open Go Go.Dw Go.Proofs
def s27 : SF := ⟨15, [.tmp 2], (.seq (R0 [Oo 1 (.box 26 (Tm 0)), Sk 2 (Kb false)]) (.seq (R0 [Fa 3 26 1 0, Ld 4 3 3, Oo 5 (.buildSlice 43 1 #[(0, (Tm 4))]), Cl 6 42 #[Kn 1, Kn 600, Tm 5] #[3, 3, 43], Mv 7 6, Gf 8 26 1 1 7 true, Gl 9 3 8 7 true, Gf 10 26 1 2 7 true, Gl 11 3 10 7 true, Og 12 (.buildSlice 43 2 #[(0, (Tm 9)), (1, (Tm 11))]) 7 true, Gc 13 42 #[Kn 0, Kn 20, Tm 12] #[3, 3, 43] 7 true, Pk 14 7 (Tm 13) (Kb false), Sg 2 14]) .ret))⟩
theorem sf27 : sfOf Tryd.f27 = some s27 := by kernel_rfl
theorem hb27 : hasBody Tryd.prog 27 = true := by kernel_rfl
def s28 : SF := ⟨11, [.tmp 2], (.seq (R0 [Oo 1 (.box 34 (Tm 0)), Sk 2 (Kb false)]) (.seq (R0 [Fa 3 34 1 0, Ld 4 28 3, Cl 5 61 #[Tm 4, Kn 0, Kn 30] #[28, 3, 3], Mv 6 5, Gf 7 34 1 1 6 true, Gl 8 28 7 6 true, Gc 9 61 #[Tm 8, Kn 0, Kn 100] #[28, 3, 3] 6 true, Pk 10 6 (Tm 9) (Kb false), Sg 2 10]) .ret))⟩
theorem sf28 : sfOf Tryd.f28 = some s28 := by kernel_rfl
theorem hb28 : hasBody Tryd.prog 28 = true := by kernel_rfl
def s29 : SF := ⟨22, [.cell 4 28], (.seq (R0 [Oo 2 (.box 91 (Tm 0)), Oo 3 (.box 34 (Tm 1)), Oo 4 (.alloc 28)]) (.seq (R1 [Ld 5 91 2, Fa 6 34 3 0, Fa 7 28 6 1, Ld 8 3 7, Fa 9 34 3 1, Fa 10 28 9 0, Ld 11 3 10, Cl 12 62 #[Tm 5, Tm 8, Tm 11] #[91, 3, 3], Ld 13 91 2, Fa 14 34 3 0, Fa 15 28 14 0, Ld 16 3 15, Fa 17 34 3 1, Fa 18 28 17 1, Ld 19 3 18, Cl 20 62 #[Tm 13, Tm 16, Tm 19] #[91, 3, 3], Oo 21 (.build 28 #[(0, (Tm 12)), (1, (Tm 20))]), Sr 28 (Tm 4) (Tm 21)]) .ret))⟩
theorem sf29 : sfOf Tryd.f29 = some s29 := by kernel_rfl
theorem hb29 : hasBody Tryd.prog 29 = true := by kernel_rfl
def s30 : SF := ⟨9, [.tmp 2], (.seq (R0 [Oo 1 (.box 36 (Tm 0)), Sk 2 (Kb false)]) (.seq (R0 [Fa 3 36 1 0, Ld 4 3 3, Fa 5 36 1 1, Ld 6 3 5, Oo 7 (.buildSlice 43 2 #[(0, (Tm 4)), (1, (Tm 6))]), Cl 8 63 #[Kn 0, Kn 50, Tm 7] #[3, 3, 43], Sg 2 8]) .ret))⟩
theorem sf30 : sfOf Tryd.f30 = some s30 := by kernel_rfl
theorem hb30 : hasBody Tryd.prog 30 = true := by kernel_rfl
def s31 : SF := ⟨6, [.tmp 2], (.seq (R0 [Sk 2 (Kb false)]) (.seq (R0 [Mv 3 0, Cl 4 64 #[Tm 3, .func 65] #[82, 97], Oo 5 (.unOp .not 4 (Tm 4)), Sg 2 5]) .ret))⟩
theorem sf31 : sfOf Tryd.f31 = some s31 := by kernel_rfl
theorem hb31 : hasBody Tryd.prog 31 = true := by kernel_rfl
def s32 : SF := ⟨19, [.tmp 4], (.seq (R0 [Oo 2 (.box 96 (Tm 0)), Oo 3 (.box 28 (Tm 1)), Sk 4 (Kb false)]) (.seq (R0 [Fa 5 96 2 0, Fa 6 28 5 0, Ld 7 3 6, Fa 8 28 3 0, Ld 9 3 8, Bo 10 .geq 3 (Tm 7) (Tm 9) 3, Mv 11 10, Gf 12 96 2 0 11 true, Gf 13 28 12 1 11 true, Gl 14 3 13 11 true, Gf 15 28 3 1 11 true, Gl 16 3 15 11 true, Gb 17 .leq 3 (Tm 14) (Tm 16) 3 11 true, Pk 18 11 (Tm 17) (Kb false), Sg 4 18]) .ret))⟩
theorem sf32 : sfOf Tryd.f32 = some s32 := by kernel_rfl
theorem hb32 : hasBody Tryd.prog 32 = true := by kernel_rfl
def s33 : SF := ⟨27, [.cell 8 96], (.seq (R0 [Oo 4 (.box 96 (Tm 0)), Oo 5 (.box 36 (Tm 1)), Oo 6 (.box 28 (Tm 2)), Oo 8 (.alloc 96)]) (.seq (R1 [Ld 9 36 5, Fa 10 96 4 0, Fa 11 28 10 0, Ld 12 3 11, Fa 13 28 6 0, Ld 14 3 13, Mv 15 3, Cl 16 67 #[Tm 9, Tm 12, Tm 14, Tm 15] #[36, 3, 3, 3], Ld 17 36 5, Fa 18 96 4 0, Fa 19 28 18 1, Ld 20 3 19, Fa 21 28 6 1, Ld 22 3 21, Mv 23 3, Cl 24 67 #[Tm 17, Tm 20, Tm 22, Tm 23] #[36, 3, 3, 3], Oo 25 (.build 28 #[(0, (Tm 16)), (1, (Tm 24))]), Oo 26 (.build 96 #[(0, (Tm 25))]), Sr 96 (Tm 8) (Tm 26)]) .ret))⟩
theorem sf33 : sfOf Tryd.f33 = some s33 := by kernel_rfl
theorem hb33 : hasBody Tryd.prog 33 = true := by kernel_rfl
def o34_0 : SO := (Mv 95 10)
def o34_1 : SO := (Nk 96 95)
def o34_2 : SO := (Fa 97 107 96 1)
def o34_3 : SO := (Ld 98 43 97)
def o34_4 : SO := (Fa 99 40 19 1)
def o34_5 : SO := (Ld 100 3 99)
def o34_6 : SO := (Oo 101 (.buildSlice 43 1 #[(0, (Tm 100))]))
def o34_7 : SO := (Mv 94 10)
def o34_8 : SO := (Oo 102 (.call { callee := .builtin .append, args := #[Tm 98, Tm 101], argTypes := #[43, 43] }))
def o34_9 : SO := (Nk 103 94)
def o34_10 : SO := (Fa 104 107 103 1)
def o34_11 : SO := (Sr 43 (Tm 104) (Tm 102))
def s34 : SF := ⟨107, [.tmp 6, .tmp 7], (.seq (R0 [Oo 3 (.box 36 (Tm 0)), Oo 6 (.assign (.const (.pointer none))), Sk 7 (Kn 0)]) (.seq (R0 [Oo 8 (.alloc 164), Sr 164 (Tm 8) (.func 68)]) (.seq (R0 [Oo 9 (.alloc 165), Sr 165 (Tm 9) (.func 69)]) (.seq (.block 0 (.seq (R0 [Ld 21 36 3, Cl 22 30 #[Tm 21] #[36], Oo 23 (.unOp .not 4 (Tm 22)), Sg 20 23]) (.cond (Tm 20) (.seq (R0 [Oo 6 (.assign (.const (.pointer none))), Sk 7 (Kn 2)]) .ret) (.seq (.seq (R0 [Mv 25 1, Lq 26 25 46, Bo 27 .gtr 3 (Tm 26) (Kn 7) 3, Sg 24 27]) (.cond (Tm 24) .skip (R0 [Mv 28 2, Lq 29 28 47, Bo 30 .gtr 3 (Tm 29) (Kn 4) 3, Sg 24 30]))) (.cond (Tm 24) (.seq (R0 [Oo 6 (.assign (.const (.pointer none))), Sk 7 (Kn 5)]) .ret) (.seq (.seq (R0 [Mv 32 1, Oo 33 (.makeFunc (.func 71) #[] #[Tm 8]), Cl 34 70 #[Tm 32, Tm 33] #[46, 164], Sg 31 34]) (.cond (Tm 31) .skip (R0 [Mv 35 2, Oo 36 (.makeFunc (.func 73) #[] #[Tm 9]), Cl 37 72 #[Tm 35, Tm 36] #[47, 165], Sg 31 37]))) (.cond (Tm 31) (.seq (R0 [Oo 6 (.assign (.const (.pointer none))), Sk 7 (Kn 4)]) .ret) .skip))))))) (.seq (R0 [Oo 38 (.build 107 #[]), Oo 39 (.box 107 (Tm 38)), Sg 10 39]) (.seq (.seq (R0 [Mv 40 1, Lq 41 40 46, Oo 42 (.move (Kn 0))]) (.block 1 (.loop (.seq (R0 [Bo 43 .lss 3 (Tm 42) (Tm 41) 3]) (.seq (.cond (Tm 43) .skip (.exit 1)) (.seq (.block 2 (.seq (R0 [Ix 44 46 40 42, Ld 45 38 44, Oo 12 (.alloc 38), Sr 38 (Tm 12) (Tm 45)]) (.seq (R0 [Oo 13 (.assign (.const (.int .u64 0)))]) (.seq (.seq (R0 [Mv 46 2, Lq 47 46 47, Oo 48 (.move (Kn 0))]) (.block 3 (.loop (.seq (R0 [Bo 49 .lss 3 (Tm 48) (Tm 47) 3]) (.seq (.cond (Tm 49) .skip (.exit 3)) (.seq (.block 4 (.seq (R0 [Mv 50 48, Ix 51 47 46 48, Ld 52 40 51, Oo 15 (.alloc 40), Sg 14 50, Sr 40 (Tm 15) (Tm 52)]) (.seq (R0 [Ld 54 36 3, Fa 55 38 12 0, Ld 56 28 55, Fa 57 40 15 0, Ld 58 28 57, Fa 59 38 12 1, Ld 60 28 59, Cl 61 7 #[Tm 54, Tm 56, Tm 58, Tm 60] #[36, 28, 28, 28], Mv 53 61, Xt 62 53 0, Xt 63 53 1, Sg 16 62, Sg 17 63]) (.seq (R0 [Mv 64 17, Bo 65 .eql 29 (Tm 64) (Kn 0) 29, Mv 66 65, Gm 67 16 66 true, Gf 68 38 12 2 66 true, Gl 69 3 68 66 true, Gb 70 .geq 3 (Tm 67) (Tm 69) 3 66 true, Pk 71 66 (Tm 70) (Kb false)]) (.cond (Tm 71) (R0 [Mv 72 13, Mv 73 14, Bo 74 .shl 103 (.const (.int .u64 1)) (Tm 73) 3, Bo 75 .or 103 (Tm 72) (Tm 74) 103, Sg 13 75]) .skip))))) (R0 [Bo 76 .add 3 (Tm 48) (Kn 1) 3, Mv 48 76]))))))) (R0 [Mv 77 10, Mv 78 10, Nk 79 78, Fa 80 107 79 0, Ld 81 105 80, Mv 82 13, Oo 83 (.buildSlice 105 1 #[(0, (Tm 82))]), Oo 84 (.call { callee := .builtin .append, args := #[Tm 81, Tm 83], argTypes := #[105, 105] }), Nk 85 77, Fa 86 107 85 0, Sr 105 (Tm 86) (Tm 84)]))))) (R0 [Bo 87 .add 3 (Tm 42) (Kn 1) 3, Mv 42 87]))))))) (.seq (.seq (R0 [Mv 88 2, Lq 89 88 47, Oo 90 (.move (Kn 0))]) (.block 5 (.loop (.seq (R0 [Bo 91 .lss 3 (Tm 90) (Tm 89) 3]) (.seq (.cond (Tm 91) .skip (.exit 5)) (.seq (.block 6 (.seq (R0 [Ix 92 47 88 90, Ld 93 40 92, Oo 19 (.alloc 40), Sr 40 (Tm 19) (Tm 93)]) (.ord (.op o34_0 (.op o34_1 (.op o34_2 (.op o34_3 (.op o34_4 (.op o34_5 (.op o34_6 (.alt (.op o34_7 (.op o34_8 (.op o34_9 (.op o34_10 (.op o34_11 .done))))) (.op o34_8 (.op o34_7 (.op o34_9 (.op o34_10 (.op o34_11 .done)))))))))))))))) (R0 [Bo 105 .add 3 (Tm 90) (Kn 1) 3, Mv 90 105]))))))) (.seq (R0 [Mv 106 10, Sg 6 106, Sk 7 (Kn 0)]) .ret))))))))⟩
theorem sf34 : sfOf Tryd.f34 = some s34 := by kernel_rfl
theorem hb34 : hasBody Tryd.prog 34 = true := by kernel_rfl
def s35 : SF := ⟨8, [.tmp 2], (.seq (R0 [Oo 2 (.assign (.const (.slice none 0 0)))]) (.seq (.seq (R0 [Mv 3 0, Bo 4 .eql 43 (Tm 3) (.const (.slice none 0 0)) 43]) (.cond (Tm 4) (.seq (R0 [Oo 2 (.assign (.const (.slice none 0 0)))]) .ret) .skip)) (.seq (R0 [Oo 5 (.buildSlice 43 0 #[]), Mv 6 0, Oo 7 (.call { callee := .builtin .append, args := #[Tm 5, Tm 6], argTypes := #[43, 43] }), Sg 2 7]) .ret)))⟩
theorem sf35 : sfOf Tryd.f35 = some s35 := by kernel_rfl
theorem hb35 : hasBody Tryd.prog 35 = true := by kernel_rfl
def s36 : SF := ⟨46, [.tmp 6], (.seq (R0 [Oo 3 (.box 99 (Tm 0)), Oo 5 (.box 43 (Tm 2)), Sk 6 (Kb false)]) (.seq (.seq (R0 [Ld 12 43 5, Lq 13 12 43, Bo 14 .shl 103 (.const (.int .u64 1)) (Tm 13) 3, Oo 15 (.move (.const (.int .u64 0)))]) (.block 0 (.loop (.seq (R0 [Bo 16 .lss 103 (Tm 15) (Tm 14) 103]) (.seq (.cond (Tm 16) .skip (.exit 0)) (.seq (.block 1 (.seq (R0 [Mv 17 15, Oo 7 (.alloc 103), Sr 103 (Tm 7) (Tm 17)]) (.seq (R0 [Oo 8 (.alloc 3), Oo 9 (.alloc 3), Sr 3 (Tm 8) (Kn 0), Sr 3 (Tm 9) (Kn 0)]) (.seq (.seq (R0 [Mv 18 1, Oo 19 (.makeFunc (.func 37) #[Tm 18] #[])]) (.block 2 (.rng (Tm 19) [20] (R0 [Sg 10 20]) (.block 3 (.seq (R1 [Ld 21 99 3, Nk 22 21, Fa 23 107 22 0, Ld 24 105 23, Mv 25 10, Ix 26 105 24 25, Ld 27 103 26, Ld 28 103 7, Bo 29 .andNot 103 (Tm 27) (Tm 28) 103, Bo 30 .eql 103 (Tm 29) (.const (.int .u64 0)) 103]) (.cond (Tm 30) (R0 [Ld 31 3 8, Bo 32 .add 3 (Tm 31) (Kn 1) 3, Sr 3 (Tm 8) (Tm 32)]) .skip)))))) (.seq (.seq (R0 [Ld 33 103 7, Oo 34 (.makeFunc (.func 37) #[Tm 33] #[])]) (.block 4 (.rng (Tm 34) [35] (R0 [Sg 11 35]) (.block 5 (R1 [Ld 36 3 9, Ld 37 43 5, Mv 38 11, Ix 39 43 37 38, Ld 40 3 39, Bo 41 .add 3 (Tm 36) (Tm 40) 3, Sr 3 (Tm 9) (Tm 41)]))))) (.seq (R0 [Ld 42 3 8, Ld 43 3 9, Bo 44 .gtr 3 (Tm 42) (Tm 43) 3]) (.cond (Tm 44) (.seq (R0 [Sk 6 (Kb false)]) .ret) .skip))))))) (R0 [Bo 45 .add 103 (Tm 15) (.const (.int .u64 1)) 103, Mv 15 45]))))))) (.seq (R0 [Sk 6 (Kb true)]) .ret)))⟩
theorem sf36 : sfOf Tryd.f36 = some s36 := by kernel_rfl
theorem hb36 : hasBody Tryd.prog 36 = true := by kernel_rfl
def s37 : SF := ⟨15, [], (.block 0 (.loop (.seq (.seq (R0 [Mv 4 0, Bo 5 .neq 103 (Tm 4) (.const (.int .u64 0)) 103]) (.cond (Tm 5) .skip (.exit 0))) (.seq (.block 1 (.seq (R0 [Mv 10 1, Mv 11 0, Cl 12 74 #[Tm 11] #[102], Oo 13 (.call { callee := .value (Tm 10), args := #[Tm 12], argTypes := #[3] }), Oo 14 (.unOp .not 4 (Tm 13))]) (.cond (Tm 14) .ret .skip))) (R0 [Mv 6 0, Mv 7 0, Bo 8 .sub 103 (Tm 7) (.const (.int .u64 1)) 103, Bo 9 .and 103 (Tm 6) (Tm 8) 103, Sg 0 9])))))⟩
theorem sf37 : sfOf Tryd.f37 = some s37 := by kernel_rfl
theorem hb37 : hasBody Tryd.prog 37 = true := by kernel_rfl
def s38 : SF := ⟨5, [.tmp 2], (.seq (R0 [Oo 2 (.assign (.const (.slice none 0 0)))]) (.seq (R0 [Mv 3 0, Cl 4 75 #[.const (.slice none 0 0), Tm 3] #[43, 170], Sg 2 4]) .ret))⟩
theorem sf38 : sfOf Tryd.f38 = some s38 := by kernel_rfl
theorem hb38 : hasBody Tryd.prog 38 = true := by kernel_rfl
def s40 : SF := ⟨6, [.tmp 2], (.seq (R0 [Oo 1 (.box 34 (Tm 0)), Sk 2 (Kb false)]) (.seq (R0 [Ld 3 34 1, Cl 4 28 #[Tm 3] #[34], Oo 5 (.unOp .not 4 (Tm 4)), Sg 2 5]) .ret))⟩
theorem sf40 : sfOf Tryd.f40 = some s40 := by kernel_rfl
theorem hb40 : hasBody Tryd.prog 40 = true := by kernel_rfl
def s41 : SF := ⟨9, [.tmp 4], (.seq (R0 [Sk 4 (Kb false)]) (.seq (R0 [Mv 5 0, Mv 6 1, Cl 7 77 #[Tm 5, Tm 6] #[50, 89], Bo 8 .geq 3 (Tm 7) (Kn 0) 3, Sg 4 8]) .ret))⟩
theorem sf41 : sfOf Tryd.f41 = some s41 := by kernel_rfl
theorem hb41 : hasBody Tryd.prog 41 = true := by kernel_rfl
def s42 : SF := ⟨11, [.tmp 6], (.seq (R0 [Oo 3 (.box 3 (Tm 0)), Oo 4 (.box 3 (Tm 1)), Sk 6 (Kb false)]) (.seq (R0 [Mv 7 2, Oo 8 (.makeFunc (.func 79) #[] #[Tm 3, Tm 4]), Cl 9 78 #[Tm 7, Tm 8] #[43, 168], Oo 10 (.unOp .not 4 (Tm 9)), Sg 6 10]) .ret))⟩
theorem sf42 : sfOf Tryd.f42 = some s42 := by kernel_rfl
theorem hb42 : hasBody Tryd.prog 42 = true := by kernel_rfl
def s43 : SF := ⟨17, [.tmp 4], (.seq (R0 [Sk 4 (Kb false)]) (.seq (R0 [Mv 5 0, Cl 6 80 #[Tm 5] #[3], Mv 7 6, Gm 8 1 7 true, Gc 9 80 #[Tm 8] #[3] 7 true, Og 10 (.unOp .not 4 (Tm 9)) 7 true, Pk 11 7 (Tm 10) (Kb false), Mv 12 11, Gm 13 0 12 false, Gm 14 1 12 false, Gb 15 .lss 3 (Tm 13) (Tm 14) 3 12 false, Pk 16 12 (Kb true) (Tm 15), Sg 4 16]) .ret))⟩
theorem sf43 : sfOf Tryd.f43 = some s43 := by kernel_rfl
theorem hb43 : hasBody Tryd.prog 43 = true := by kernel_rfl
def s44 : SF := ⟨30, [.tmp 6, .tmp 7], (.seq (R0 [Oo 3 (.box 116 (Tm 0)), Oo 6 (.assign (.const (.slice none 0 0))), Sk 7 (Kn 0)]) (.seq (R0 [Ld 11 116 3, Mv 12 1, Oo 13 (.buildSlice 210 1 #[(0, (Tm 12))]), Cl 14 81 #[Tm 11, Tm 13] #[116, 210], Mv 10 14, Xt 15 10 0, Xt 16 10 1, Oo 8 (.alloc 175), Sr 175 (Tm 8) (Tm 15), Sg 9 16]) (.seq (.block 0 (.seq (R0 [Mv 18 9, Bo 19 .neq 29 (Tm 18) (Kn 0) 29, Sg 17 19]) (.cond (Tm 17) (.seq (R0 [Mv 20 9, Oo 6 (.assign (.const (.slice none 0 0))), Sg 7 20]) .ret) (.seq (R0 [Mv 22 2, Oo 23 (.buildSlice 43 1 #[(0, (Tm 22))]), Cl 24 82 #[Tm 23] #[43], Oo 25 (.unOp .not 4 (Tm 24)), Sg 21 25]) (.cond (Tm 21) (.seq (R0 [Oo 6 (.assign (.const (.slice none 0 0))), Sk 7 (Kn 9)]) .ret) .skip))))) (.seq (R0 [Ld 26 175 8, Mv 27 1, Mv 28 2, Cl 29 83 #[Tm 26, Tm 27, Tm 28] #[175, 121, 3], Sg 6 29, Sk 7 (Kn 0)]) .ret))))⟩
theorem sf44 : sfOf Tryd.f44 = some s44 := by kernel_rfl
theorem hb44 : hasBody Tryd.prog 44 = true := by kernel_rfl
def s45 : SF := ⟨31, [.cell 6 82, .tmp 7], (.seq (R0 [Oo 3 (.box 36 (Tm 0)), Oo 4 (.box 28 (Tm 1)), Oo 6 (.alloc 82), Sk 7 (Kn 0)]) (.seq (.seq (R0 [Ld 11 36 3, Ld 12 28 4, Mv 13 2, Cl 14 84 #[Tm 11, Tm 12, Tm 13] #[36, 28, 125], Sg 8 14]) (.seq (R0 [Mv 15 8, Bo 16 .neq 29 (Tm 15) (Kn 0) 29]) (.cond (Tm 16) (.seq (R0 [Mv 17 8, Sr 82 (Tm 6) (.const (.slice none 0 0)), Sg 7 17]) .ret) .skip))) (.seq (.seq (R0 [Ld 18 28 4, Oo 19 (.build 96 #[(0, (Tm 18))]), Ld 20 36 3, Mv 21 2, Cl 22 85 #[Tm 19, Tm 20, Tm 21] #[96, 36, 125]]) (.block 0 (.rng (Tm 22) [23, 24] (R0 [Oo 10 (.alloc 96), Sr 96 (Tm 10) (Tm 24)]) (.block 1 (R0 [Ld 25 82 6, Fa 26 96 10 0, Ld 27 28 26, Oo 28 (.buildSlice 82 1 #[(0, (Tm 27))]), Oo 29 (.call { callee := .builtin .append, args := #[Tm 25, Tm 28], argTypes := #[82, 82] }), Sr 82 (Tm 6) (Tm 29)]))))) (.seq (R0 [Ld 30 82 6, Sr 82 (Tm 6) (Tm 30), Sk 7 (Kn 0)]) .ret))))⟩
theorem sf45 : sfOf Tryd.f45 = some s45 := by kernel_rfl
theorem hb45 : hasBody Tryd.prog 45 = true := by kernel_rfl
def s61 : SF := ⟨22, [.tmp 6], (.seq (R0 [Oo 3 (.box 28 (Tm 0)), Sk 6 (Kb false)]) (.seq (R0 [Mv 7 1, Mv 8 2, Fa 9 28 3 0, Ld 10 3 9, Fa 11 28 3 1, Ld 12 3 11, Oo 13 (.buildSlice 43 2 #[(0, (Tm 10)), (1, (Tm 12))]), Cl 14 42 #[Tm 7, Tm 8, Tm 13] #[3, 3, 43], Mv 15 14, Gf 16 28 3 0 15 true, Gl 17 3 16 15 true, Gf 18 28 3 1 15 true, Gl 19 3 18 15 true, Gb 20 .leq 3 (Tm 17) (Tm 19) 3 15 true, Pk 21 15 (Tm 20) (Kb false), Sg 6 21]) .ret))⟩
theorem sf61 : sfOf Tryd.f61 = some s61 := by kernel_rfl
theorem hb61 : hasBody Tryd.prog 61 = true := by kernel_rfl
def s62 : SF := ⟨26, [.tmp 6], (.seq (R0 [Oo 3 (.box 91 (Tm 0)), Sk 6 (Kn 0)]) (.seq (R0 [Fa 7 91 3 0, Fa 8 26 7 0, Ld 9 3 8, Fa 10 91 3 0, Fa 11 26 10 1, Ld 12 3 11, Mv 13 1, Bo 14 .mul 3 (Tm 12) (Tm 13) 3, Bo 15 .sub 3 (Kn 1000) (Tm 14) 3, Fa 16 91 3 0, Fa 17 26 16 2, Ld 18 3 17, Mv 19 2, Bo 20 .mul 3 (Tm 18) (Tm 19) 3, Bo 21 .add 3 (Tm 15) (Tm 20) 3, Bo 22 .mul 3 (Tm 9) (Tm 21) 3, Bo 23 .add 3 (Tm 22) (Kn 1000) 3, Bo 24 .sub 3 (Tm 23) (Kn 1) 3, Bo 25 .quo 3 (Tm 24) (Kn 1000) 3, Sg 6 25]) .ret))⟩
theorem sf62 : sfOf Tryd.f62 = some s62 := by kernel_rfl
theorem hb62 : hasBody Tryd.prog 62 = true := by kernel_rfl
def s63 : SF := ⟨11, [.tmp 6], (.seq (R0 [Oo 3 (.box 3 (Tm 0)), Oo 4 (.box 3 (Tm 1)), Sk 6 (Kb false)]) (.seq (R0 [Mv 7 2, Oo 8 (.makeFunc (.func 105) #[] #[Tm 3, Tm 4]), Cl 9 78 #[Tm 7, Tm 8] #[43, 168], Oo 10 (.unOp .not 4 (Tm 9)), Sg 6 10]) .ret))⟩
theorem sf63 : sfOf Tryd.f63 = some s63 := by kernel_rfl
theorem hb63 : hasBody Tryd.prog 63 = true := by kernel_rfl
def s64 : SF := ⟨9, [.tmp 4], (.seq (R0 [Sk 4 (Kb false)]) (.seq (R0 [Mv 5 0, Mv 6 1, Cl 7 106 #[Tm 5, Tm 6] #[82, 97], Bo 8 .geq 3 (Tm 7) (Kn 0) 3, Sg 4 8]) .ret))⟩
theorem sf64 : sfOf Tryd.f64 = some s64 := by kernel_rfl
theorem hb64 : hasBody Tryd.prog 64 = true := by kernel_rfl
def s65 : SF := ⟨7, [.tmp 2], (.seq (R0 [Oo 1 (.box 28 (Tm 0)), Sk 2 (Kb false)]) (.seq (R0 [Ld 3 28 1, Oo 4 (.build 96 #[(0, (Tm 3))]), Cl 5 66 #[Tm 4] #[96], Oo 6 (.unOp .not 4 (Tm 5)), Sg 2 6]) .ret))⟩
theorem sf65 : sfOf Tryd.f65 = some s65 := by kernel_rfl
theorem hb65 : hasBody Tryd.prog 65 = true := by kernel_rfl
def s66 : SF := ⟨20, [.tmp 2], (.seq (R0 [Oo 1 (.box 96 (Tm 0)), Sk 2 (Kb false)]) (.seq (R0 [Fa 3 96 1 0, Fa 4 28 3 0, Ld 5 3 4, Fa 6 96 1 0, Fa 7 28 6 1, Ld 8 3 7, Oo 9 (.buildSlice 43 2 #[(0, (Tm 5)), (1, (Tm 8))]), Cl 10 63 #[Kn 0, Kn 300, Tm 9] #[3, 3, 43], Mv 11 10, Gf 12 96 1 0 11 true, Gf 13 28 12 0 11 true, Gl 14 3 13 11 true, Gf 15 96 1 0 11 true, Gf 16 28 15 1 11 true, Gl 17 3 16 11 true, Gb 18 .leq 3 (Tm 14) (Tm 17) 3 11 true, Pk 19 11 (Tm 18) (Kb false), Sg 2 19]) .ret))⟩
theorem sf66 : sfOf Tryd.f66 = some s66 := by kernel_rfl
theorem hb66 : hasBody Tryd.prog 66 = true := by kernel_rfl
def s67 : SF := ⟨28, [.tmp 8], (.seq (R0 [Oo 4 (.box 36 (Tm 0)), Sk 8 (Kn 0)]) (.seq (.seq (R0 [Mv 9 2, Mv 10 1, Bo 11 .gtr 3 (Tm 9) (Tm 10) 3]) (.cond (Tm 11) (.seq (R0 [Mv 12 2, Mv 13 1, Fa 14 36 4 0, Ld 15 3 14, Mv 16 3, Bo 17 .mul 3 (Tm 15) (Tm 16) 3, Bo 18 .add 3 (Tm 13) (Tm 17) 3, Oo 19 (.call { callee := .builtin .min, args := #[Tm 12, Tm 18], argTypes := #[3, 3] }), Sg 8 19]) .ret) .skip)) (.seq (R0 [Mv 20 2, Mv 21 1, Fa 22 36 4 1, Ld 23 3 22, Mv 24 3, Bo 25 .mul 3 (Tm 23) (Tm 24) 3, Bo 26 .sub 3 (Tm 21) (Tm 25) 3, Oo 27 (.call { callee := .builtin .max, args := #[Tm 20, Tm 26], argTypes := #[3, 3] }), Sg 8 27]) .ret)))⟩
theorem sf67 : sfOf Tryd.f67 = some s67 := by kernel_rfl
theorem hb67 : hasBody Tryd.prog 67 = true := by kernel_rfl
def s68 : SF := ⟨15, [.tmp 2], (.seq (R0 [Oo 1 (.box 38 (Tm 0)), Sk 2 (Kb false)]) (.seq (R0 [Fa 3 38 1 0, Ld 4 28 3, Fa 5 38 1 1, Ld 6 28 5, Oo 7 (.buildSlice 82 2 #[(0, (Tm 4)), (1, (Tm 6))]), Cl 8 31 #[Tm 7] #[82], Mv 9 8, Gf 10 38 1 2 9 true, Gl 11 3 10 9 true, Og 12 (.buildSlice 43 1 #[(0, (Tm 11))]) 9 true, Gc 13 63 #[Kn 0, Kn 500, Tm 12] #[3, 3, 43] 9 true, Pk 14 9 (Tm 13) (Kb false), Sg 2 14]) .ret))⟩
theorem sf68 : sfOf Tryd.f68 = some s68 := by kernel_rfl
theorem hb68 : hasBody Tryd.prog 68 = true := by kernel_rfl
def s69 : SF := ⟨13, [.tmp 2], (.seq (R0 [Oo 1 (.box 40 (Tm 0)), Sk 2 (Kb false)]) (.seq (R0 [Fa 3 40 1 0, Ld 4 28 3, Oo 5 (.buildSlice 82 1 #[(0, (Tm 4))]), Cl 6 31 #[Tm 5] #[82], Mv 7 6, Gf 8 40 1 1 7 true, Gl 9 3 8 7 true, Og 10 (.buildSlice 43 1 #[(0, (Tm 9))]) 7 true, Gc 11 63 #[Kn 0, Kn 7, Tm 10] #[3, 3, 43] 7 true, Pk 12 7 (Tm 11) (Kb false), Sg 2 12]) .ret))⟩
theorem sf69 : sfOf Tryd.f69 = some s69 := by kernel_rfl
theorem hb69 : hasBody Tryd.prog 69 = true := by kernel_rfl
def s70 : SF := ⟨9, [.tmp 4], (.seq (R0 [Sk 4 (Kb false)]) (.seq (R0 [Mv 5 0, Mv 6 1, Cl 7 107 #[Tm 5, Tm 6] #[46, 164], Bo 8 .geq 3 (Tm 7) (Kn 0) 3, Sg 4 8]) .ret))⟩
theorem sf70 : sfOf Tryd.f70 = some s70 := by kernel_rfl
theorem hb70 : hasBody Tryd.prog 70 = true := by kernel_rfl
def s71 : SF := ⟨8, [.tmp 3], (.seq (R0 [Oo 2 (.box 38 (Tm 0)), Sk 3 (Kb false)]) (.seq (R0 [Ld 4 164 1, Ld 5 38 2, Oo 6 (.call { callee := .value (Tm 4), args := #[Tm 5], argTypes := #[38] }), Oo 7 (.unOp .not 4 (Tm 6)), Sg 3 7]) .ret))⟩
theorem sf71 : sfOf Tryd.f71 = some s71 := by kernel_rfl
theorem hb71 : hasBody Tryd.prog 71 = true := by kernel_rfl
def s72 : SF := ⟨9, [.tmp 4], (.seq (R0 [Sk 4 (Kb false)]) (.seq (R0 [Mv 5 0, Mv 6 1, Cl 7 108 #[Tm 5, Tm 6] #[47, 165], Bo 8 .geq 3 (Tm 7) (Kn 0) 3, Sg 4 8]) .ret))⟩
theorem sf72 : sfOf Tryd.f72 = some s72 := by kernel_rfl
theorem hb72 : hasBody Tryd.prog 72 = true := by kernel_rfl
def s73 : SF := ⟨8, [.tmp 3], (.seq (R0 [Oo 2 (.box 40 (Tm 0)), Sk 3 (Kb false)]) (.seq (R0 [Ld 4 165 1, Ld 5 40 2, Oo 6 (.call { callee := .value (Tm 4), args := #[Tm 5], argTypes := #[40] }), Oo 7 (.unOp .not 4 (Tm 6)), Sg 3 7]) .ret))⟩
theorem sf73 : sfOf Tryd.f73 = some s73 := by kernel_rfl
theorem hb73 : hasBody Tryd.prog 73 = true := by kernel_rfl
def s74 : SF := ⟨8, [.tmp 2], (.seq (R0 [Sk 2 (Kn 0)]) (.seq (.cond (Kb false) (.seq (R0 [Mv 3 0, Oo 4 (.convert 102 206 (Tm 3)), Cl 5 109 #[Tm 4] #[206], Sg 2 5]) .ret) .skip) (.seq (R0 [Mv 6 0, Cl 7 110 #[Tm 6] #[208], Sg 2 7]) .ret)))⟩
theorem sf74 : sfOf Tryd.f74 = some s74 := by kernel_rfl
theorem hb74 : hasBody Tryd.prog 74 = true := by kernel_rfl
def s75 : SF := ⟨13, [.tmp 4], (.seq (R0 [Oo 2 (.box 43 (Tm 0)), Oo 4 (.assign (.const (.slice none 0 0)))]) (.seq (.seq (R0 [Mv 6 1]) (.block 0 (.rng (Tm 6) [7] (R0 [Sg 5 7]) (.block 1 (R0 [Ld 8 43 2, Mv 9 5, Oo 10 (.buildSlice 43 1 #[(0, (Tm 9))]), Oo 11 (.call { callee := .builtin .append, args := #[Tm 8, Tm 10], argTypes := #[43, 43] }), Sr 43 (Tm 2) (Tm 11)]))))) (.seq (R0 [Ld 12 43 2, Sg 4 12]) .ret)))⟩
theorem sf75 : sfOf Tryd.f75 = some s75 := by kernel_rfl
theorem hb75 : hasBody Tryd.prog 75 = true := by kernel_rfl
def s77 : SF := ⟨19, [.tmp 4], (.seq (R0 [Sk 4 (Kn 0)]) (.seq (.seq (R0 [Mv 6 0, Lq 7 6 50, Oo 8 (.move (Kn 0))]) (.block 0 (.loop (.seq (R0 [Bo 9 .lss 3 (Tm 8) (Tm 7) 3]) (.seq (.cond (Tm 9) .skip (.exit 0)) (.seq (.block 1 (.seq (R0 [Mv 10 8, Sg 5 10]) (.seq (R0 [Mv 11 1, Mv 12 0, Mv 13 5, Ix 14 50 12 13, Ld 15 34 14, Oo 16 (.call { callee := .value (Tm 11), args := #[Tm 15], argTypes := #[34] })]) (.cond (Tm 16) (.seq (R0 [Mv 17 5, Sg 4 17]) .ret) .skip)))) (R0 [Bo 18 .add 3 (Tm 8) (Kn 1) 3, Mv 8 18]))))))) (.seq (R0 [Sk 4 (Kn (-1))]) .ret)))⟩
theorem sf77 : sfOf Tryd.f77 = some s77 := by kernel_rfl
theorem hb77 : hasBody Tryd.prog 77 = true := by kernel_rfl
def s78 : SF := ⟨9, [.tmp 4], (.seq (R0 [Sk 4 (Kb false)]) (.seq (R0 [Mv 5 0, Mv 6 1, Cl 7 111 #[Tm 5, Tm 6] #[43, 168], Bo 8 .geq 3 (Tm 7) (Kn 0) 3, Sg 4 8]) .ret))⟩
theorem sf78 : sfOf Tryd.f78 = some s78 := by kernel_rfl
theorem hb78 : hasBody Tryd.prog 78 = true := by kernel_rfl
def s79 : SF := ⟨13, [.tmp 4], (.seq (R0 [Sk 4 (Kb false)]) (.seq (R0 [Mv 5 0, Ld 6 3 1, Bo 7 .lss 3 (Tm 5) (Tm 6) 3, Mv 8 7, Gm 9 0 8 false, Gl 10 3 2 8 false, Gb 11 .gtr 3 (Tm 9) (Tm 10) 3 8 false, Pk 12 8 (Kb true) (Tm 11), Sg 4 12]) .ret))⟩
theorem sf79 : sfOf Tryd.f79 = some s79 := by kernel_rfl
theorem hb79 : hasBody Tryd.prog 79 = true := by kernel_rfl
def s80 : SF := ⟨6, [.tmp 2], (.seq (R0 [Sk 2 (Kb false)]) (.seq (R0 [Mv 3 0, Mv 4 0, Bo 5 .neq 3 (Tm 3) (Tm 4) 3, Sg 2 5]) .ret))⟩
theorem sf80 : sfOf Tryd.f80 = some s80 := by kernel_rfl
theorem hb80 : hasBody Tryd.prog 80 = true := by kernel_rfl
def s81 : SF := ⟨35, [.cell 4 175, .tmp 5], (.seq (R0 [Oo 2 (.box 116 (Tm 0)), Oo 4 (.alloc 175), Sk 5 (Kn 0)]) (.seq (R0 [Ld 12 116 2, Cl 13 112 #[Tm 12] #[116], Mv 11 13, Xt 14 11 0, Xt 15 11 1, Oo 6 (.alloc 175), Sr 175 (Tm 6) (Tm 14), Sg 7 15]) (.seq (.seq (R0 [Mv 16 7, Bo 17 .neq 29 (Tm 16) (Kn 0) 29]) (.cond (Tm 17) (.seq (R0 [Ld 18 175 6, Mv 19 7, Sr 175 (Tm 4) (Tm 18), Sg 5 19]) .ret) .skip)) (.seq (.seq (R0 [Mv 20 1, Lq 21 20 210, Oo 22 (.move (Kn 0))]) (.block 0 (.loop (.seq (R0 [Bo 23 .lss 3 (Tm 22) (Tm 21) 3]) (.seq (.cond (Tm 23) .skip (.exit 0)) (.seq (.block 1 (.seq (R0 [Ix 24 210 20 22, Ld 25 121 24, Sg 9 25]) (.seq (R0 [Ld 26 175 6, Mv 27 9, Cl 28 113 #[Tm 26, Tm 27] #[175, 121], Sg 10 28]) (.seq (R0 [Mv 29 10, Bo 30 .neq 29 (Tm 29) (Kn 0) 29]) (.cond (Tm 30) (.seq (R0 [Ld 31 175 6, Mv 32 10, Sr 175 (Tm 4) (Tm 31), Sg 5 32]) .ret) .skip))))) (R0 [Bo 33 .add 3 (Tm 22) (Kn 1) 3, Mv 22 33]))))))) (.seq (R0 [Ld 34 175 6, Sr 175 (Tm 4) (Tm 34), Sk 5 (Kn 0)]) .ret)))))⟩
theorem sf81 : sfOf Tryd.f81 = some s81 := by kernel_rfl
theorem hb81 : hasBody Tryd.prog 81 = true := by kernel_rfl
def s82 : SF := ⟨5, [.tmp 2], (.seq (R0 [Sk 2 (Kb false)]) (.seq (R0 [Mv 3 0, Cl 4 42 #[Kn 0, Kn 1000, Tm 3] #[3, 3, 43], Sg 2 4]) .ret))⟩
theorem sf82 : sfOf Tryd.f82 = some s82 := by kernel_rfl
theorem hb82 : hasBody Tryd.prog 82 = true := by kernel_rfl
def s83 : SF := ⟨40, [.tmp 6], (.seq (R0 [Oo 3 (.box 175 (Tm 0)), Oo 6 (.assign (.const (.slice none 0 0)))]) (.seq (R0 [Fa 10 175 3 0, Fa 11 116 10 1, Ld 12 43 11, Cl 13 35 #[Tm 12] #[43], Sg 7 13]) (.seq (.seq (R0 [Mv 14 1, Lq 15 14 121, Oo 16 (.move (Kn 0))]) (.block 0 (.loop (.seq (R0 [Bo 17 .lss 3 (Tm 16) (Tm 15) 3]) (.seq (.cond (Tm 17) .skip (.exit 0)) (.seq (.block 1 (.seq (R0 [Ix 18 121 14 16, Ld 19 120 18, Oo 9 (.alloc 120), Sr 120 (Tm 9) (Tm 19)]) (.seq (R0 [Mv 20 2, Fa 21 120 9 2, Ld 22 3 21, Bo 23 .geq 3 (Tm 20) (Tm 22) 3]) (.cond (Tm 23) (R1 [Mv 24 7, Fa 25 120 9 0, Ld 26 3 25, Ld 27 175 3, Mv 28 7, Fa 29 120 9 0, Ld 30 3 29, Ix 31 43 28 30, Ld 32 3 31, Fa 33 120 9 1, Ld 34 118 33, Mv 35 2, Cl 36 114 #[Tm 27, Tm 32, Tm 34, Tm 35] #[175, 3, 118, 3], Ix 37 43 24 26, Sr 3 (Tm 37) (Tm 36)]) .skip)))) (R0 [Bo 38 .add 3 (Tm 16) (Kn 1) 3, Mv 16 38]))))))) (.seq (R0 [Mv 39 7, Sg 6 39]) .ret))))⟩
theorem sf83 : sfOf Tryd.f83 = some s83 := by kernel_rfl
theorem hb83 : hasBody Tryd.prog 83 = true := by kernel_rfl
def s84 : SF := ⟨25, [.tmp 6], (.seq (R0 [Oo 3 (.box 36 (Tm 0)), Oo 4 (.box 28 (Tm 1)), Sk 6 (Kn 0)]) (.seq (R0 [Oo 7 (.assign (.func 115))]) (.seq (.block 0 (.seq (R0 [Ld 9 36 3, Cl 10 30 #[Tm 9] #[36], Oo 11 (.unOp .not 4 (Tm 10)), Sg 8 11]) (.cond (Tm 8) (.seq (R0 [Sk 6 (Kn 2)]) .ret) (.seq (R0 [Ld 13 28 4, Oo 14 (.buildSlice 82 1 #[(0, (Tm 13))]), Cl 15 31 #[Tm 14] #[82], Oo 16 (.unOp .not 4 (Tm 15)), Sg 12 16]) (.cond (Tm 12) (.seq (R0 [Sk 6 (Kn 3)]) .ret) (.seq (R0 [Mv 18 2, Lq 19 18 125, Bo 20 .gtr 3 (Tm 19) (Kn 10) 3, Sg 17 20]) (.cond (Tm 17) (.seq (R0 [Sk 6 (Kn 5)]) .ret) (.seq (R0 [Mv 22 2, Mv 23 7, Cl 24 116 #[Tm 22, Tm 23] #[125, 214], Sg 21 24]) (.cond (Tm 21) (.seq (R0 [Sk 6 (Kn 4)]) .ret) .skip))))))))) (.seq (R0 [Sk 6 (Kn 0)]) .ret))))⟩
theorem sf84 : sfOf Tryd.f84 = some s84 := by kernel_rfl
theorem hb84 : hasBody Tryd.prog 84 = true := by kernel_rfl
def s85 : SF := ⟨8, [.tmp 6], (.seq (R0 [Oo 3 (.box 96 (Tm 0)), Oo 4 (.box 36 (Tm 1)), Oo 5 (.box 125 (Tm 2)), Oo 6 (.assign (.const .nilFunc))]) (.seq (R0 [Oo 7 (.makeFunc (.func 117) #[] #[Tm 5, Tm 3, Tm 4]), Sg 6 7]) .ret))⟩
theorem sf85 : sfOf Tryd.f85 = some s85 := by kernel_rfl
theorem hb85 : hasBody Tryd.prog 85 = true := by kernel_rfl
end Go.Dw.Seat
end
section
namespace Go.Dw.Seat
open Go Go.Dw Go.Proofs
def s105 : SF := ⟨13, [.tmp 4], (.seq (R0 [Sk 4 (Kb false)]) (.seq (R0 [Mv 5 0, Ld 6 3 1, Bo 7 .lss 3 (Tm 5) (Tm 6) 3, Mv 8 7, Gm 9 0 8 false, Gl 10 3 2 8 false, Gb 11 .gtr 3 (Tm 9) (Tm 10) 3 8 false, Pk 12 8 (Kb true) (Tm 11), Sg 4 12]) .ret))⟩
theorem sf105 : sfOf Tryd.f105 = some s105 := by kernel_rfl
theorem hb105 : hasBody Tryd.prog 105 = true := by kernel_rfl
def s106 : SF := ⟨19, [.tmp 4], (.seq (R0 [Sk 4 (Kn 0)]) (.seq (.seq (R0 [Mv 6 0, Lq 7 6 82, Oo 8 (.move (Kn 0))]) (.block 0 (.loop (.seq (R0 [Bo 9 .lss 3 (Tm 8) (Tm 7) 3]) (.seq (.cond (Tm 9) .skip (.exit 0)) (.seq (.block 1 (.seq (R0 [Mv 10 8, Sg 5 10]) (.seq (R0 [Mv 11 1, Mv 12 0, Mv 13 5, Ix 14 82 12 13, Ld 15 28 14, Oo 16 (.call { callee := .value (Tm 11), args := #[Tm 15], argTypes := #[28] })]) (.cond (Tm 16) (.seq (R0 [Mv 17 5, Sg 4 17]) .ret) .skip)))) (R0 [Bo 18 .add 3 (Tm 8) (Kn 1) 3, Mv 8 18]))))))) (.seq (R0 [Sk 4 (Kn (-1))]) .ret)))⟩
theorem sf106 : sfOf Tryd.f106 = some s106 := by kernel_rfl
theorem hb106 : hasBody Tryd.prog 106 = true := by kernel_rfl
def s107 : SF := ⟨19, [.tmp 4], (.seq (R0 [Sk 4 (Kn 0)]) (.seq (.seq (R0 [Mv 6 0, Lq 7 6 46, Oo 8 (.move (Kn 0))]) (.block 0 (.loop (.seq (R0 [Bo 9 .lss 3 (Tm 8) (Tm 7) 3]) (.seq (.cond (Tm 9) .skip (.exit 0)) (.seq (.block 1 (.seq (R0 [Mv 10 8, Sg 5 10]) (.seq (R0 [Mv 11 1, Mv 12 0, Mv 13 5, Ix 14 46 12 13, Ld 15 38 14, Oo 16 (.call { callee := .value (Tm 11), args := #[Tm 15], argTypes := #[38] })]) (.cond (Tm 16) (.seq (R0 [Mv 17 5, Sg 4 17]) .ret) .skip)))) (R0 [Bo 18 .add 3 (Tm 8) (Kn 1) 3, Mv 8 18]))))))) (.seq (R0 [Sk 4 (Kn (-1))]) .ret)))⟩
theorem sf107 : sfOf Tryd.f107 = some s107 := by kernel_rfl
theorem hb107 : hasBody Tryd.prog 107 = true := by kernel_rfl
def s108 : SF := ⟨19, [.tmp 4], (.seq (R0 [Sk 4 (Kn 0)]) (.seq (.seq (R0 [Mv 6 0, Lq 7 6 47, Oo 8 (.move (Kn 0))]) (.block 0 (.loop (.seq (R0 [Bo 9 .lss 3 (Tm 8) (Tm 7) 3]) (.seq (.cond (Tm 9) .skip (.exit 0)) (.seq (.block 1 (.seq (R0 [Mv 10 8, Sg 5 10]) (.seq (R0 [Mv 11 1, Mv 12 0, Mv 13 5, Ix 14 47 12 13, Ld 15 40 14, Oo 16 (.call { callee := .value (Tm 11), args := #[Tm 15], argTypes := #[40] })]) (.cond (Tm 16) (.seq (R0 [Mv 17 5, Sg 4 17]) .ret) .skip)))) (R0 [Bo 18 .add 3 (Tm 8) (Kn 1) 3, Mv 8 18]))))))) (.seq (R0 [Sk 4 (Kn (-1))]) .ret)))⟩
theorem sf108 : sfOf Tryd.f108 = some s108 := by kernel_rfl
theorem hb108 : hasBody Tryd.prog 108 = true := by kernel_rfl
def s110 : SF := ⟨14, [.tmp 2], (.seq (R0 [Sk 2 (Kn 0)]) (.seq (.seq (R0 [Mv 3 0, Bo 4 .eql 208 (Tm 3) (.const (.int .u64 0)) 208]) (.cond (Tm 4) (.seq (R0 [Sk 2 (Kn 64)]) .ret) .skip)) (.seq (R0 [Mv 5 0, Mv 6 0, Oo 7 (.unOp .neg 208 (Tm 6)), Bo 8 .and 208 (Tm 5) (Tm 7) 208, Bo 9 .mul 208 (Tm 8) (.const (.int .u64 285870213051353865)) 208, Bo 10 .shr 208 (Tm 9) (.const (.int .u64 58)) 102, Oo 11 (.indexAddr 226 (.global 1) (Tm 10)), Ld 12 5 11, Oo 13 (.convert 5 3 (Tm 12)), Sg 2 13]) .ret)))⟩
theorem sf110 : sfOf Tryd.f110 = some s110 := by kernel_rfl
theorem hb110 : hasBody Tryd.prog 110 = true := by kernel_rfl
def s111 : SF := ⟨19, [.tmp 4], (.seq (R0 [Sk 4 (Kn 0)]) (.seq (.seq (R0 [Mv 6 0, Lq 7 6 43, Oo 8 (.move (Kn 0))]) (.block 0 (.loop (.seq (R0 [Bo 9 .lss 3 (Tm 8) (Tm 7) 3]) (.seq (.cond (Tm 9) .skip (.exit 0)) (.seq (.block 1 (.seq (R0 [Mv 10 8, Sg 5 10]) (.seq (R0 [Mv 11 1, Mv 12 0, Mv 13 5, Ix 14 43 12 13, Ld 15 3 14, Oo 16 (.call { callee := .value (Tm 11), args := #[Tm 15], argTypes := #[3] })]) (.cond (Tm 16) (.seq (R0 [Mv 17 5, Sg 4 17]) .ret) .skip)))) (R0 [Bo 18 .add 3 (Tm 8) (Kn 1) 3, Mv 8 18]))))))) (.seq (R0 [Sk 4 (Kn (-1))]) .ret)))⟩
theorem sf111 : sfOf Tryd.f111 = some s111 := by kernel_rfl
theorem hb111 : hasBody Tryd.prog 111 = true := by kernel_rfl
def s112 : SF := ⟨35, [.cell 2 175, .tmp 3], (.seq (R0 [Oo 1 (.box 116 (Tm 0)), Oo 2 (.alloc 175), Sk 3 (Kn 0)]) (.seq (.block 0 (.seq (R0 [Fa 5 116 1 0, Ld 6 3 5, Oo 7 (.buildSlice 43 1 #[(0, (Tm 6))]), Cl 8 42 #[Kn 1, Kn 16, Tm 7] #[3, 3, 43], Oo 9 (.unOp .not 4 (Tm 8)), Sg 4 9]) (.cond (Tm 4) (.seq (R0 [Ld 10 175 2, Sr 175 (Tm 2) (Tm 10), Sk 3 (Kn 3)]) .ret) (.seq (R0 [Fa 12 116 1 1, Ld 13 43 12, Lq 14 13 43, Bo 15 .gtr 3 (Tm 14) (Kn 6) 3, Sg 11 15]) (.cond (Tm 11) (.seq (R0 [Ld 16 175 2, Sr 175 (Tm 2) (Tm 16), Sk 3 (Kn 5)]) .ret) (.seq (R0 [Fa 18 116 1 1, Ld 19 43 18, Lq 20 19 43, Bo 21 .eql 3 (Tm 20) (Kn 0) 3, Sg 17 21]) (.cond (Tm 17) (.seq (R0 [Ld 22 175 2, Sr 175 (Tm 2) (Tm 22), Sk 3 (Kn 7)]) .ret) (.seq (R1 [Fa 24 116 1 0, Ld 25 3 24, Bo 26 .shl 3 (Kn 1) (Tm 25) 3, Bo 27 .sub 3 (Tm 26) (Kn 1) 3, Fa 28 116 1 1, Ld 29 43 28, Cl 30 42 #[Kn 0, Tm 27, Tm 29] #[3, 3, 43], Oo 31 (.unOp .not 4 (Tm 30)), Sg 23 31]) (.cond (Tm 23) (.seq (R0 [Ld 32 175 2, Sr 175 (Tm 2) (Tm 32), Sk 3 (Kn 2)]) .ret) .skip))))))))) (.seq (R0 [Ld 33 116 1, Oo 34 (.build 175 #[(0, (Tm 33))]), Sr 175 (Tm 2) (Tm 34), Sk 3 (Kn 0)]) .ret)))⟩
theorem sf112 : sfOf Tryd.f112 = some s112 := by kernel_rfl
theorem hb112 : hasBody Tryd.prog 112 = true := by kernel_rfl
def s113 : SF := ⟨34, [.tmp 4], (.seq (R0 [Oo 2 (.box 175 (Tm 0)), Sk 4 (Kn 0)]) (.seq (R0 [Oo 7 (.makeFunc (.func 129) #[] #[Tm 2]), Sg 5 7]) (.seq (.block 0 (.seq (R0 [Mv 9 1, Lq 10 9 121, Bo 11 .gtr 3 (Tm 10) (Kn 2) 3, Sg 8 11]) (.cond (Tm 8) (.seq (R0 [Sk 4 (Kn 8)]) .ret) (.seq (R0 [Mv 13 1, Mv 14 5, Cl 15 131 #[Tm 13, Tm 14] #[121, 227], Sg 12 15]) (.cond (Tm 12) (.seq (R0 [Sk 4 (Kn 4)]) .ret) .skip))))) (.seq (.seq (R0 [Sk 6 (Kn 1)]) (.block 1 (.loop (.seq (.seq (R0 [Mv 16 6, Mv 17 1, Lq 18 17 121, Bo 19 .lss 3 (Tm 16) (Tm 18) 3]) (.cond (Tm 19) .skip (.exit 1))) (.seq (.block 2 (.seq (R1 [Mv 22 1, Mv 23 6, Ix 24 121 22 23, Fa 25 120 24 0, Ld 26 3 25, Mv 27 1, Mv 28 6, Bo 29 .sub 3 (Tm 28) (Kn 1) 3, Ix 30 121 27 29, Fa 31 120 30 0, Ld 32 3 31, Bo 33 .leq 3 (Tm 26) (Tm 32) 3]) (.cond (Tm 33) (.seq (R0 [Sk 4 (Kn 6)]) .ret) .skip))) (R0 [Mv 20 6, Bo 21 .add 3 (Tm 20) (Kn 1) 3, Sg 6 21])))))) (.seq (R0 [Sk 4 (Kn 0)]) .ret)))))⟩
theorem sf113 : sfOf Tryd.f113 = some s113 := by kernel_rfl
theorem hb113 : hasBody Tryd.prog 113 = true := by kernel_rfl
def s114 : SF := ⟨36, [.tmp 8], (.seq (R0 [Oo 4 (.box 175 (Tm 0)), Sk 8 (Kn 0)]) (.seq (.seq (R0 [Mv 9 2]) (.block 0 (.seq (R0 [Bo 11 .eql 118 (Tm 9) (Kn 1) 118, Sg 10 11]) (.cond (Tm 10) (.seq (R0 [Sk 8 (Kn 0)]) .ret) (.seq (R0 [Bo 13 .eql 118 (Tm 9) (Kn 2) 118, Sg 12 13]) (.cond (Tm 12) (.seq (R0 [Mv 14 1, Mv 15 1, Bo 16 .shl 3 (Tm 15) (.const (.int .u64 1)) 102, Bo 17 .or 3 (Tm 14) (Tm 16) 3, Fa 18 175 4 0, Fa 19 116 18 0, Ld 20 3 19, Bo 21 .shl 3 (Kn 1) (Tm 20) 3, Bo 22 .sub 3 (Tm 21) (Kn 1) 3, Bo 23 .and 3 (Tm 17) (Tm 22) 3, Sg 8 23]) .ret) (.seq (R0 [Bo 25 .eql 118 (Tm 9) (Kn 3) 118, Sg 24 25]) (.cond (Tm 24) (.seq (R0 [Mv 26 1, Mv 27 1, Bo 28 .shl 3 (Tm 27) (.const (.int .u64 1)) 102, Bo 29 .and 3 (Tm 26) (Tm 28) 3, Sg 8 29]) .ret) (.seq (R0 [Bo 31 .eql 118 (Tm 9) (Kn 4) 118, Sg 30 31]) (.cond (Tm 30) (.seq (R0 [Mv 32 3, Bo 33 .rem 3 (Tm 32) (Kn 2) 3, Bo 34 .eql 3 (Tm 33) (Kn 1) 3]) (.cond (Tm 34) (.seq (R0 [Sk 8 (Kn 0)]) .ret) .skip)) .skip)))))))))) (.seq (R0 [Mv 35 1, Sg 8 35]) .ret)))⟩
theorem sf114 : sfOf Tryd.f114 = some s114 := by kernel_rfl
theorem hb114 : hasBody Tryd.prog 114 = true := by kernel_rfl
def s115 : SF := ⟨15, [.tmp 2], (.seq (R0 [Oo 1 (.box 124 (Tm 0)), Sk 2 (Kb false)]) (.seq (R0 [Fa 3 124 1 0, Ld 4 28 3, Oo 5 (.buildSlice 82 1 #[(0, (Tm 4))]), Cl 6 31 #[Tm 5] #[82], Oo 7 (.unOp .not 4 (Tm 6)), Mv 8 7, Gf 9 124 1 1 8 false, Gl 10 3 9 8 false, Og 11 (.buildSlice 43 1 #[(0, (Tm 10))]) 8 false, Gc 12 63 #[Kn 0, Kn 500, Tm 11] #[3, 3, 43] 8 false, Og 13 (.unOp .not 4 (Tm 12)) 8 false, Pk 14 8 (Kb true) (Tm 13), Sg 2 14]) .ret))⟩
theorem sf115 : sfOf Tryd.f115 = some s115 := by kernel_rfl
theorem hb115 : hasBody Tryd.prog 115 = true := by kernel_rfl
def s116 : SF := ⟨9, [.tmp 4], (.seq (R0 [Sk 4 (Kb false)]) (.seq (R0 [Mv 5 0, Mv 6 1, Cl 7 132 #[Tm 5, Tm 6] #[125, 214], Bo 8 .geq 3 (Tm 7) (Kn 0) 3, Sg 4 8]) .ret))⟩
theorem sf116 : sfOf Tryd.f116 = some s116 := by kernel_rfl
theorem hb116 : hasBody Tryd.prog 116 = true := by kernel_rfl
def s117 : SF := ⟨26, [], (.seq (R0 [Ld 7 125 1, Lq 8 7 125, Oo 9 (.move (Kn 0))]) (.block 0 (.loop (.seq (R0 [Bo 10 .lss 3 (Tm 9) (Tm 8) 3]) (.seq (.cond (Tm 10) .skip (.exit 0)) (.seq (.block 1 (.seq (R0 [Ix 11 125 7 9, Ld 12 124 11, Oo 6 (.alloc 124), Sr 124 (Tm 6) (Tm 12)]) (.seq (R0 [Ld 13 96 2, Ld 14 36 3, Fa 15 124 6 0, Ld 16 28 15, Fa 17 124 6 1, Ld 18 3 17, Cl 19 33 #[Tm 13, Tm 14, Tm 16, Tm 18] #[96, 36, 28, 3], Sr 96 (Tm 2) (Tm 19)]) (.seq (R0 [Mv 20 0, Ld 21 124 6, Ld 22 96 2, Oo 23 (.call { callee := .value (Tm 20), args := #[Tm 21, Tm 22], argTypes := #[124, 96] }), Oo 24 (.unOp .not 4 (Tm 23))]) (.cond (Tm 24) .ret .skip))))) (R0 [Bo 25 .add 3 (Tm 9) (Kn 1) 3, Mv 9 25])))))))⟩
theorem sf117 : sfOf Tryd.f117 = some s117 := by kernel_rfl
theorem hb117 : hasBody Tryd.prog 117 = true := by kernel_rfl
def s129 : SF := ⟨8, [.tmp 3], (.seq (R0 [Oo 2 (.box 120 (Tm 0)), Sk 3 (Kb false)]) (.seq (R0 [Ld 4 175 1, Ld 5 120 2, Cl 6 130 #[Tm 4, Tm 5] #[175, 120], Oo 7 (.unOp .not 4 (Tm 6)), Sg 3 7]) .ret))⟩
theorem sf129 : sfOf Tryd.f129 = some s129 := by kernel_rfl
theorem hb129 : hasBody Tryd.prog 129 = true := by kernel_rfl
def s130 : SF := ⟨21, [.tmp 4], (.seq (R0 [Oo 2 (.box 175 (Tm 0)), Oo 3 (.box 120 (Tm 1)), Sk 4 (Kb false)]) (.seq (R0 [Ld 5 175 2, Fa 6 120 3 0, Ld 7 3 6, Cl 8 140 #[Tm 5, Tm 7] #[175, 3], Mv 9 8, Gf 10 120 3 1 9 true, Gl 11 118 10 9 true, Og 12 (.buildSlice 43 1 #[(0, (Tm 11))]) 9 true, Gc 13 42 #[Kn 1, Kn 4, Tm 12] #[3, 3, 43] 9 true, Pk 14 9 (Tm 13) (Kb false), Mv 15 14, Gf 16 120 3 2 15 true, Gl 17 3 16 15 true, Og 18 (.buildSlice 43 1 #[(0, (Tm 17))]) 15 true, Gc 19 82 #[Tm 18] #[43] 15 true, Pk 20 15 (Tm 19) (Kb false), Sg 4 20]) .ret))⟩
theorem sf130 : sfOf Tryd.f130 = some s130 := by kernel_rfl
theorem hb130 : hasBody Tryd.prog 130 = true := by kernel_rfl
def s131 : SF := ⟨9, [.tmp 4], (.seq (R0 [Sk 4 (Kb false)]) (.seq (R0 [Mv 5 0, Mv 6 1, Cl 7 141 #[Tm 5, Tm 6] #[121, 227], Bo 8 .geq 3 (Tm 7) (Kn 0) 3, Sg 4 8]) .ret))⟩
theorem sf131 : sfOf Tryd.f131 = some s131 := by kernel_rfl
theorem hb131 : hasBody Tryd.prog 131 = true := by kernel_rfl
def s132 : SF := ⟨19, [.tmp 4], (.seq (R0 [Sk 4 (Kn 0)]) (.seq (.seq (R0 [Mv 6 0, Lq 7 6 125, Oo 8 (.move (Kn 0))]) (.block 0 (.loop (.seq (R0 [Bo 9 .lss 3 (Tm 8) (Tm 7) 3]) (.seq (.cond (Tm 9) .skip (.exit 0)) (.seq (.block 1 (.seq (R0 [Mv 10 8, Sg 5 10]) (.seq (R0 [Mv 11 1, Mv 12 0, Mv 13 5, Ix 14 125 12 13, Ld 15 124 14, Oo 16 (.call { callee := .value (Tm 11), args := #[Tm 15], argTypes := #[124] })]) (.cond (Tm 16) (.seq (R0 [Mv 17 5, Sg 4 17]) .ret) .skip)))) (R0 [Bo 18 .add 3 (Tm 8) (Kn 1) 3, Mv 8 18]))))))) (.seq (R0 [Sk 4 (Kn (-1))]) .ret)))⟩
theorem sf132 : sfOf Tryd.f132 = some s132 := by kernel_rfl
theorem hb132 : hasBody Tryd.prog 132 = true := by kernel_rfl
def s140 : SF := ⟨13, [.tmp 4], (.seq (R0 [Oo 2 (.box 175 (Tm 0)), Sk 4 (Kb false)]) (.seq (R0 [Fa 5 175 2 0, Fa 6 116 5 1, Ld 7 43 6, Lq 8 7 43, Bo 9 .sub 3 (Tm 8) (Kn 1) 3, Mv 10 1, Oo 11 (.buildSlice 43 1 #[(0, (Tm 10))]), Cl 12 42 #[Kn 0, Tm 9, Tm 11] #[3, 3, 43], Sg 4 12]) .ret))⟩
theorem sf140 : sfOf Tryd.f140 = some s140 := by kernel_rfl
theorem hb140 : hasBody Tryd.prog 140 = true := by kernel_rfl
def s141 : SF := ⟨19, [.tmp 4], (.seq (R0 [Sk 4 (Kn 0)]) (.seq (.seq (R0 [Mv 6 0, Lq 7 6 121, Oo 8 (.move (Kn 0))]) (.block 0 (.loop (.seq (R0 [Bo 9 .lss 3 (Tm 8) (Tm 7) 3]) (.seq (.cond (Tm 9) .skip (.exit 0)) (.seq (.block 1 (.seq (R0 [Mv 10 8, Sg 5 10]) (.seq (R0 [Mv 11 1, Mv 12 0, Mv 13 5, Ix 14 121 12 13, Ld 15 120 14, Oo 16 (.call { callee := .value (Tm 11), args := #[Tm 15], argTypes := #[120] })]) (.cond (Tm 16) (.seq (R0 [Mv 17 5, Sg 4 17]) .ret) .skip)))) (R0 [Bo 18 .add 3 (Tm 8) (Kn 1) 3, Mv 8 18]))))))) (.seq (R0 [Sk 4 (Kn (-1))]) .ret)))⟩
theorem sf141 : sfOf Tryd.f141 = some s141 := by kernel_rfl
theorem hb141 : hasBody Tryd.prog 141 = true := by kernel_rfl
end Go.Dw.Seat
end
section
namespace Go.Dw.Seat
open Go Go.Dw Go.Proofs Go.IntWalk
theorem qA : type_of% @DW.seq := @DW.seq
theorem qB : type_of% @DW.block := @DW.block
theorem qC : type_of% @DW.skip := @DW.skip
theorem qD : type_of% @DW.exit := @DW.exit
theorem qE : type_of% @DW.ret := @DW.ret
theorem qF : type_of% @DW.reg := @DW.reg
theorem qG : type_of% @DW.cond_tt := @DW.cond_tt
theorem qH : type_of% @DW.cond_ff := @DW.cond_ff
theorem qI : type_of% @DW.cond := @DW.cond
theorem qJ : type_of% @g_split := @g_split
theorem qK : type_of% @call_c := @call_c
theorem qL : type_of% @DW.dreg := @DW.dreg
theorem qM : type_of% @retS_of := @retS_of
theorem qN : type_of% @bm_box := @bm_box
theorem qO : type_of% @bm_row := @bm_row
theorem qP : type_of% @bk_box := @bk_box
theorem qQ : type_of% @bk_row := @bk_row
theorem qR : type_of% @wkT_cons := @wkT_cons
theorem qS : type_of% @wkX_cons := @wkX_cons
theorem qTw : type_of% @wkT_nil := @wkT_nil
theorem qU : type_of% @wkX_nil := @wkX_nil
theorem qV : type_of% @ex_some := @ex_some
theorem qW : type_of% @wk_self := @wk_self
theorem qX : type_of% @wk_top := @wk_top
theorem qY : type_of% @wk_nil := @wk_nil
theorem qZ : type_of% @wkB_self := @wkB_self
theorem rA : type_of% @Int.natCast_add := @Int.natCast_add
theorem rB : type_of% @Int.natCast_one := @Int.natCast_one
theorem rC : type_of% @Int.ofNat_zero := @Int.ofNat_zero
theorem rD : type_of% @Int.natCast_zero := @Int.natCast_zero
theorem rE : type_of% @IntWalk.i64_in := @IntWalk.i64_in
theorem rF : type_of% @List.map_cons := @List.map_cons
theorem rG : type_of% @List.map_nil := @List.map_nil
end Go.Dw.Seat
end
section
set_option linter.unusedSimpArgs false
set_option maxRecDepth 100000
namespace Go.Dw.Seat.Cr
open Go Go.Dw Go.Proofs Go.IntWalk
theorem c122 (b : Bool) (l : List (Int)) (hl : l.length ≤ 2 ^ 36) (g : FuncId) (fs caps : List C) (p : Int → Bool) (hp : ∀ x ∈ l, DCall Tryd.prog g (fs.map D.c ++ [dI x] ++ caps.map D.c) [] (bD (p x)) []) : DCall Tryd.prog 111 [.c (.sl b 1 (rows eI l)), .c (.fn (.func g) fs caps)] [] (dI (idxI p l)) [] := by
 refine DCall.of Tryd.func111 sf111 hb111 (Nat.le_of_ble_eq_true rfl) (okRes_nil fun _ => rfl) ?_; simp only [s111, idxs, Nat.reduceAdd]
 repeat' (first|(with_reducible first|apply qA|apply qB|apply qC|apply qD|apply qE|apply qF)|(simp (disch:=omega) only [go_sem, simprocAttr, Blk.men, Blk.keysIn])|exact qM rfl rfl rfl|(refine qG rfl ?_)|(refine qH rfl ?_)|(refine qI rfl ?_ ?_<;>intro hc<;>(try simp only [go_sem] at hc))|(refine qJ ?_ ?_<;>intro hc<;>(try simp only [hc])<;>(try simp only [go_sem] at hc)))
 refine DW.loop (ι := { i : Nat // i ≤ l.length ∧ ∀ j u, j < i → l[j]? = some u → p u = false }) (fun i => ⟨19, [(8, dI i.1), (7, dI l.length), (1, .c (.fn (.func g) fs caps)), (0, .c (.sl b 1 (rows eI l)))], []⟩) (fun i => l.length - i.1) ⟨0, Nat.zero_le _, fun j u h => by omega⟩ ?_ ?_
 ·refine Ent.to ?_ ?_ <;> simp (disch:=omega) only [qR,qS,qTw,qU,get,Nat.reduceEqDiff,↓reduceIte,qV,qW,qX,qY,qZ,and_self,dI,i64_in,and_true,true_and,rA,rB,rC,rD]
 rintro ⟨i, hi, hij⟩
 rcases at_or l i hi with ⟨v, hv, hlt, hd⟩ | ⟨he, hd⟩
 ·have hcall := hp v (List.mem_of_getElem? hv)
  repeat' (first|(with_reducible first|apply qA|apply qB|apply qC|apply qD|apply qE|apply qF)|(simp (disch:=omega) only [go_sem, simprocAttr, Blk.men, Blk.keysIn, hd, hv, closeDs_fn, rF, rG])|exact qM rfl rfl rfl|(refine qG rfl ?_)|(refine qH rfl ?_)|(refine qI rfl ?_ ?_<;>intro hc<;>(try simp only [go_sem] at hc))|(refine qJ ?_ ?_<;>intro hc<;>(try simp only [hc])<;>(try simp only [go_sem] at hc)))
  refine call_c hcall (by decide) ?_
  simp (disch:=omega) only [go_sem,simprocAttr,Blk.men,Blk.keysIn]
  refine DW.cond rfl ?_ ?_ <;> intro hc
  ·repeat' (first|(with_reducible first|apply qA|apply qB|apply qC|apply qD|apply qE|apply qF)|(simp (disch:=omega) only [go_sem, simprocAttr, Blk.men, Blk.keysIn])|exact qM rfl rfl rfl|(refine qG rfl ?_)|(refine qH rfl ?_)|(refine qI rfl ?_ ?_<;>intro hc<;>(try simp only [go_sem] at hc))|(refine qJ ?_ ?_<;>intro hc<;>(try simp only [hc])<;>(try simp only [go_sem] at hc)))
   refine retS_of rfl ?_ rfl; simp only [oneD, St.op, get, Nat.reduceEqDiff, ↓reduceIte, Option.getD_some, bD, dI]
   simp only [idxI, idxOf_some hij hv hc]
  ·repeat' (first|(with_reducible first|apply qA|apply qB|apply qC|apply qD|apply qE|apply qF)|(simp (disch:=omega) only [go_sem, simprocAttr, Blk.men, Blk.keysIn])|exact qM rfl rfl rfl|(refine qG rfl ?_)|(refine qH rfl ?_)|(refine qI rfl ?_ ?_<;>intro hc<;>(try simp only [go_sem] at hc))|(refine qJ ?_ ?_<;>intro hc<;>(try simp only [hc])<;>(try simp only [go_sem] at hc)))
   refine ⟨⟨i + 1, by omega, fun j u hj hu => by
    rcases Nat.lt_or_ge j i with h | h
    ·exact hij j u h hu
    ·have : j = i := by omega
     subst this
     rw [hv] at hu; cases hu; exact hc⟩, ?_, Ent.to ?_ ?_⟩ <;> first | (show _ < _; (try simp only); omega) | (simp (disch:=omega) only [qR,qS,qTw,qU,get,Nat.reduceEqDiff,↓reduceIte,qV,qW,qX,qY,qZ,and_self,dI,i64_in,and_true,true_and,rA,rB,rC,rD])
 ·repeat' (first|(with_reducible first|apply qA|apply qB|apply qC|apply qD|apply qE|apply qF)|(simp (disch:=omega) only [go_sem, simprocAttr, Blk.men, Blk.keysIn, hd])|exact qM rfl rfl rfl|(refine qG rfl ?_)|(refine qH rfl ?_)|(refine qI rfl ?_ ?_<;>intro hc<;>(try simp only [go_sem] at hc))|(refine qJ ?_ ?_<;>intro hc<;>(try simp only [hc])<;>(try simp only [go_sem] at hc)))
  refine retS_of rfl ?_ rfl; simp only [oneD, St.op, get, Nat.reduceEqDiff, ↓reduceIte, Option.getD_some, bD, dI]
  simp only [idxI, idxOf_none (he ▸ hij)]
theorem c110 (b : Bool) (l : List (Int)) (hl : l.length ≤ 2 ^ 36) (g : FuncId) (fs caps : List C) (p : Int → Bool) (hp : ∀ x ∈ l, DCall Tryd.prog g (fs.map D.c ++ [dI x] ++ caps.map D.c) [] (bD (p x)) []) : DCall Tryd.prog 78 [.c (.sl b 1 (rows eI l)), .c (.fn (.func g) fs caps)] [] (bD (l.any p)) [] := by
 refine DCall.of Tryd.func78 sf78 hb78 (Nat.le_of_ble_eq_true rfl) (okRes_nil fun _ => rfl) ?_; simp only [s78, idxs, Nat.reduceAdd]
 repeat' (first|(with_reducible first|apply qA|apply qB|apply qC|apply qD|apply qE|apply qF)|(simp (disch:=omega) only [go_sem, simprocAttr, Blk.men, Blk.keysIn])|exact qM rfl rfl rfl|(refine qG rfl ?_)|(refine qH rfl ?_)|(refine qI rfl ?_ ?_<;>intro hc<;>(try simp only [go_sem] at hc))|(refine qJ ?_ ?_<;>intro hc<;>(try simp only [hc])<;>(try simp only [go_sem] at hc)))
 refine call_c (c122 b l hl g fs caps p hp) (by decide) ?_
 repeat' (first|(with_reducible first|apply qA|apply qB|apply qC|apply qD|apply qE|apply qF)|(simp (disch:=omega) only [go_sem, simprocAttr, Blk.men, Blk.keysIn])|exact qM rfl rfl rfl|(refine qG rfl ?_)|(refine qH rfl ?_)|(refine qI rfl ?_ ?_<;>intro hc<;>(try simp only [go_sem] at hc))|(refine qJ ?_ ?_<;>intro hc<;>(try simp only [hc])<;>(try simp only [go_sem] at hc)))
 refine retS_of rfl ?_ rfl; simp only [oneD, St.op, get, Nat.reduceEqDiff, ↓reduceIte, Option.getD_some, bD, dI]
 rw [idxI_any]
def wthn (lo hi : Int) (l : List Int) : Bool := !(l.any fun n => decide (n < lo) || decide (hi < n))
theorem wthn_one {lo hi n : Int} (h : wthn lo hi [n] = true) : lo ≤ n ∧ n ≤ hi := by
 simp [wthn] at h; omega
theorem wthn_all {lo hi : Int} {l : List Int} (h : wthn lo hi l = true) : ∀ v ∈ l, lo ≤ v ∧ v ≤ hi := by
 simp only [wthn, Bool.not_eq_true', List.any_eq_false, Bool.or_eq_true, decide_eq_true_eq] at h
 intro v hv
 have := h v hv
 omega
theorem wthn_two {lo hi a b : Int} (h : wthn lo hi [a, b] = true) : (lo ≤ a ∧ a ≤ hi) ∧ lo ≤ b ∧ b ≤ hi :=
 ⟨wthn_all h a (by simp), wthn_all h b (by simp)⟩
def spanOk (lo hi least most : Int) : Bool := wthn least most [lo, hi] && decide (lo ≤ hi)
end Go.Dw.Seat.Cr
end
section
set_option linter.unusedSimpArgs false
set_option maxRecDepth 100000
namespace Go.Dw.Seat.Cr
open Go Go.Dw Go.Proofs Go.IntWalk
structure CR where
 tests : Int
 mean : Int
 low : Int
 bad : Int
abbrev dCR (r : CR) : D := .agg [dI r.tests, dI r.mean, dI r.low, dI r.bad]
structure CLot where
 off : Int
 made : Int
 ws : Int
 wb : Int
 bs : Int
 bb : Int
abbrev dLot (r : CR) (l : CLot) : D := .agg [dI r.tests, dI r.mean, dI r.low, dI r.bad, dI l.off, dI l.made, dI l.ws, dI l.wb, dI l.bs, dI l.bb]
attribute [go_sem] dCR dLot
def lowT (off x : Int) : Int := if 0 < x - off then x - off else 0
def highT (off x : Int) : Int := if x + off < 100000 then x + off else 100000
def CLot.after (r : CR) (l : CLot) (x : Int) : CLot :=
 ⟨l.off, l.made + 1, l.ws + lowT l.off x, if lowT l.off x < r.low then l.wb + 1 else l.wb, l.bs + highT l.off x, if highT l.off x < r.low then l.bb + 1 else l.bb⟩
structure CLot.ok (l : CLot) : Prop where
 off : 0 ≤ l.off ∧ l.off ≤ 1000
 made : 0 ≤ l.made ∧ l.made ≤ 100
 ws : 0 ≤ l.ws ∧ l.ws ≤ 100000 * l.made
 wb : 0 ≤ l.wb ∧ l.wb ≤ l.made
 bs : 0 ≤ l.bs ∧ l.bs ≤ 100000 * l.made
 bb : 0 ≤ l.bb ∧ l.bb ≤ l.made
end Go.Dw.Seat.Cr
end
section
set_option linter.unusedSimpArgs false
set_option maxRecDepth 100000
namespace Go.Dw.Seat.Cr
open Go Go.Dw Go.Proofs Go.IntWalk
structure IsRoot (n r : Int) : Prop where
 pos : 0 ≤ r
 low : r * r ≤ n
 high : n < (r + 1) * (r + 1)
theorem sq_mono {a b : Int} (ha : 0 ≤ a) (h : a ≤ b) : a * a ≤ b * b := Int.mul_le_mul h h ha (by omega)
theorem IsRoot.le {n r k : Int} (h : IsRoot n r) (hk : 0 ≤ k) : (n < (k + 1) * (k + 1)) ↔ r ≤ k := by
 constructor
 ·intro h1
  rcases Int.lt_or_le k r with h2 | h2
  ·have := sq_mono (a := k + 1) (b := r) (by omega) (by omega)
   have := h.low
   omega
  ·exact h2
 ·intro h1
  have := sq_mono (a := r + 1) (b := k + 1) (by have := h.pos; omega) (by omega)
  have := h.high
  omega
theorem IsRoot.mono {n n' r r' : Int} (h : IsRoot n r) (h' : IsRoot n' r') (hn : n ≤ n') : r ≤ r' :=
 (h.le h'.pos).1 (by have := h'.high; omega)
theorem IsRoot.lt {n r : Int} (h : IsRoot n r) (hn : n ≤ 200000000) : r ≤ 14142 := by
 rcases Int.lt_or_le 14142 r with h1 | h1
 ·have := sq_mono (a := 14143) (b := r) (by decide) (by omega)
  have := h.low
  omega
 ·exact h1
structure CBox where
 el : Int
 eh : Int
 cl : Int
 ch : Int
 around : Int
 rule : Int
structure CBox.ok (b : CBox) : Prop where
 edge : 0 ≤ b.el ∧ b.el ≤ b.eh ∧ b.eh ≤ 100000
 cal : 1 ≤ b.cl ∧ b.cl ≤ b.ch ∧ b.ch ≤ 10000
 around : 1 ≤ b.around ∧ b.around ≤ 20000
 rule : 1 ≤ b.rule ∧ b.rule ≤ 1000
abbrev dCBox (b : CBox) : D := .agg [dI b.el, dI b.eh, dI b.cl, dI b.ch, dI b.around, dI b.rule]
attribute [go_sem] dCBox
end Go.Dw.Seat.Cr
end
section
set_option linter.unusedSimpArgs false
set_option maxRecDepth 100000
namespace Go.Dw.Seat.Cr
open Go Go.Dw Go.Proofs Go.IntWalk
structure Lod where
 sl : Int
 sh : Int
 wl : Int
 wh : Int
def eLd (b : Lod) : List C := [.v (.int .i64 b.sl), .v (.int .i64 b.sh), .v (.int .i64 b.wl), .v (.int .i64 b.wh)]
def eK (t : Int × Int) : List C := [.v (.int .i64 t.1), .v (.int .i64 t.2)]
attribute [go_sem] eLd eK
structure Lod.ok (b : Lod) : Prop where
 strong : 0 ≤ b.sl ∧ b.sl ≤ b.sh ∧ b.sh ≤ 20000000
 weight : 0 ≤ b.wl ∧ b.wl ≤ b.wh ∧ b.wh ≤ 100000
structure TabF (l : List (Int × Int)) : Prop where
 len : 1 ≤ l.length ∧ l.length ≤ 10
 first : ∀ u, l[0]? = some u → u.1 = 0
 mem : ∀ s ∈ l, (0 ≤ s.1 ∧ s.1 ≤ 10000) ∧ (0 ≤ s.2 ∧ s.2 ≤ 1000)
 step : ∀ (i : Nat) (u v : Int × Int), l[i]? = some u → l[i + 1]? = some v → u.1 < v.1 ∧ v.2 ≤ u.2
end Go.Dw.Seat.Cr
end
section
set_option linter.unusedSimpArgs false
set_option maxRecDepth 100000
namespace Go.Dw.Seat.Cr
open Go Go.Dw Go.Proofs Go.IntWalk
def AscT : List (Int × Int) → Prop
 | [] => True
 | u :: t => (∀ v ∈ t, u.1 < v.1 ∧ v.2 ≤ u.2) ∧ AscT t
theorem ascT_of : ∀ {l : List (Int × Int)}, (∀ (i : Nat) (u v : Int × Int), l[i]? = some u → l[i + 1]? = some v → u.1 < v.1 ∧ v.2 ≤ u.2) → AscT l
 | [], _ => trivial
 | u :: t, h => by
  have ih := ascT_of (l := t) (fun i a b ha hb => h (i + 1) a b ha hb)
  refine ⟨?_, ih⟩
  rcases t with _ | ⟨w, t⟩
  ·intro v hv; cases hv
  ·have h0 := h 0 u w rfl rfl
   intro v hv
   rcases List.mem_cons.1 hv with rfl | hv
   ·exact h0
   ·have := ih.1 v hv
    omega
theorem TabF.asc {l : List (Int × Int)} (h : TabF l) : AscT l := ascT_of h.step
end Go.Dw.Seat.Cr
end
section
set_option linter.unusedSimpArgs false
set_option maxRecDepth 100000
namespace Go.Dw.Seat.Cr
open Go Go.Dw Go.Proofs Go.IntWalk
def enBack (e : Lod × Nat) : List D := [dI e.2, .agg ((eLd e.1).map D.c)]
def w64 (n : Int) : Int := IntKind.i64.wrap n
def enF (e : Nat × Int × Int) : List D := [dI e.1, .agg [dI e.2.1, dI e.2.2]]
attribute [go_sem] enBack enF
end Go.Dw.Seat.Cr
end
section
set_option linter.unusedSimpArgs false
set_option maxRecDepth 100000
namespace Go.Dw.Seat.Cr
open Go Go.Dw Go.Proofs Go.IntWalk
abbrev dU (n : Nat) : D := .c (.v (.int .u64 n))
attribute [go_sem] dU
def bitsL (s : Nat) : List Nat := (List.range 10).filter (fun i => s.testBit i)
def tz (s : Nat) : Nat := (bitsL s).headD 64
theorem bits_step0 : ∀ s : Fin 1024, s.1 ≠ 0 → bitsL s.1 = tz s.1 :: bitsL (s.1 &&& (s.1 - 1)) ∧ tz s.1 < 10 := by decide +kernel
theorem bits_step {s : Nat} (hs : s < 1024) (h0 : s ≠ 0) : bitsL s = tz s :: bitsL (s &&& (s - 1)) ∧ tz s < 10 := bits_step0 ⟨s, hs⟩ h0
theorem bits_zero : bitsL 0 = [] := by decide
def tabI : List Int := [0, 1, 56, 2, 57, 49, 28, 3, 61, 58, 42, 50, 38, 29, 17, 4, 62, 47, 59, 36, 45, 43, 51, 22, 53, 39, 33, 30, 24, 18, 12, 5, 63, 55, 48, 27, 60, 41, 37, 16, 46, 35, 44, 21, 52, 32, 23, 11, 54, 26, 40, 15, 34, 20, 31, 10, 25, 14, 19, 9, 13, 8, 7, 6]
theorem tab_get (j : Nat) : tab64[j]? = (tabI[j]?).map (fun n => Value.int .u8 n) := by
 have : tab64 = tabI.map (fun n => Value.int .u8 n) := rfl
 rw [this, List.getElem?_map]
def tzX (s : Nat) : Int := shrI IntKind.u64 (IntKind.u64.wrap (andI IntKind.u64 (s : Int) (IntKind.u64.wrap (0 - (s : Int))) * 285870213051353865)) 58
theorem tzX_ok0 : ∀ s : Fin 1024, s.1 ≠ 0 → 0 ≤ tzX s.1 ∧ tzX s.1 < 64 ∧ tabI[(tzX s.1).toNat]? = some (tz s.1 : Int) := by decide +kernel
theorem tzX_ok {s : Nat} (hs : s < 1024) (h0 : s ≠ 0) : 0 ≤ tzX s ∧ tzX s < 64 ∧ tabI[(tzX s).toNat]? = some (tz s : Int) := tzX_ok0 ⟨s, hs⟩ h0
theorem ud5 : Tryd.prog.underlying 5 = some (.int .u8) := by kernel_rfl
theorem crTz64 (s : Nat) (hs : s < 1024) (h0 : s ≠ 0) : DCall Tryd.prog 110 [dU s] [] (dI (tz s)) [] := by
 have hd : ((s : Int) == 0) = false := by rw [beq_eq_false_iff_ne]; omega
 obtain ⟨h1, h2, h3⟩ := tzX_ok hs h0
 have ht := (bits_step hs h0).2
 have hx : shrI IntKind.u64 (IntKind.u64.wrap (andI IntKind.u64 (s : Int) (IntKind.u64.wrap (0 - (s : Int))) * 285870213051353865)) 58 = tzX s := rfl
 obtain ⟨j, hj⟩ : ∃ j : Nat, tzX s = j := ⟨(tzX s).toNat, by omega⟩
 rw [hj] at h1 h2 h3 hx
 rw [Int.toNat_natCast] at h3
 have h4 : tab64[j]? = some (.int .u8 (tz s : Int)) := by rw [tab_get, h3]; rfl
 have h5 : j < 64 := by omega
 refine DCall.of Tryd.func110 sf110 hb110 (Nat.le_of_ble_eq_true rfl) (okRes_nil fun _ => rfl) ?_; simp only [s110, idxs, Nat.reduceAdd]
 have h6 : ((j : Int) < 64) = True := eq_true h2
 repeat' (first|(with_reducible first|apply qA|apply qB|apply qC|apply qD|apply qE|apply qF)|(simp (disch:=omega) only [go_sem, simprocAttr, Blk.men, Blk.keysIn, hd, hx, h6, Nat.mul_one, List.getElem?_map, h4, ud5])|exact qM rfl rfl rfl|(refine qG rfl ?_)|(refine qH rfl ?_)|(refine qI rfl ?_ ?_<;>intro hc<;>(try simp only [go_sem] at hc))|(refine qJ ?_ ?_<;>intro hc<;>(try simp only [hc])<;>(try simp only [go_sem] at hc)))
theorem crTz (s : Nat) (hs : s < 1024) (h0 : s ≠ 0) : DCall Tryd.prog 74 [dU s] [] (dI (tz s)) [] := by
 refine DCall.of Tryd.func74 sf74 hb74 (Nat.le_of_ble_eq_true rfl) (okRes_nil fun _ => rfl) ?_; simp only [s74, idxs, Nat.reduceAdd]
 repeat' (first|(with_reducible first|apply qA|apply qB|apply qC|apply qD|apply qE|apply qF)|(simp (disch:=omega) only [go_sem, simprocAttr, Blk.men, Blk.keysIn])|exact qM rfl rfl rfl|(refine qG rfl ?_)|(refine qK (crTz64 s hs h0) (by decide) ?_)|(refine qH rfl ?_)|(refine qI rfl ?_ ?_<;>intro hc<;>(try simp only [go_sem] at hc))|(refine qJ ?_ ?_<;>intro hc<;>(try simp only [hc])<;>(try simp only [go_sem] at hc)))
def enB (e : Nat) : List D := [dI e]
attribute [go_sem] enB
theorem and_lt {s : Nat} (hs : s < 1024) (m : Nat) : s &&& m < 1024 := Nat.lt_of_le_of_lt Nat.and_le_left hs
theorem and_pred_lt0 : ∀ s : Fin 1024, s.1 ≠ 0 → s.1 &&& (s.1 - 1) < s.1 := by decide +kernel
theorem and_pred0 : ∀ s : Fin 1024, s.1 ≠ 0 → andI IntKind.u64 (s.1 : Int) ((s.1 - 1 : Nat) : Int) = ((s.1 &&& (s.1 - 1) : Nat) : Int) := by decide +kernel
end Go.Dw.Seat.Cr
end
section
set_option linter.unusedSimpArgs false
set_option maxRecDepth 100000
namespace Go.Dw.Seat.Cr
open Go Go.Dw Go.Proofs Go.IntWalk
theorem bits_len (s : Nat) : (bitsL s).length ≤ 10 := by
 have := List.length_filter_le (fun i => s.testBit i) (List.range 10)
 rwa [List.length_range] at this
abbrev ptrD (l : Nat) : D := .c (.v (.pointer (some ⟨l, 0, none⟩)))
abbrev mapD (l : Nat) : D := .c (.v (.map (some l)))
attribute [go_sem] ptrD mapD
end Go.Dw.Seat.Cr
end
section
set_option linter.unusedSimpArgs false
set_option maxRecDepth 100000
namespace Go.Dw.Seat.Cr
open Go Go.Dw Go.Proofs Go.IntWalk
abbrev pilC (l : List Lod) (k : Int) (lm : Nat) : C := .ro false [.sl false 4 (rows eLd l), .v (.int .i64 k), .v (.map (some lm))] 0
abbrev pilD (l : List Lod) (k : Int) (lm : Nat) : D := .c (.ro false [.sl false 4 (rows eLd l), .v (.int .i64 k), .v (.map (some lm))] 0)
abbrev memB (lm : Nat) (m : Memo) : Nat × Blk := (28, .pmap lm (mK .u64 m) (mD m))
attribute [go_sem] pilD memB pilC
end Go.Dw.Seat.Cr
end
section
set_option linter.unusedSimpArgs false
set_option maxRecDepth 100000
namespace Go.Dw.Seat.Cr
open Go Go.Dw Go.Proofs Go.IntWalk
def apS (a : List Int) (e : Nat) : Option Exit × List Int := (none, a ++ [(e : Int)])
theorem ap_run : ∀ (L : List Nat) (a : List Int), runIt apS a L = (none, a ++ nL L)
 | [], a => by simp [runIt, nL]
 | e :: L, a => by
  simp only [runIt, apS, ap_run L]
  simp [nL]
end Go.Dw.Seat.Cr
end
section
set_option linter.unusedSimpArgs false
namespace Go.Dw.Seat
open Go Go.Dw Go.Proofs Go.IntWalk
structure Cause where
 noz : Int
 kind : Int
 frm : Int
instance : DecidableEq Cause := fun a b => decidable_of_iff (a.noz = b.noz ∧ a.kind = b.kind ∧ a.frm = b.frm) (by cases a; cases b; simp)
def eC (c : Cause) : List C := [.v (.int .i64 c.noz), .v (.int .i64 c.kind), .v (.int .i64 c.frm)]
structure Look where
 box : Int
 noz : Int
 step : Int
 glue : Bool
instance : DecidableEq Look := fun a b => decidable_of_iff (a.box = b.box ∧ a.noz = b.noz ∧ a.step = b.step ∧ a.glue = b.glue) (by cases a; cases b; simp)
def eL (c : Look) : List C := [.v (.int .i64 c.box), .v (.int .i64 c.noz), .v (.int .i64 c.step), .v (.bool c.glue)]
structure Room where
 wl : Int
 wh : Int
 dl : Int
 dh : Int
instance : DecidableEq Room := fun a b => decidable_of_iff (a.wl = b.wl ∧ a.wh = b.wh ∧ a.dl = b.dl ∧ a.dh = b.dh) (by cases a; cases b; simp)
def eR (c : Room) : List C := [.v (.int .i64 c.wl), .v (.int .i64 c.wh), .v (.int .i64 c.dl), .v (.int .i64 c.dh)]
def eSb (b : Bool) (s : List Cause) : List C := [.sl b 3 (rows eC s)]
abbrev eS := eSb false
def eG (s : List Int) : List C := [.sl false 1 (rows eI s)]
structure Plan where
 steps : Int
 noz : List Int
abbrev dP (b : Bool) (p : Plan) : D := .agg [.c (.v (.int .i64 p.steps)), .c (.sl b 1 (rows eI p.noz))]
abbrev dCs (b : Bool) (l : List Cause) : D := .c (.sl b 3 (rows eC l))
abbrev dLs (b : Bool) (l : List Look) : D := .c (.sl b 4 (rows eL l))
abbrev dSs (b : Bool) (l : List (List Cause)) : D := .c (.sl b 1 (rows eS l))
theorem rowC_snocC (l : List Cause) (a b c : Int) : rowC (rows eC l) ++ [[D.c (.v (.int .i64 a)), D.c (.v (.int .i64 b)), D.c (.v (.int .i64 c))]] = rowC (rows eC (l ++ [⟨a, b, c⟩])) := by simp [rowC, rows, eC]
theorem rowC_snocL (l : List Look) (a b c : Int) (d : Bool) : rowC (rows eL l) ++ [[D.c (.v (.int .i64 a)), D.c (.v (.int .i64 b)), D.c (.v (.int .i64 c)), D.c (.v (.bool d))]] = rowC (rows eL (l ++ [⟨a, b, c, d⟩])) := by simp [rowC, rows, eL]
theorem rowC_snocS (l : List (List Cause)) (s : List Cause) : rowC (rows (eSb false) l) ++ [[D.c (.sl false 3 (rows eC s))]] = rowC (rows (eSb false) (l ++ [s])) := by simp [rowC, rows, eSb]
attribute [go_sem] rowC_snocC rowC_snocL rowC_snocS
attribute [go_sem] eC eL eR eS eSb eG dP dCs dLs dSs
end Go.Dw.Seat
end
section
set_option linter.unusedSimpArgs false
namespace Go.Dw.Seat
open Go Go.Dw Go.Proofs Go.IntWalk
theorem c113 (n : Int) : DCall Tryd.prog 80 [dI n] [] (bD false) [] := by
 refine DCall.of Tryd.func80 sf80 hb80 (Nat.le_of_ble_eq_true rfl) (okRes_nil fun _ => rfl) ?_; simp only [s80, idxs, Nat.reduceAdd]
 repeat' (first|(with_reducible first|apply qA|apply qB|apply qC|apply qD|apply qE|apply qF)|(simp (disch:=omega) only [go_sem, simprocAttr, Blk.men, Blk.keysIn])|exact qM rfl rfl rfl|(refine qG rfl ?_)|(refine qH rfl ?_)|(refine qI rfl ?_ ?_<;>intro hc<;>(try simp only [go_sem] at hc))|(refine qJ ?_ ?_<;>intro hc<;>(try simp only [hc])<;>(try simp only [go_sem] at hc)))
theorem c122 (b : Bool) (l : List (Int)) (hl : l.length ≤ 2 ^ 36) (g : FuncId) (fs caps : List C) (p : Int → Bool) (hp : ∀ x ∈ l, DCall Tryd.prog g (fs.map D.c ++ [dI x] ++ caps.map D.c) [] (bD (p x)) []) : DCall Tryd.prog 111 [.c (.sl b 1 (rows eI l)), .c (.fn (.func g) fs caps)] [] (dI (idxI p l)) [] := by
 refine DCall.of Tryd.func111 sf111 hb111 (Nat.le_of_ble_eq_true rfl) (okRes_nil fun _ => rfl) ?_; simp only [s111, idxs, Nat.reduceAdd]
 repeat' (first|(with_reducible first|apply qA|apply qB|apply qC|apply qD|apply qE|apply qF)|(simp (disch:=omega) only [go_sem, simprocAttr, Blk.men, Blk.keysIn])|exact qM rfl rfl rfl|(refine qG rfl ?_)|(refine qH rfl ?_)|(refine qI rfl ?_ ?_<;>intro hc<;>(try simp only [go_sem] at hc))|(refine qJ ?_ ?_<;>intro hc<;>(try simp only [hc])<;>(try simp only [go_sem] at hc)))
 refine DW.loop (ι := { i : Nat // i ≤ l.length ∧ ∀ j u, j < i → l[j]? = some u → p u = false }) (fun i => ⟨19, [(8, dI i.1), (7, dI l.length), (1, .c (.fn (.func g) fs caps)), (0, .c (.sl b 1 (rows eI l)))], []⟩) (fun i => l.length - i.1) ⟨0, Nat.zero_le _, fun j u h => by omega⟩ ?_ ?_
 ·refine Ent.to ?_ ?_ <;> simp (disch:=omega) only [qR,qS,qTw,qU,get,Nat.reduceEqDiff,↓reduceIte,qV,qW,qX,qY,qZ,and_self,dI,i64_in,and_true,true_and,rA,rB,rC,rD]
 rintro ⟨i, hi, hij⟩
 rcases at_or l i hi with ⟨v, hv, hlt, hd⟩ | ⟨he, hd⟩
 ·have hcall := hp v (List.mem_of_getElem? hv)
  repeat' (first|(with_reducible first|apply qA|apply qB|apply qC|apply qD|apply qE|apply qF)|(simp (disch:=omega) only [go_sem, simprocAttr, Blk.men, Blk.keysIn, hd, hv, closeDs_fn, rF, rG])|exact qM rfl rfl rfl|(refine qG rfl ?_)|(refine qH rfl ?_)|(refine qI rfl ?_ ?_<;>intro hc<;>(try simp only [go_sem] at hc))|(refine qJ ?_ ?_<;>intro hc<;>(try simp only [hc])<;>(try simp only [go_sem] at hc)))
  refine call_c hcall (by decide) ?_
  simp (disch:=omega) only [go_sem,simprocAttr,Blk.men,Blk.keysIn]
  refine DW.cond rfl ?_ ?_ <;> intro hc
  ·repeat' (first|(with_reducible first|apply qA|apply qB|apply qC|apply qD|apply qE|apply qF)|(simp (disch:=omega) only [go_sem, simprocAttr, Blk.men, Blk.keysIn])|exact qM rfl rfl rfl|(refine qG rfl ?_)|(refine qH rfl ?_)|(refine qI rfl ?_ ?_<;>intro hc<;>(try simp only [go_sem] at hc))|(refine qJ ?_ ?_<;>intro hc<;>(try simp only [hc])<;>(try simp only [go_sem] at hc)))
   refine retS_of rfl ?_ rfl; simp only [oneD, St.op, get, Nat.reduceEqDiff, ↓reduceIte, Option.getD_some, bD, dI]
   simp only [idxI, idxOf_some hij hv hc]
  ·repeat' (first|(with_reducible first|apply qA|apply qB|apply qC|apply qD|apply qE|apply qF)|(simp (disch:=omega) only [go_sem, simprocAttr, Blk.men, Blk.keysIn])|exact qM rfl rfl rfl|(refine qG rfl ?_)|(refine qH rfl ?_)|(refine qI rfl ?_ ?_<;>intro hc<;>(try simp only [go_sem] at hc))|(refine qJ ?_ ?_<;>intro hc<;>(try simp only [hc])<;>(try simp only [go_sem] at hc)))
   refine ⟨⟨i + 1, by omega, fun j u hj hu => by
    rcases Nat.lt_or_ge j i with h | h
    ·exact hij j u h hu
    ·have : j = i := by omega
     subst this
     rw [hv] at hu; cases hu; exact hc⟩, ?_, Ent.to ?_ ?_⟩ <;> first | (show _ < _; (try simp only); omega) | (simp (disch:=omega) only [qR,qS,qTw,qU,get,Nat.reduceEqDiff,↓reduceIte,qV,qW,qX,qY,qZ,and_self,dI,i64_in,and_true,true_and,rA,rB,rC,rD])
 ·repeat' (first|(with_reducible first|apply qA|apply qB|apply qC|apply qD|apply qE|apply qF)|(simp (disch:=omega) only [go_sem, simprocAttr, Blk.men, Blk.keysIn, hd])|exact qM rfl rfl rfl|(refine qG rfl ?_)|(refine qH rfl ?_)|(refine qI rfl ?_ ?_<;>intro hc<;>(try simp only [go_sem] at hc))|(refine qJ ?_ ?_<;>intro hc<;>(try simp only [hc])<;>(try simp only [go_sem] at hc)))
  refine retS_of rfl ?_ rfl; simp only [oneD, St.op, get, Nat.reduceEqDiff, ↓reduceIte, Option.getD_some, bD, dI]
  simp only [idxI, idxOf_none (he ▸ hij)]
theorem c110 (b : Bool) (l : List (Int)) (hl : l.length ≤ 2 ^ 36) (g : FuncId) (fs caps : List C) (p : Int → Bool) (hp : ∀ x ∈ l, DCall Tryd.prog g (fs.map D.c ++ [dI x] ++ caps.map D.c) [] (bD (p x)) []) : DCall Tryd.prog 78 [.c (.sl b 1 (rows eI l)), .c (.fn (.func g) fs caps)] [] (bD (l.any p)) [] := by
 refine DCall.of Tryd.func78 sf78 hb78 (Nat.le_of_ble_eq_true rfl) (okRes_nil fun _ => rfl) ?_; simp only [s78, idxs, Nat.reduceAdd]
 repeat' (first|(with_reducible first|apply qA|apply qB|apply qC|apply qD|apply qE|apply qF)|(simp (disch:=omega) only [go_sem, simprocAttr, Blk.men, Blk.keysIn])|exact qM rfl rfl rfl|(refine qG rfl ?_)|(refine qH rfl ?_)|(refine qI rfl ?_ ?_<;>intro hc<;>(try simp only [go_sem] at hc))|(refine qJ ?_ ?_<;>intro hc<;>(try simp only [hc])<;>(try simp only [go_sem] at hc)))
 refine call_c (c122 b l hl g fs caps p hp) (by decide) ?_
 repeat' (first|(with_reducible first|apply qA|apply qB|apply qC|apply qD|apply qE|apply qF)|(simp (disch:=omega) only [go_sem, simprocAttr, Blk.men, Blk.keysIn])|exact qM rfl rfl rfl|(refine qG rfl ?_)|(refine qH rfl ?_)|(refine qI rfl ?_ ?_<;>intro hc<;>(try simp only [go_sem] at hc))|(refine qJ ?_ ?_<;>intro hc<;>(try simp only [hc])<;>(try simp only [go_sem] at hc)))
 refine retS_of rfl ?_ rfl; simp only [oneD, St.op, get, Nat.reduceEqDiff, ↓reduceIte, Option.getD_some, bD, dI]
 rw [idxI_any]
theorem c100 (b : Bool) (l : List (Cause)) (hl : l.length ≤ 2 ^ 36) (g : FuncId) (fs caps : List C) (p : Cause → Bool) (hp : ∀ x ∈ l, DCall Tryd.prog g (fs.map D.c ++ [.agg ((eC x).map D.c)] ++ caps.map D.c) [] (bD (p x)) []) : DCall Tryd.prog 141 [.c (.sl b 3 (rows eC l)), .c (.fn (.func g) fs caps)] [] (dI (idxI p l)) [] := by
 refine DCall.of Tryd.func141 sf141 hb141 (Nat.le_of_ble_eq_true rfl) (okRes_nil fun _ => rfl) ?_; simp only [s141, idxs, Nat.reduceAdd]
 repeat' (first|(with_reducible first|apply qA|apply qB|apply qC|apply qD|apply qE|apply qF)|(simp (disch:=omega) only [go_sem, simprocAttr, Blk.men, Blk.keysIn])|exact qM rfl rfl rfl|(refine qG rfl ?_)|(refine qH rfl ?_)|(refine qI rfl ?_ ?_<;>intro hc<;>(try simp only [go_sem] at hc))|(refine qJ ?_ ?_<;>intro hc<;>(try simp only [hc])<;>(try simp only [go_sem] at hc)))
 refine DW.loop (ι := { i : Nat // i ≤ l.length ∧ ∀ j u, j < i → l[j]? = some u → p u = false }) (fun i => ⟨19, [(8, dI i.1), (7, dI l.length), (1, .c (.fn (.func g) fs caps)), (0, .c (.sl b 3 (rows eC l)))], []⟩) (fun i => l.length - i.1) ⟨0, Nat.zero_le _, fun j u h => by omega⟩ ?_ ?_
 ·refine Ent.to ?_ ?_ <;> simp (disch:=omega) only [qR,qS,qTw,qU,get,Nat.reduceEqDiff,↓reduceIte,qV,qW,qX,qY,qZ,and_self,dI,i64_in,and_true,true_and,rA,rB,rC,rD]
 rintro ⟨i, hi, hij⟩
 rcases at_or l i hi with ⟨v, hv, hlt, hd⟩ | ⟨he, hd⟩
 ·have hcall := hp v (List.mem_of_getElem? hv)
  repeat' (first|(with_reducible first|apply qA|apply qB|apply qC|apply qD|apply qE|apply qF)|(simp (disch:=omega) only [go_sem, simprocAttr, Blk.men, Blk.keysIn, hd, hv, closeDs_fn, rF, rG])|exact qM rfl rfl rfl|(refine qG rfl ?_)|(refine qH rfl ?_)|(refine qI rfl ?_ ?_<;>intro hc<;>(try simp only [go_sem] at hc))|(refine qJ ?_ ?_<;>intro hc<;>(try simp only [hc])<;>(try simp only [go_sem] at hc)))
  refine call_c hcall (by decide) ?_
  simp (disch:=omega) only [go_sem,simprocAttr,Blk.men,Blk.keysIn]
  refine DW.cond rfl ?_ ?_ <;> intro hc
  ·repeat' (first|(with_reducible first|apply qA|apply qB|apply qC|apply qD|apply qE|apply qF)|(simp (disch:=omega) only [go_sem, simprocAttr, Blk.men, Blk.keysIn])|exact qM rfl rfl rfl|(refine qG rfl ?_)|(refine qH rfl ?_)|(refine qI rfl ?_ ?_<;>intro hc<;>(try simp only [go_sem] at hc))|(refine qJ ?_ ?_<;>intro hc<;>(try simp only [hc])<;>(try simp only [go_sem] at hc)))
   refine retS_of rfl ?_ rfl; simp only [oneD, St.op, get, Nat.reduceEqDiff, ↓reduceIte, Option.getD_some, bD, dI]
   simp only [idxI, idxOf_some hij hv hc]
  ·repeat' (first|(with_reducible first|apply qA|apply qB|apply qC|apply qD|apply qE|apply qF)|(simp (disch:=omega) only [go_sem, simprocAttr, Blk.men, Blk.keysIn])|exact qM rfl rfl rfl|(refine qG rfl ?_)|(refine qH rfl ?_)|(refine qI rfl ?_ ?_<;>intro hc<;>(try simp only [go_sem] at hc))|(refine qJ ?_ ?_<;>intro hc<;>(try simp only [hc])<;>(try simp only [go_sem] at hc)))
   refine ⟨⟨i + 1, by omega, fun j u hj hu => by
    rcases Nat.lt_or_ge j i with h | h
    ·exact hij j u h hu
    ·have : j = i := by omega
     subst this
     rw [hv] at hu; cases hu; exact hc⟩, ?_, Ent.to ?_ ?_⟩ <;> first | (show _ < _; (try simp only); omega) | (simp (disch:=omega) only [qR,qS,qTw,qU,get,Nat.reduceEqDiff,↓reduceIte,qV,qW,qX,qY,qZ,and_self,dI,i64_in,and_true,true_and,rA,rB,rC,rD])
 ·repeat' (first|(with_reducible first|apply qA|apply qB|apply qC|apply qD|apply qE|apply qF)|(simp (disch:=omega) only [go_sem, simprocAttr, Blk.men, Blk.keysIn, hd])|exact qM rfl rfl rfl|(refine qG rfl ?_)|(refine qH rfl ?_)|(refine qI rfl ?_ ?_<;>intro hc<;>(try simp only [go_sem] at hc))|(refine qJ ?_ ?_<;>intro hc<;>(try simp only [hc])<;>(try simp only [go_sem] at hc)))
  refine retS_of rfl ?_ rfl; simp only [oneD, St.op, get, Nat.reduceEqDiff, ↓reduceIte, Option.getD_some, bD, dI]
  simp only [idxI, idxOf_none (he ▸ hij)]
theorem c67 (b : Bool) (l : List (Cause)) (hl : l.length ≤ 2 ^ 36) (g : FuncId) (fs caps : List C) (p : Cause → Bool) (hp : ∀ x ∈ l, DCall Tryd.prog g (fs.map D.c ++ [.agg ((eC x).map D.c)] ++ caps.map D.c) [] (bD (p x)) []) : DCall Tryd.prog 131 [.c (.sl b 3 (rows eC l)), .c (.fn (.func g) fs caps)] [] (bD (l.any p)) [] := by
 refine DCall.of Tryd.func131 sf131 hb131 (Nat.le_of_ble_eq_true rfl) (okRes_nil fun _ => rfl) ?_; simp only [s131, idxs, Nat.reduceAdd]
 repeat' (first|(with_reducible first|apply qA|apply qB|apply qC|apply qD|apply qE|apply qF)|(simp (disch:=omega) only [go_sem, simprocAttr, Blk.men, Blk.keysIn])|exact qM rfl rfl rfl|(refine qG rfl ?_)|(refine qH rfl ?_)|(refine qI rfl ?_ ?_<;>intro hc<;>(try simp only [go_sem] at hc))|(refine qJ ?_ ?_<;>intro hc<;>(try simp only [hc])<;>(try simp only [go_sem] at hc)))
 refine call_c (c100 b l hl g fs caps p hp) (by decide) ?_
 repeat' (first|(with_reducible first|apply qA|apply qB|apply qC|apply qD|apply qE|apply qF)|(simp (disch:=omega) only [go_sem, simprocAttr, Blk.men, Blk.keysIn])|exact qM rfl rfl rfl|(refine qG rfl ?_)|(refine qH rfl ?_)|(refine qI rfl ?_ ?_<;>intro hc<;>(try simp only [go_sem] at hc))|(refine qJ ?_ ?_<;>intro hc<;>(try simp only [hc])<;>(try simp only [go_sem] at hc)))
 refine retS_of rfl ?_ rfl; simp only [oneD, St.op, get, Nat.reduceEqDiff, ↓reduceIte, Option.getD_some, bD, dI]
 rw [idxI_any]
theorem c109 (b : Bool) (l : List (Room)) (hl : l.length ≤ 2 ^ 36) (g : FuncId) (fs caps : List C) (p : Room → Bool) (hp : ∀ x ∈ l, DCall Tryd.prog g (fs.map D.c ++ [.agg ((eR x).map D.c)] ++ caps.map D.c) [] (bD (p x)) []) : DCall Tryd.prog 77 [.c (.sl b 4 (rows eR l)), .c (.fn (.func g) fs caps)] [] (dI (idxI p l)) [] := by
 refine DCall.of Tryd.func77 sf77 hb77 (Nat.le_of_ble_eq_true rfl) (okRes_nil fun _ => rfl) ?_; simp only [s77, idxs, Nat.reduceAdd]
 repeat' (first|(with_reducible first|apply qA|apply qB|apply qC|apply qD|apply qE|apply qF)|(simp (disch:=omega) only [go_sem, simprocAttr, Blk.men, Blk.keysIn])|exact qM rfl rfl rfl|(refine qG rfl ?_)|(refine qH rfl ?_)|(refine qI rfl ?_ ?_<;>intro hc<;>(try simp only [go_sem] at hc))|(refine qJ ?_ ?_<;>intro hc<;>(try simp only [hc])<;>(try simp only [go_sem] at hc)))
 refine DW.loop (ι := { i : Nat // i ≤ l.length ∧ ∀ j u, j < i → l[j]? = some u → p u = false }) (fun i => ⟨19, [(8, dI i.1), (7, dI l.length), (1, .c (.fn (.func g) fs caps)), (0, .c (.sl b 4 (rows eR l)))], []⟩) (fun i => l.length - i.1) ⟨0, Nat.zero_le _, fun j u h => by omega⟩ ?_ ?_
 ·refine Ent.to ?_ ?_ <;> simp (disch:=omega) only [qR,qS,qTw,qU,get,Nat.reduceEqDiff,↓reduceIte,qV,qW,qX,qY,qZ,and_self,dI,i64_in,and_true,true_and,rA,rB,rC,rD]
 rintro ⟨i, hi, hij⟩
 rcases at_or l i hi with ⟨v, hv, hlt, hd⟩ | ⟨he, hd⟩
 ·have hcall := hp v (List.mem_of_getElem? hv)
  repeat' (first|(with_reducible first|apply qA|apply qB|apply qC|apply qD|apply qE|apply qF)|(simp (disch:=omega) only [go_sem, simprocAttr, Blk.men, Blk.keysIn, hd, hv, closeDs_fn, rF, rG])|exact qM rfl rfl rfl|(refine qG rfl ?_)|(refine qH rfl ?_)|(refine qI rfl ?_ ?_<;>intro hc<;>(try simp only [go_sem] at hc))|(refine qJ ?_ ?_<;>intro hc<;>(try simp only [hc])<;>(try simp only [go_sem] at hc)))
  refine call_c hcall (by decide) ?_
  simp (disch:=omega) only [go_sem,simprocAttr,Blk.men,Blk.keysIn]
  refine DW.cond rfl ?_ ?_ <;> intro hc
  ·repeat' (first|(with_reducible first|apply qA|apply qB|apply qC|apply qD|apply qE|apply qF)|(simp (disch:=omega) only [go_sem, simprocAttr, Blk.men, Blk.keysIn])|exact qM rfl rfl rfl|(refine qG rfl ?_)|(refine qH rfl ?_)|(refine qI rfl ?_ ?_<;>intro hc<;>(try simp only [go_sem] at hc))|(refine qJ ?_ ?_<;>intro hc<;>(try simp only [hc])<;>(try simp only [go_sem] at hc)))
   refine retS_of rfl ?_ rfl; simp only [oneD, St.op, get, Nat.reduceEqDiff, ↓reduceIte, Option.getD_some, bD, dI]
   simp only [idxI, idxOf_some hij hv hc]
  ·repeat' (first|(with_reducible first|apply qA|apply qB|apply qC|apply qD|apply qE|apply qF)|(simp (disch:=omega) only [go_sem, simprocAttr, Blk.men, Blk.keysIn])|exact qM rfl rfl rfl|(refine qG rfl ?_)|(refine qH rfl ?_)|(refine qI rfl ?_ ?_<;>intro hc<;>(try simp only [go_sem] at hc))|(refine qJ ?_ ?_<;>intro hc<;>(try simp only [hc])<;>(try simp only [go_sem] at hc)))
   refine ⟨⟨i + 1, by omega, fun j u hj hu => by
    rcases Nat.lt_or_ge j i with h | h
    ·exact hij j u h hu
    ·have : j = i := by omega
     subst this
     rw [hv] at hu; cases hu; exact hc⟩, ?_, Ent.to ?_ ?_⟩ <;> first | (show _ < _; (try simp only); omega) | (simp (disch:=omega) only [qR,qS,qTw,qU,get,Nat.reduceEqDiff,↓reduceIte,qV,qW,qX,qY,qZ,and_self,dI,i64_in,and_true,true_and,rA,rB,rC,rD])
 ·repeat' (first|(with_reducible first|apply qA|apply qB|apply qC|apply qD|apply qE|apply qF)|(simp (disch:=omega) only [go_sem, simprocAttr, Blk.men, Blk.keysIn, hd])|exact qM rfl rfl rfl|(refine qG rfl ?_)|(refine qH rfl ?_)|(refine qI rfl ?_ ?_<;>intro hc<;>(try simp only [go_sem] at hc))|(refine qJ ?_ ?_<;>intro hc<;>(try simp only [hc])<;>(try simp only [go_sem] at hc)))
  refine retS_of rfl ?_ rfl; simp only [oneD, St.op, get, Nat.reduceEqDiff, ↓reduceIte, Option.getD_some, bD, dI]
  simp only [idxI, idxOf_none (he ▸ hij)]
theorem c87 (b : Bool) (l : List (Room)) (hl : l.length ≤ 2 ^ 36) (g : FuncId) (fs caps : List C) (p : Room → Bool) (hp : ∀ x ∈ l, DCall Tryd.prog g (fs.map D.c ++ [.agg ((eR x).map D.c)] ++ caps.map D.c) [] (bD (p x)) []) : DCall Tryd.prog 41 [.c (.sl b 4 (rows eR l)), .c (.fn (.func g) fs caps)] [] (bD (l.any p)) [] := by
 refine DCall.of Tryd.func41 sf41 hb41 (Nat.le_of_ble_eq_true rfl) (okRes_nil fun _ => rfl) ?_; simp only [s41, idxs, Nat.reduceAdd]
 repeat' (first|(with_reducible first|apply qA|apply qB|apply qC|apply qD|apply qE|apply qF)|(simp (disch:=omega) only [go_sem, simprocAttr, Blk.men, Blk.keysIn])|exact qM rfl rfl rfl|(refine qG rfl ?_)|(refine qH rfl ?_)|(refine qI rfl ?_ ?_<;>intro hc<;>(try simp only [go_sem] at hc))|(refine qJ ?_ ?_<;>intro hc<;>(try simp only [hc])<;>(try simp only [go_sem] at hc)))
 refine call_c (c109 b l hl g fs caps p hp) (by decide) ?_
 repeat' (first|(with_reducible first|apply qA|apply qB|apply qC|apply qD|apply qE|apply qF)|(simp (disch:=omega) only [go_sem, simprocAttr, Blk.men, Blk.keysIn])|exact qM rfl rfl rfl|(refine qG rfl ?_)|(refine qH rfl ?_)|(refine qI rfl ?_ ?_<;>intro hc<;>(try simp only [go_sem] at hc))|(refine qJ ?_ ?_<;>intro hc<;>(try simp only [hc])<;>(try simp only [go_sem] at hc)))
 refine retS_of rfl ?_ rfl; simp only [oneD, St.op, get, Nat.reduceEqDiff, ↓reduceIte, Option.getD_some, bD, dI]
 rw [idxI_any]
end Go.Dw.Seat
end
section
set_option linter.unusedSimpArgs false
set_option maxRecDepth 100000
namespace Go.Dw.Seat
open Go Go.Dw Go.Proofs Go.IntWalk
theorem c111 (n lo hi : Int) (p q : Bool) : DCall Tryd.prog 79 [dI n, .c (.ro p [.v (.int .i64 lo)] 0), .c (.ro q [.v (.int .i64 hi)] 0)] [] (bD (decide (n < lo) || decide (hi < n))) [] := by
 refine DCall.of Tryd.func79 sf79 hb79 (Nat.le_of_ble_eq_true rfl) (okRes_nil fun _ => rfl) ?_; simp only [s79, idxs, Nat.reduceAdd]
 repeat' (first|(with_reducible first|apply qA|apply qB|apply qC|apply qD|apply qE|apply qF)|(simp (disch:=omega) only [go_sem, simprocAttr, Blk.men, Blk.keysIn])|exact qM rfl rfl rfl|(refine qG rfl ?_)|(refine qH rfl ?_)|(refine qI rfl ?_ ?_<;>intro hc<;>(try simp only [go_sem] at hc))|(refine qJ ?_ ?_<;>intro hc<;>(try simp only [hc])<;>(try simp only [go_sem] at hc)))
def wthn (lo hi : Int) (l : List Int) : Bool := !(l.any fun n => decide (n < lo) || decide (hi < n))
theorem c88 (b : Bool) (lo hi : Int) (l : List Int) (hl : l.length ≤ 2 ^ 36) : DCall Tryd.prog 42 [dI lo, dI hi, dIs b l] [] (bD (wthn lo hi l)) [] := by
 refine DCall.of Tryd.func42 sf42 hb42 (Nat.le_of_ble_eq_true rfl) (okRes_nil fun _ => rfl) ?_; simp only [s42, idxs, Nat.reduceAdd]
 repeat' (first|(with_reducible first|apply qA|apply qB|apply qC|apply qD|apply qE|apply qF)|(simp (disch:=omega) only [go_sem, simprocAttr, Blk.men, Blk.keysIn])|exact qM rfl rfl rfl|(refine qG rfl ?_)|(refine qH rfl ?_)|(refine qI rfl ?_ ?_<;>intro hc<;>(try simp only [go_sem] at hc))|(refine qJ ?_ ?_<;>intro hc<;>(try simp only [hc])<;>(try simp only [go_sem] at hc)))
 (refine call_c (c110 b l hl 79 [] [.ro true [.v (.int .i64 lo)] 0, .ro true [.v (.int .i64 hi)] 0] (fun n => decide (n < lo) || decide (hi < n)) (fun x _ => c111 x lo hi true true)) (by decide) ?_; simp (disch:=omega) only [go_sem,simprocAttr,Blk.men,Blk.keysIn])
 repeat' (first|(with_reducible first|apply qA|apply qB|apply qC|apply qD|apply qE|apply qF)|(simp (disch:=omega) only [go_sem, simprocAttr, Blk.men, Blk.keysIn])|exact qM rfl rfl rfl|(refine qG rfl ?_)|(refine qH rfl ?_)|(refine qI rfl ?_ ?_<;>intro hc<;>(try simp only [go_sem] at hc))|(refine qJ ?_ ?_<;>intro hc<;>(try simp only [hc])<;>(try simp only [go_sem] at hc)))
theorem c93 (b : Bool) (l : List Int) (hl : l.length ≤ 2 ^ 36) : DCall Tryd.prog 82 [dIs b l] [] (bD (wthn 0 1000 l)) [] := by
 refine DCall.of Tryd.func82 sf82 hb82 (Nat.le_of_ble_eq_true rfl) (okRes_nil fun _ => rfl) ?_; simp only [s82, idxs, Nat.reduceAdd]
 repeat' (first|(with_reducible first|apply qA|apply qB|apply qC|apply qD|apply qE|apply qF)|(simp (disch:=omega) only [go_sem, simprocAttr, Blk.men, Blk.keysIn])|exact qM rfl rfl rfl|(refine qG rfl ?_)|(refine qH rfl ?_)|(refine qI rfl ?_ ?_<;>intro hc<;>(try simp only [go_sem] at hc))|(refine qJ ?_ ?_<;>intro hc<;>(try simp only [hc])<;>(try simp only [go_sem] at hc)))
 (refine call_c (c88 b 0 1000 l hl) (by decide) ?_; simp (disch:=omega) only [go_sem,simprocAttr,Blk.men,Blk.keysIn])
 repeat' (first|(with_reducible first|apply qA|apply qB|apply qC|apply qD|apply qE|apply qF)|(simp (disch:=omega) only [go_sem, simprocAttr, Blk.men, Blk.keysIn])|exact qM rfl rfl rfl|(refine qG rfl ?_)|(refine qH rfl ?_)|(refine qI rfl ?_ ?_<;>intro hc<;>(try simp only [go_sem] at hc))|(refine qJ ?_ ?_<;>intro hc<;>(try simp only [hc])<;>(try simp only [go_sem] at hc)))
theorem c115 (b : Bool) (p : Plan) (n : Int) (hp : p.noz.length ≤ 2 ^ 36) : DCall Tryd.prog 140 [dP b p, dI n] [] (bD (wthn 0 ((p.noz.length : Int) - 1) [n])) [] := by
 refine DCall.of Tryd.func140 sf140 hb140 (Nat.le_of_ble_eq_true rfl) (okRes_nil fun _ => rfl) ?_; simp only [s140, idxs, Nat.reduceAdd]
 repeat' (first|(with_reducible first|apply qA|apply qB|apply qC|apply qD|apply qE|apply qF)|(simp (disch:=omega) only [go_sem, simprocAttr, Blk.men, Blk.keysIn])|exact qM rfl rfl rfl|(refine qG rfl ?_)|(refine qH rfl ?_)|(refine qI rfl ?_ ?_<;>intro hc<;>(try simp only [go_sem] at hc))|(refine qJ ?_ ?_<;>intro hc<;>(try simp only [hc])<;>(try simp only [go_sem] at hc)))
 (refine call_c (c88 true 0 ((p.noz.length : Int) - 1) [n] (by simp)) (by decide) ?_; simp (disch:=omega) only [go_sem,simprocAttr,Blk.men,Blk.keysIn])
 repeat' (first|(with_reducible first|apply qA|apply qB|apply qC|apply qD|apply qE|apply qF)|(simp (disch:=omega) only [go_sem, simprocAttr, Blk.men, Blk.keysIn])|exact qM rfl rfl rfl|(refine qG rfl ?_)|(refine qH rfl ?_)|(refine qI rfl ?_ ?_<;>intro hc<;>(try simp only [go_sem] at hc))|(refine qJ ?_ ?_<;>intro hc<;>(try simp only [hc])<;>(try simp only [go_sem] at hc)))
def causeOk (p : Plan) (c : Cause) : Bool := wthn 0 ((p.noz.length : Int) - 1) [c.noz] && wthn 1 4 [c.kind] && wthn 0 1000 [c.frm]
theorem c121 (b : Bool) (p : Plan) (c : Cause) (hp : p.noz.length ≤ 2 ^ 36) : DCall Tryd.prog 130 [dP b p, .agg ((eC c).map D.c)] [] (bD (causeOk p c)) [] := by
 refine DCall.of Tryd.func130 sf130 hb130 (Nat.le_of_ble_eq_true rfl) (okRes_nil fun _ => rfl) ?_; simp only [s130, idxs, Nat.reduceAdd]
 repeat' (first|(with_reducible first|apply qA|apply qB|apply qC|apply qD|apply qE|apply qF)|(simp (disch:=omega) only [go_sem, simprocAttr, Blk.men, Blk.keysIn, rF, rG])|exact qM rfl rfl rfl|(refine qG rfl ?_)|(refine qH rfl ?_)|(refine qI rfl ?_ ?_<;>intro hc<;>(try simp only [go_sem] at hc))|(refine qJ ?_ ?_<;>intro hc<;>(try simp only [hc])<;>(try simp only [go_sem] at hc)))
 (refine call_c (c115 b p c.noz hp) (by decide) ?_; simp (disch:=omega) only [go_sem,simprocAttr,Blk.men,Blk.keysIn])
 refine g_split ?_ ?_ <;> intro h1 <;> simp (disch:=omega) only [go_sem,simprocAttr,Blk.men,Blk.keysIn,h1]
 ·(refine call_c (c88 true 1 4 [c.kind] (by simp)) (by decide) ?_; simp (disch:=omega) only [go_sem,simprocAttr,Blk.men,Blk.keysIn])
  refine g_split ?_ ?_ <;> intro h2 <;> simp (disch:=omega) only [go_sem,simprocAttr,Blk.men,Blk.keysIn,h2]
  ·(refine call_c (c93 true [c.frm] (by simp)) (by decide) ?_; simp (disch:=omega) only [go_sem,simprocAttr,Blk.men,Blk.keysIn])
   repeat' (first|(with_reducible first|apply qA|apply qB|apply qC|apply qD|apply qE|apply qF)|(simp (disch:=omega) only [go_sem, simprocAttr, Blk.men, Blk.keysIn])|exact qM rfl rfl rfl|(refine qG rfl ?_)|(refine qH rfl ?_)|(refine qI rfl ?_ ?_<;>intro hc<;>(try simp only [go_sem] at hc))|(refine qJ ?_ ?_<;>intro hc<;>(try simp only [hc])<;>(try simp only [go_sem] at hc)))
   refine retS_of rfl ?_ rfl; simp only [oneD, St.op, get, Nat.reduceEqDiff, ↓reduceIte, Option.getD_some, bD, dI]
   simp only [causeOk, h1, h2, Bool.true_and]
  ·repeat' (first|(with_reducible first|apply qA|apply qB|apply qC|apply qD|apply qE|apply qF)|(simp (disch:=omega) only [go_sem, simprocAttr, Blk.men, Blk.keysIn])|exact qM rfl rfl rfl|(refine qG rfl ?_)|(refine qH rfl ?_)|(refine qI rfl ?_ ?_<;>intro hc<;>(try simp only [go_sem] at hc))|(refine qJ ?_ ?_<;>intro hc<;>(try simp only [hc])<;>(try simp only [go_sem] at hc)))
   refine retS_of rfl ?_ rfl; simp only [oneD, St.op, get, Nat.reduceEqDiff, ↓reduceIte, Option.getD_some, bD, dI]
   simp only [causeOk, h1, h2, Bool.true_and, Bool.false_and]
 ·repeat' (first|(with_reducible first|apply qA|apply qB|apply qC|apply qD|apply qE|apply qF)|(simp (disch:=omega) only [go_sem, simprocAttr, Blk.men, Blk.keysIn])|exact qM rfl rfl rfl|(refine qG rfl ?_)|(refine qH rfl ?_)|(refine qI rfl ?_ ?_<;>intro hc<;>(try simp only [go_sem] at hc))|(refine qJ ?_ ?_<;>intro hc<;>(try simp only [hc])<;>(try simp only [go_sem] at hc)))
  refine retS_of rfl ?_ rfl; simp only [oneD, St.op, get, Nat.reduceEqDiff, ↓reduceIte, Option.getD_some, bD, dI]
  simp only [causeOk, h1, Bool.true_and, Bool.false_and]
theorem c120 (p q : Bool) (x : Plan) (c : Cause) (hp : x.noz.length ≤ 2 ^ 36) : DCall Tryd.prog 129 [.agg ((eC c).map D.c), .c (.ro p [.v (.int .i64 x.steps), .sl q 1 (rows eI x.noz)] 0)] [] (bD (!causeOk x c)) [] := by
 refine DCall.of Tryd.func129 sf129 hb129 (Nat.le_of_ble_eq_true rfl) (okRes_nil fun _ => rfl) ?_; simp only [s129, idxs, Nat.reduceAdd]
 repeat' (first|(with_reducible first|apply qA|apply qB|apply qC|apply qD|apply qE|apply qF)|(simp (disch:=omega) only [go_sem, simprocAttr, Blk.men, Blk.keysIn, rF, rG])|exact qM rfl rfl rfl|(refine qG rfl ?_)|(refine qH rfl ?_)|(refine qI rfl ?_ ?_<;>intro hc<;>(try simp only [go_sem] at hc))|(refine qJ ?_ ?_<;>intro hc<;>(try simp only [hc])<;>(try simp only [go_sem] at hc)))
 (refine call_c (c121 q x c hp) (by decide) ?_; simp (disch:=omega) only [go_sem,simprocAttr,Blk.men,Blk.keysIn])
 repeat' (first|(with_reducible first|apply qA|apply qB|apply qC|apply qD|apply qE|apply qF)|(simp (disch:=omega) only [go_sem, simprocAttr, Blk.men, Blk.keysIn])|exact qM rfl rfl rfl|(refine qG rfl ?_)|(refine qH rfl ?_)|(refine qI rfl ?_ ?_<;>intro hc<;>(try simp only [go_sem] at hc))|(refine qJ ?_ ?_<;>intro hc<;>(try simp only [hc])<;>(try simp only [go_sem] at hc)))
def checkErr (p : Plan) (s : List Cause) : Int := if 2 < s.length then 8 else if s.any (fun c => !causeOk p c) then 4 else if asc (s.map (·.noz)) then 0 else 6
theorem c105 (b b' : Bool) (p : Plan) (s : List Cause) (hp : p.noz.length ≤ 2 ^ 36) (hs : s.length ≤ 2 ^ 36) : DCall Tryd.prog 113 [dP b p, dCs b' s] [] (dI (checkErr p s)) [] := by
 refine DCall.of Tryd.func113 sf113 hb113 (Nat.le_of_ble_eq_true rfl) (okRes_nil fun _ => rfl) ?_; simp only [s113, idxs, Nat.reduceAdd]
 repeat' (first|(with_reducible first|apply qA|apply qB|apply qC|apply qD|apply qE|apply qF)|(refine qL rfl (WF.of ?_) ?_; first|rfl|skip)|(simp (disch:=omega) only [go_sem, simprocAttr, Blk.men, Blk.keysIn])|exact qM rfl rfl rfl|(refine qG rfl ?_)|(refine qH rfl ?_)|(refine qI rfl ?_ ?_<;>intro hc<;>(try simp only [go_sem] at hc))|(refine qJ ?_ ?_<;>intro hc<;>(try simp only [hc])<;>(try simp only [go_sem] at hc)))
 ·refine retS_of rfl ?_ rfl; simp only [oneD, St.op, get, Nat.reduceEqDiff, ↓reduceIte, Option.getD_some, bD, dI]
  rw [checkErr, if_pos (by omega)]
 (refine call_c (c67 b' s hs 129 [] [.ro true [.v (.int .i64 p.steps), .sl b 1 (rows eI p.noz)] 0] (fun c => !causeOk p c) (fun x _ => c120 true b p x hp)) (by decide) ?_; simp (disch:=omega) only [go_sem,simprocAttr,Blk.men,Blk.keysIn])
 refine DW.cond rfl ?_ ?_ <;> intro h1
 ·repeat' (first|(with_reducible first|apply qA|apply qB|apply qC|apply qD|apply qE|apply qF)|(refine qL rfl (WF.of ?_) ?_; first|rfl|skip)|(simp (disch:=omega) only [go_sem, simprocAttr, Blk.men, Blk.keysIn])|exact qM rfl rfl rfl|(refine qG rfl ?_)|(refine qH rfl ?_)|(refine qI rfl ?_ ?_<;>intro hc<;>(try simp only [go_sem] at hc))|(refine qJ ?_ ?_<;>intro hc<;>(try simp only [hc])<;>(try simp only [go_sem] at hc)))
  refine retS_of rfl ?_ rfl; simp only [oneD, St.op, get, Nat.reduceEqDiff, ↓reduceIte, Option.getD_some, bD, dI]
  rw [checkErr, if_neg (by omega), if_pos h1]
 repeat' (first|(with_reducible first|apply qA|apply qB|apply qC|apply qD|apply qE|apply qF)|(refine qL rfl (WF.of ?_) ?_; first|rfl|skip)|(simp (disch:=omega) only [go_sem, simprocAttr, Blk.men, Blk.keysIn])|exact qM rfl rfl rfl|(refine qG rfl ?_)|(refine qH rfl ?_)|(refine qI rfl ?_ ?_<;>intro hc<;>(try simp only [go_sem] at hc))|(refine qJ ?_ ?_<;>intro hc<;>(try simp only [hc])<;>(try simp only [go_sem] at hc)))
 refine DW.loop (ι := { j : Nat // ∀ k, k < j → ∀ a c, s[k]? = some a → s[k + 1]? = some c → a.noz < c.noz }) (fun i => ⟨34, [(6, dI ((i.1 : Int) + 1)), (1, dCs b' s)], []⟩) (fun i => s.length - i.1) ⟨0, fun k h => by omega⟩ ?_ ?_
 ·refine Ent.to ?_ ?_ <;> simp (disch:=omega) only [qR,qS,qTw,qU,get,Nat.reduceEqDiff,↓reduceIte,qV,qW,qX,qY,qZ,and_self,dI,i64_in,and_true,true_and,rA,rB,rC,rD]
  exact .refl _
 rintro ⟨j, hj⟩
 rcases Nat.lt_or_ge (j + 1) s.length with h | h
 ·obtain ⟨u, hu⟩ := getE h
  obtain ⟨v, hv⟩ := getE (Nat.lt_of_succ_lt h)
  repeat' (first|(with_reducible first|apply qA|apply qB|apply qC|apply qD|apply qE|apply qF)|(refine qL rfl (WF.of ?_) ?_; first|rfl|skip)|(simp (disch:=omega) only [go_sem, simprocAttr, Blk.men, Blk.keysIn, dlt1 h, hu, hv])|exact qM rfl rfl rfl|(refine qG rfl ?_)|(refine qH rfl ?_)|(refine qI rfl ?_ ?_<;>intro hc<;>(try simp only [go_sem] at hc))|(refine qJ ?_ ?_<;>intro hc<;>(try simp only [hc])<;>(try simp only [go_sem] at hc)))
  ·refine retS_of rfl ?_ rfl; simp only [oneD, St.op, get, Nat.reduceEqDiff, ↓reduceIte, Option.getD_some, bD, dI]
   have h2 : asc (s.map (·.noz)) = false := asc_false (j := j) (a := v.noz) (b := u.noz) (by simp [hv]) (by simp [hu]) (by omega)
   rw [checkErr, if_neg (by omega), if_neg (by simp [h1]), h2]
   rfl
  ·refine ⟨⟨j + 1, upto1 (p := fun k => ∀ a c, s[k]? = some a → s[k + 1]? = some c → a.noz < c.noz) hj (fun a c ha hc => by
    rw [hv] at ha; rw [hu] at hc; cases ha; cases hc; omega)⟩, ?_, Ent.to ?_ ?_⟩ <;> first | (show _ < _; (try simp only); omega) | (simp (disch:=omega) only [qR,qS,qTw,qU,get,Nat.reduceEqDiff,↓reduceIte,qV,qW,qX,qY,qZ,and_self,dI,i64_in,and_true,true_and,rA,rB,rC,rD])
 ·repeat' (first|(with_reducible first|apply qA|apply qB|apply qC|apply qD|apply qE|apply qF)|(refine qL rfl (WF.of ?_) ?_; first|rfl|skip)|(simp (disch:=omega) only [go_sem, simprocAttr, Blk.men, Blk.keysIn, dge1 h])|exact qM rfl rfl rfl|(refine qG rfl ?_)|(refine qH rfl ?_)|(refine qI rfl ?_ ?_<;>intro hc<;>(try simp only [go_sem] at hc))|(refine qJ ?_ ?_<;>intro hc<;>(try simp only [hc])<;>(try simp only [go_sem] at hc)))
  refine retS_of rfl ?_ rfl; simp only [oneD, St.op, get, Nat.reduceEqDiff, ↓reduceIte, Option.getD_some, bD, dI]
  have h2 : asc (s.map (·.noz)) = true := asc_true fun k x y hx hy => by
   simp only [List.getElem?_map, Option.map_eq_some_iff] at hx hy
   obtain ⟨a, ha, rfl⟩ := hx
   obtain ⟨c, hc, rfl⟩ := hy
   rcases Nat.lt_or_ge k j with hk | hk
   ·exact hj k hk a c ha hc
   ·rw [List.getElem?_eq_none (by omega)] at hc; cases hc
  rw [checkErr, if_neg (by omega), if_neg (by simp [h1]), h2]
  rfl
def openErr (x : Plan) : Int := if wthn 1 16 [x.steps] = false then 3 else if 6 < x.noz.length then 5 else if x.noz.length = 0 then 7 else if wthn 0 (2 ^ x.steps.toNat - 1) x.noz = false then 2 else 0
def opened (x : Plan) : Plan := if openErr x = 0 then x else ⟨0, []⟩
theorem wthn_one {lo hi n : Int} (h : wthn lo hi [n] = true) : lo ≤ n ∧ n ≤ hi := by
 simp [wthn] at h; omega
theorem pow16 {st : Nat} (h : st ≤ 16) : (2 : Int) ^ st ≤ 65536 ∧ 1 ≤ (2 : Int) ^ st := by
 have : ∀ k : Fin 17, (2 : Int) ^ k.1 ≤ 65536 ∧ 1 ≤ (2 : Int) ^ k.1 := by decide
 exact this ⟨st, by omega⟩
theorem c78 (x : Plan) (hx : x.noz.length ≤ 2 ^ 36) : DCall Tryd.prog 112 [dP false x] [] (.tup [dP false (opened x), dI (openErr x)]) [] := by
 refine DCall.of Tryd.func112 sf112 hb112 (Nat.le_of_ble_eq_true rfl) (okRes_nil fun _ => rfl) ?_; simp only [s112, idxs, Nat.reduceAdd]
 repeat' (first|(with_reducible first|apply qA|apply qB|apply qC|apply qD|apply qE|apply qF)|(refine qL rfl (WF.of ?_) ?_; first|rfl|skip)|(simp (disch:=omega) only [go_sem, simprocAttr, Blk.men, Blk.keysIn])|exact qM rfl rfl rfl|(refine qG rfl ?_)|(refine qH rfl ?_)|(refine qI rfl ?_ ?_<;>intro hc<;>(try simp only [go_sem] at hc))|(refine qJ ?_ ?_<;>intro hc<;>(try simp only [hc])<;>(try simp only [go_sem] at hc)))
 (refine call_c (c88 true 1 16 [x.steps] (by simp)) (by decide) ?_; simp (disch:=omega) only [go_sem,simprocAttr,Blk.men,Blk.keysIn])
 refine DW.cond rfl ?_ ?_ <;> intro h1
 ·have he : openErr x = 3 := if_pos (by simpa using h1)
  have ho : opened x = ⟨0, []⟩ := by rw [opened, he]; rfl
  rw [he, ho]
  repeat' (first|(with_reducible first|apply qA|apply qB|apply qC|apply qD|apply qE|apply qF)|(refine qL rfl (WF.of ?_) ?_; first|rfl|skip)|(simp (disch:=omega) only [go_sem, simprocAttr, Blk.men, Blk.keysIn])|exact qM rfl rfl rfl|(refine qG rfl ?_)|(refine qH rfl ?_)|(refine qI rfl ?_ ?_<;>intro hc<;>(try simp only [go_sem] at hc))|(refine qJ ?_ ?_<;>intro hc<;>(try simp only [hc])<;>(try simp only [go_sem] at hc)))
  refine retS_wk rfl ?_ (by simp only [Blk.nb, rowC_nb, D.nb, D.nbs, C.nb, C.nbs, C.nbss, rows_nb eI_nb, Bool.and_true, Bool.not_false, Bool.and_self, bD, dI, iD]); exact .tup (.cons (.agg (.cons (.refl _) (.cons (.nil false 1) .nil))) (.cons (.refl _) .nil))
 have h1' : wthn 1 16 [x.steps] = true := by simpa using h1
 obtain ⟨h2, h3⟩ := wthn_one h1'
 obtain ⟨st, hst⟩ : ∃ st : Nat, x.steps = st := ⟨x.steps.toNat, by omega⟩
 have hst16 : st ≤ 16 := by omega
 have hshl : shlI .i64 1 st = 2 ^ st := by rw [one_shl st (by omega)]; simp
 have hpow : (2 : Int) ^ st ≤ 65536 ∧ 1 ≤ (2 : Int) ^ st := pow16 hst16
 obtain ⟨hp1, hp2⟩ := hpow
 have hun : openErr x = if 6 < x.noz.length then 5 else if x.noz.length = 0 then 7 else if wthn 0 (2 ^ x.steps.toNat - 1) x.noz = false then 2 else 0 := if_neg (by simp [h1'])
 rw [hst, Int.toNat_natCast] at hun
 repeat' (first|(with_reducible first|apply qA|apply qB|apply qC|apply qD|apply qE|apply qF)|(refine qL rfl (WF.of ?_) ?_; first|rfl|skip)|(simp (disch:=omega) only [go_sem, simprocAttr, Blk.men, Blk.keysIn, hst, hshl])|exact qM rfl rfl rfl|(refine qG rfl ?_)|(refine qH rfl ?_)|(refine qI rfl ?_ ?_<;>intro hc<;>(try simp only [go_sem] at hc))|(refine qJ ?_ ?_<;>intro hc<;>(try simp only [hc])<;>(try simp only [go_sem] at hc)))
 ·have he : openErr x = 5 := by rw [hun, if_pos (by omega)]
  have ho : opened x = ⟨0, []⟩ := by rw [opened, he]; rfl
  rw [he, ho]
  refine retS_wk rfl ?_ (by simp only [Blk.nb, rowC_nb, D.nb, D.nbs, C.nb, C.nbs, C.nbss, rows_nb eI_nb, Bool.and_true, Bool.not_false, Bool.and_self, bD, dI, iD]); exact .tup (.cons (.agg (.cons (.refl _) (.cons (.nil false 1) .nil))) (.cons (.refl _) .nil))
 ·have he : openErr x = 7 := by rw [hun, if_neg (by omega), if_pos (by omega)]
  have ho : opened x = ⟨0, []⟩ := by rw [opened, he]; rfl
  rw [he, ho]
  refine retS_wk rfl ?_ (by simp only [Blk.nb, rowC_nb, D.nb, D.nbs, C.nb, C.nbs, C.nbss, rows_nb eI_nb, Bool.and_true, Bool.not_false, Bool.and_self, bD, dI, iD]); exact .tup (.cons (.agg (.cons (.refl _) (.cons (.nil false 1) .nil))) (.cons (.refl _) .nil))
 (refine call_c (c88 false 0 (2 ^ st - 1) x.noz hx) (by decide) ?_; simp (disch:=omega) only [go_sem,simprocAttr,Blk.men,Blk.keysIn])
 refine DW.cond rfl ?_ ?_ <;> intro h4
 ·have he : openErr x = 2 := by rw [hun, if_neg (by omega), if_neg (by omega), if_pos (by simpa using h4)]
  have ho : opened x = ⟨0, []⟩ := by rw [opened, he]; rfl
  rw [he, ho]
  repeat' (first|(with_reducible first|apply qA|apply qB|apply qC|apply qD|apply qE|apply qF)|(refine qL rfl (WF.of ?_) ?_; first|rfl|skip)|(simp (disch:=omega) only [go_sem, simprocAttr, Blk.men, Blk.keysIn])|exact qM rfl rfl rfl|(refine qG rfl ?_)|(refine qH rfl ?_)|(refine qI rfl ?_ ?_<;>intro hc<;>(try simp only [go_sem] at hc))|(refine qJ ?_ ?_<;>intro hc<;>(try simp only [hc])<;>(try simp only [go_sem] at hc)))
  refine retS_wk rfl ?_ (by simp only [Blk.nb, rowC_nb, D.nb, D.nbs, C.nb, C.nbs, C.nbss, rows_nb eI_nb, Bool.and_true, Bool.not_false, Bool.and_self, bD, dI, iD]); exact .tup (.cons (.agg (.cons (.refl _) (.cons (.nil false 1) .nil))) (.cons (.refl _) .nil))
 ·have he : openErr x = 0 := by rw [hun, if_neg (by omega), if_neg (by omega), if_neg (by simpa using h4)]
  have ho : opened x = x := by rw [opened, he]; rfl
  rw [he, ho]
  repeat' (first|(with_reducible first|apply qA|apply qB|apply qC|apply qD|apply qE|apply qF)|(refine qL rfl (WF.of ?_) ?_; first|rfl|skip)|(simp (disch:=omega) only [go_sem, simprocAttr, Blk.men, Blk.keysIn, hst])|exact qM rfl rfl rfl|(refine qG rfl ?_)|(refine qH rfl ?_)|(refine qI rfl ?_ ?_<;>intro hc<;>(try simp only [go_sem] at hc))|(refine qJ ?_ ?_<;>intro hc<;>(try simp only [hc])<;>(try simp only [go_sem] at hc)))
  refine retS_wk rfl ?_ (by simp only [Blk.nb, rowC_nb, D.nb, D.nbs, C.nb, C.nbs, C.nbss, rows_nb eI_nb, Bool.and_true, Bool.not_false, Bool.and_self, bD, dI, iD]); exact .refl _
end Go.Dw.Seat
end
section
set_option linter.unusedSimpArgs false
set_option maxRecDepth 100000
namespace Go.Dw.Seat
open Go Go.Dw Go.Proofs Go.IntWalk
theorem dmW1 (n lo hi : Int) (p q : Bool) : DCall Tryd.prog 105 [dI n, .c (.ro p [.v (.int .i64 lo)] 0), .c (.ro q [.v (.int .i64 hi)] 0)] [] (bD (decide (n < lo) || decide (hi < n))) [] := by
 refine DCall.of Tryd.func105 sf105 hb105 (Nat.le_of_ble_eq_true rfl) (okRes_nil fun _ => rfl) ?_; simp only [s105, idxs, Nat.reduceAdd]
 repeat' (first|(with_reducible first|apply qA|apply qB|apply qC|apply qD|apply qE|apply qF)|(simp (disch:=omega) only [go_sem, simprocAttr, Blk.men, Blk.keysIn])|exact qM rfl rfl rfl|(refine qG rfl ?_)|(refine qH rfl ?_)|(refine qI rfl ?_ ?_<;>intro hc<;>(try simp only [go_sem] at hc))|(refine qJ ?_ ?_<;>intro hc<;>(try simp only [hc])<;>(try simp only [go_sem] at hc)))
theorem dmWithin (b : Bool) (lo hi : Int) (l : List Int) (hl : l.length ≤ 2 ^ 36) : DCall Tryd.prog 63 [dI lo, dI hi, dIs b l] [] (bD (wthn lo hi l)) [] := by
 refine DCall.of Tryd.func63 sf63 hb63 (Nat.le_of_ble_eq_true rfl) (okRes_nil fun _ => rfl) ?_; simp only [s63, idxs, Nat.reduceAdd]
 repeat' (first|(with_reducible first|apply qA|apply qB|apply qC|apply qD|apply qE|apply qF)|(simp (disch:=omega) only [go_sem, simprocAttr, Blk.men, Blk.keysIn])|exact qM rfl rfl rfl|(refine qG rfl ?_)|(refine qH rfl ?_)|(refine qI rfl ?_ ?_<;>intro hc<;>(try simp only [go_sem] at hc))|(refine qJ ?_ ?_<;>intro hc<;>(try simp only [hc])<;>(try simp only [go_sem] at hc)))
 (refine call_c (c110 b l hl 105 [] [.ro true [.v (.int .i64 lo)] 0, .ro true [.v (.int .i64 hi)] 0] (fun n => decide (n < lo) || decide (hi < n)) (fun x _ => dmW1 x lo hi true true)) (by decide) ?_; simp (disch:=omega) only [go_sem,simprocAttr,Blk.men,Blk.keysIn])
 repeat' (first|(with_reducible first|apply qA|apply qB|apply qC|apply qD|apply qE|apply qF)|(simp (disch:=omega) only [go_sem, simprocAttr, Blk.men, Blk.keysIn])|exact qM rfl rfl rfl|(refine qG rfl ?_)|(refine qH rfl ?_)|(refine qI rfl ?_ ?_<;>intro hc<;>(try simp only [go_sem] at hc))|(refine qJ ?_ ?_<;>intro hc<;>(try simp only [hc])<;>(try simp only [go_sem] at hc)))
theorem dmIn (b : Bool) (lo hi : Int) (l : List Int) (hl : l.length ≤ 2 ^ 36) (h : ∀ v ∈ l, lo ≤ v ∧ v ≤ hi) : DCall Tryd.prog 63 [dI lo, dI hi, dIs b l] [] (bD true) [] := by
 have h1 := dmWithin b lo hi l hl
 have : wthn lo hi l = true := by
  simp only [wthn, Bool.not_eq_true', List.any_eq_false, Bool.or_eq_true, decide_eq_true_eq]
  intro v hv
  have := h v hv
  omega
 rwa [this] at h1
def eSp (s : Int × Int) : List C := [.v (.int .i64 s.1), .v (.int .i64 s.2)]
theorem eSp_nb (s : Int × Int) : C.nbs (eSp s) = true := rfl
attribute [go_sem] eSp
def spM (s : Int × Int) : Prop := 0 ≤ s.1 ∧ s.1 ≤ s.2 ∧ s.2 ≤ 300
structure DSt where
 lo : Int
 hi : Int
 h : Int
structure DSt.ok (s : DSt) : Prop where
 r : spM (s.lo, s.hi)
 h : 0 ≤ s.h ∧ s.h ≤ 500
def eDs (s : DSt) : List C := [.v (.int .i64 s.lo), .v (.int .i64 s.hi), .v (.int .i64 s.h)]
theorem eDs_nb (s : DSt) : C.nbs (eDs s) = true := rfl
attribute [go_sem] eDs
theorem dmIsMoist (s : Int × Int) (h : spM s) : DCall Tryd.prog 66 [.agg [dI s.1, dI s.2]] [] (bD true) [] := by
 obtain ⟨h1, h2, h3⟩ := h
 have hw := dmIn true 0 300 [s.1, s.2] (by simp) (fun v hv => by
  simp only [List.mem_cons, List.not_mem_nil, or_false] at hv
  rcases hv with rfl | rfl <;> omega)
 have hd : decide (s.1 ≤ s.2) = true := decide_eq_true h2
 refine DCall.of Tryd.func66 sf66 hb66 (Nat.le_of_ble_eq_true rfl) (okRes_nil fun _ => rfl) ?_; simp only [s66, idxs, Nat.reduceAdd]
 repeat' (first|(with_reducible first|apply qA|apply qB|apply qC|apply qD|apply qE|apply qF)|(simp (disch:=omega) only [go_sem, simprocAttr, Blk.men, Blk.keysIn, hd])|exact qM rfl rfl rfl|(refine qG rfl ?_)|(refine qK (hw) (by decide) ?_)|(refine qH rfl ?_)|(refine qI rfl ?_ ?_<;>intro hc<;>(try simp only [go_sem] at hc))|(refine qJ ?_ ?_<;>intro hc<;>(try simp only [hc])<;>(try simp only [go_sem] at hc)))
theorem dmM1 (s : Int × Int) (h : spM s) : DCall Tryd.prog 65 [.agg ((eSp s).map D.c)] [] (bD false) [] := by
 have h1 := dmIsMoist s h
 refine DCall.of Tryd.func65 sf65 hb65 (Nat.le_of_ble_eq_true rfl) (okRes_nil fun _ => rfl) ?_; simp only [s65, idxs, Nat.reduceAdd]
 repeat' (first|(with_reducible first|apply qA|apply qB|apply qC|apply qD|apply qE|apply qF)|(simp (disch:=omega) only [go_sem, simprocAttr, Blk.men, Blk.keysIn, rF, rG])|exact qM rfl rfl rfl|(refine qG rfl ?_)|(refine qK (h1) (by decide) ?_)|(refine qH rfl ?_)|(refine qI rfl ?_ ?_<;>intro hc<;>(try simp only [go_sem] at hc))|(refine qJ ?_ ?_<;>intro hc<;>(try simp only [hc])<;>(try simp only [go_sem] at hc)))
theorem dmSpIdx (b : Bool) (l : List (Int × Int)) (hl : l.length ≤ 2 ^ 36) (g : FuncId) (hp : ∀ x ∈ l, DCall Tryd.prog g [.agg ((eSp x).map D.c)] [] (bD false) []) : DCall Tryd.prog 106 [.c (.sl b 2 (rows eSp l)), .c (.fn (.func g) [] [])] [] (dI (-1)) [] := by
 refine DCall.of Tryd.func106 sf106 hb106 (Nat.le_of_ble_eq_true rfl) (okRes_nil fun _ => rfl) ?_; simp only [s106, idxs, Nat.reduceAdd]
 repeat' (first|(with_reducible first|apply qA|apply qB|apply qC|apply qD|apply qE|apply qF)|(simp (disch:=omega) only [go_sem, simprocAttr, Blk.men, Blk.keysIn])|exact qM rfl rfl rfl|(refine qG rfl ?_)|(refine qH rfl ?_)|(refine qI rfl ?_ ?_<;>intro hc<;>(try simp only [go_sem] at hc))|(refine qJ ?_ ?_<;>intro hc<;>(try simp only [hc])<;>(try simp only [go_sem] at hc)))
 refine DW.loop (ι := { i : Nat // i ≤ l.length }) (fun i => ⟨19, [(8, dI i.1), (7, dI l.length), (1, .c (.fn (.func g) [] [])), (0, .c (.sl b 2 (rows eSp l)))], []⟩) (fun i => l.length - i.1) ⟨0, Nat.zero_le _⟩ ?_ ?_
 ·refine Ent.to ?_ ?_ <;> simp (disch:=omega) only [qR,qS,qTw,qU,get,Nat.reduceEqDiff,↓reduceIte,qV,qW,qX,qY,qZ,and_self,dI,i64_in,and_true,true_and,rA,rB,rC,rD]
 rintro ⟨i, hi⟩
 rcases at_or l i hi with ⟨v, hv, hlt, hd⟩ | ⟨he, hd⟩
 ·have hcall := hp v (List.mem_of_getElem? hv)
  repeat' (first|(with_reducible first|apply qA|apply qB|apply qC|apply qD|apply qE|apply qF)|(simp (disch:=omega) only [go_sem, simprocAttr, Blk.men, Blk.keysIn, hd, hv, closeDs_fn, rF, rG])|exact qM rfl rfl rfl|(refine qG rfl ?_)|(refine qH rfl ?_)|(refine qI rfl ?_ ?_<;>intro hc<;>(try simp only [go_sem] at hc))|(refine qJ ?_ ?_<;>intro hc<;>(try simp only [hc])<;>(try simp only [go_sem] at hc)))
  refine call_c hcall (by decide) ?_
  simp (disch:=omega) only [go_sem,simprocAttr,Blk.men,Blk.keysIn]
  repeat' (first|(with_reducible first|apply qA|apply qB|apply qC|apply qD|apply qE|apply qF)|(simp (disch:=omega) only [go_sem, simprocAttr, Blk.men, Blk.keysIn])|exact qM rfl rfl rfl|(refine qG rfl ?_)|(refine qH rfl ?_)|(refine qI rfl ?_ ?_<;>intro hc<;>(try simp only [go_sem] at hc))|(refine qJ ?_ ?_<;>intro hc<;>(try simp only [hc])<;>(try simp only [go_sem] at hc)))
  refine ⟨⟨i + 1, hlt⟩, ?_, Ent.to ?_ ?_⟩ <;> first | (show _ < _; (try simp only); omega) | (simp (disch:=omega) only [qR,qS,qTw,qU,get,Nat.reduceEqDiff,↓reduceIte,qV,qW,qX,qY,qZ,and_self,dI,i64_in,and_true,true_and,rA,rB,rC,rD])
 ·repeat' (first|(with_reducible first|apply qA|apply qB|apply qC|apply qD|apply qE|apply qF)|(simp (disch:=omega) only [go_sem, simprocAttr, Blk.men, Blk.keysIn, hd])|exact qM rfl rfl rfl|(refine qG rfl ?_)|(refine qH rfl ?_)|(refine qI rfl ?_ ?_<;>intro hc<;>(try simp only [go_sem] at hc))|(refine qJ ?_ ?_<;>intro hc<;>(try simp only [hc])<;>(try simp only [go_sem] at hc)))
theorem dmSpCon (b : Bool) (l : List (Int × Int)) (hl : l.length ≤ 2 ^ 36) (g : FuncId) (hp : ∀ x ∈ l, DCall Tryd.prog g [.agg ((eSp x).map D.c)] [] (bD false) []) : DCall Tryd.prog 64 [.c (.sl b 2 (rows eSp l)), .c (.fn (.func g) [] [])] [] (bD false) [] := by
 refine DCall.of Tryd.func64 sf64 hb64 (Nat.le_of_ble_eq_true rfl) (okRes_nil fun _ => rfl) ?_; simp only [s64, idxs, Nat.reduceAdd]
 repeat' (first|(with_reducible first|apply qA|apply qB|apply qC|apply qD|apply qE|apply qF)|(simp (disch:=omega) only [go_sem, simprocAttr, Blk.men, Blk.keysIn])|exact qM rfl rfl rfl|(refine qG rfl ?_)|(refine qH rfl ?_)|(refine qI rfl ?_ ?_<;>intro hc<;>(try simp only [go_sem] at hc))|(refine qJ ?_ ?_<;>intro hc<;>(try simp only [hc])<;>(try simp only [go_sem] at hc)))
 (refine call_c (dmSpIdx b l hl g hp) (by decide) ?_; simp (disch:=omega) only [go_sem,simprocAttr,Blk.men,Blk.keysIn])
 repeat' (first|(with_reducible first|apply qA|apply qB|apply qC|apply qD|apply qE|apply qF)|(simp (disch:=omega) only [go_sem, simprocAttr, Blk.men, Blk.keysIn])|exact qM rfl rfl rfl|(refine qG rfl ?_)|(refine qH rfl ?_)|(refine qI rfl ?_ ?_<;>intro hc<;>(try simp only [go_sem] at hc))|(refine qJ ?_ ?_<;>intro hc<;>(try simp only [hc])<;>(try simp only [go_sem] at hc)))
theorem dmMoist (b : Bool) (l : List (Int × Int)) (hl : l.length ≤ 2 ^ 36) (h : ∀ s ∈ l, spM s) : DCall Tryd.prog 31 [.c (.sl b 2 (rows eSp l))] [] (bD true) [] := by
 have h1 := dmSpCon b l hl 65 (fun x hx => dmM1 x (h x hx))
 refine DCall.of Tryd.func31 sf31 hb31 (Nat.le_of_ble_eq_true rfl) (okRes_nil fun _ => rfl) ?_; simp only [s31, idxs, Nat.reduceAdd]
 repeat' (first|(with_reducible first|apply qA|apply qB|apply qC|apply qD|apply qE|apply qF)|(simp (disch:=omega) only [go_sem, simprocAttr, Blk.men, Blk.keysIn])|exact qM rfl rfl rfl|(refine qG rfl ?_)|(refine qK (h1) (by decide) ?_)|(refine qH rfl ?_)|(refine qI rfl ?_ ?_<;>intro hc<;>(try simp only [go_sem] at hc))|(refine qJ ?_ ?_<;>intro hc<;>(try simp only [hc])<;>(try simp only [go_sem] at hc)))
theorem dmRule (u d : Int) (h : (0 ≤ u ∧ u ≤ 50) ∧ 0 ≤ d ∧ d ≤ 50) : DCall Tryd.prog 30 [.agg [dI u, dI d]] [] (bD true) [] := by
 have hw := dmIn true 0 50 [u, d] (by simp) (fun v hv => by
  simp only [List.mem_cons, List.not_mem_nil, or_false] at hv
  rcases hv with rfl | rfl <;> omega)
 refine DCall.of Tryd.func30 sf30 hb30 (Nat.le_of_ble_eq_true rfl) (okRes_nil fun _ => rfl) ?_; simp only [s30, idxs, Nat.reduceAdd]
 repeat' (first|(with_reducible first|apply qA|apply qB|apply qC|apply qD|apply qE|apply qF)|(simp (disch:=omega) only [go_sem, simprocAttr, Blk.men, Blk.keysIn])|exact qM rfl rfl rfl|(refine qG rfl ?_)|(refine qK (hw) (by decide) ?_)|(refine qH rfl ?_)|(refine qI rfl ?_ ?_<;>intro hc<;>(try simp only [go_sem] at hc))|(refine qJ ?_ ?_<;>intro hc<;>(try simp only [hc])<;>(try simp only [go_sem] at hc)))
theorem dmC1 (s : DSt) (h : s.ok) : DCall Tryd.prog 115 [.agg ((eDs s).map D.c)] [] (bD false) [] := by
 have h1 := dmMoist true [(s.lo, s.hi)] (by simp) (fun x hx => by rw [List.mem_singleton.1 hx]; exact h.r)
 have h2 := dmIn true 0 500 [s.h] (by simp) (fun x hx => by rw [List.mem_singleton.1 hx]; exact h.h)
 refine DCall.of Tryd.func115 sf115 hb115 (Nat.le_of_ble_eq_true rfl) (okRes_nil fun _ => rfl) ?_; simp only [s115, idxs, Nat.reduceAdd]
 repeat' (first|(with_reducible first|apply qA|apply qB|apply qC|apply qD|apply qE|apply qF)|(simp (disch:=omega) only [go_sem, simprocAttr, Blk.men, Blk.keysIn, rF, rG])|exact qM rfl rfl rfl|(refine qG rfl ?_)|(refine qK (h1) (by decide) ?_)|(refine qK (h2) (by decide) ?_)|(refine qH rfl ?_)|(refine qI rfl ?_ ?_<;>intro hc<;>(try simp only [go_sem] at hc))|(refine qJ ?_ ?_<;>intro hc<;>(try simp only [hc])<;>(try simp only [go_sem] at hc)))
theorem dmStIdx (b : Bool) (l : List DSt) (hl : l.length ≤ 2 ^ 36) (g : FuncId) (hp : ∀ x ∈ l, DCall Tryd.prog g [.agg ((eDs x).map D.c)] [] (bD false) []) : DCall Tryd.prog 132 [.c (.sl b 3 (rows eDs l)), .c (.fn (.func g) [] [])] [] (dI (-1)) [] := by
 refine DCall.of Tryd.func132 sf132 hb132 (Nat.le_of_ble_eq_true rfl) (okRes_nil fun _ => rfl) ?_; simp only [s132, idxs, Nat.reduceAdd]
 repeat' (first|(with_reducible first|apply qA|apply qB|apply qC|apply qD|apply qE|apply qF)|(simp (disch:=omega) only [go_sem, simprocAttr, Blk.men, Blk.keysIn])|exact qM rfl rfl rfl|(refine qG rfl ?_)|(refine qH rfl ?_)|(refine qI rfl ?_ ?_<;>intro hc<;>(try simp only [go_sem] at hc))|(refine qJ ?_ ?_<;>intro hc<;>(try simp only [hc])<;>(try simp only [go_sem] at hc)))
 refine DW.loop (ι := { i : Nat // i ≤ l.length }) (fun i => ⟨19, [(8, dI i.1), (7, dI l.length), (1, .c (.fn (.func g) [] [])), (0, .c (.sl b 3 (rows eDs l)))], []⟩) (fun i => l.length - i.1) ⟨0, Nat.zero_le _⟩ ?_ ?_
 ·refine Ent.to ?_ ?_ <;> simp (disch:=omega) only [qR,qS,qTw,qU,get,Nat.reduceEqDiff,↓reduceIte,qV,qW,qX,qY,qZ,and_self,dI,i64_in,and_true,true_and,rA,rB,rC,rD]
 rintro ⟨i, hi⟩
 rcases at_or l i hi with ⟨v, hv, hlt, hd⟩ | ⟨he, hd⟩
 ·have hcall := hp v (List.mem_of_getElem? hv)
  repeat' (first|(with_reducible first|apply qA|apply qB|apply qC|apply qD|apply qE|apply qF)|(simp (disch:=omega) only [go_sem, simprocAttr, Blk.men, Blk.keysIn, hd, hv, closeDs_fn, rF, rG])|exact qM rfl rfl rfl|(refine qG rfl ?_)|(refine qH rfl ?_)|(refine qI rfl ?_ ?_<;>intro hc<;>(try simp only [go_sem] at hc))|(refine qJ ?_ ?_<;>intro hc<;>(try simp only [hc])<;>(try simp only [go_sem] at hc)))
  refine call_c hcall (by decide) ?_
  simp (disch:=omega) only [go_sem,simprocAttr,Blk.men,Blk.keysIn]
  repeat' (first|(with_reducible first|apply qA|apply qB|apply qC|apply qD|apply qE|apply qF)|(simp (disch:=omega) only [go_sem, simprocAttr, Blk.men, Blk.keysIn])|exact qM rfl rfl rfl|(refine qG rfl ?_)|(refine qH rfl ?_)|(refine qI rfl ?_ ?_<;>intro hc<;>(try simp only [go_sem] at hc))|(refine qJ ?_ ?_<;>intro hc<;>(try simp only [hc])<;>(try simp only [go_sem] at hc)))
  refine ⟨⟨i + 1, hlt⟩, ?_, Ent.to ?_ ?_⟩ <;> first | (show _ < _; (try simp only); omega) | (simp (disch:=omega) only [qR,qS,qTw,qU,get,Nat.reduceEqDiff,↓reduceIte,qV,qW,qX,qY,qZ,and_self,dI,i64_in,and_true,true_and,rA,rB,rC,rD])
 ·repeat' (first|(with_reducible first|apply qA|apply qB|apply qC|apply qD|apply qE|apply qF)|(simp (disch:=omega) only [go_sem, simprocAttr, Blk.men, Blk.keysIn, hd])|exact qM rfl rfl rfl|(refine qG rfl ?_)|(refine qH rfl ?_)|(refine qI rfl ?_ ?_<;>intro hc<;>(try simp only [go_sem] at hc))|(refine qJ ?_ ?_<;>intro hc<;>(try simp only [hc])<;>(try simp only [go_sem] at hc)))
theorem dmStCon (b : Bool) (l : List DSt) (hl : l.length ≤ 2 ^ 36) (g : FuncId) (hp : ∀ x ∈ l, DCall Tryd.prog g [.agg ((eDs x).map D.c)] [] (bD false) []) : DCall Tryd.prog 116 [.c (.sl b 3 (rows eDs l)), .c (.fn (.func g) [] [])] [] (bD false) [] := by
 refine DCall.of Tryd.func116 sf116 hb116 (Nat.le_of_ble_eq_true rfl) (okRes_nil fun _ => rfl) ?_; simp only [s116, idxs, Nat.reduceAdd]
 repeat' (first|(with_reducible first|apply qA|apply qB|apply qC|apply qD|apply qE|apply qF)|(simp (disch:=omega) only [go_sem, simprocAttr, Blk.men, Blk.keysIn])|exact qM rfl rfl rfl|(refine qG rfl ?_)|(refine qH rfl ?_)|(refine qI rfl ?_ ?_<;>intro hc<;>(try simp only [go_sem] at hc))|(refine qJ ?_ ?_<;>intro hc<;>(try simp only [hc])<;>(try simp only [go_sem] at hc)))
 (refine call_c (dmStIdx b l hl g hp) (by decide) ?_; simp (disch:=omega) only [go_sem,simprocAttr,Blk.men,Blk.keysIn])
 repeat' (first|(with_reducible first|apply qA|apply qB|apply qC|apply qD|apply qE|apply qF)|(simp (disch:=omega) only [go_sem, simprocAttr, Blk.men, Blk.keysIn])|exact qM rfl rfl rfl|(refine qG rfl ?_)|(refine qH rfl ?_)|(refine qI rfl ?_ ?_<;>intro hc<;>(try simp only [go_sem] at hc))|(refine qJ ?_ ?_<;>intro hc<;>(try simp only [hc])<;>(try simp only [go_sem] at hc)))
theorem dmCheck (u d : Int) (hr : (0 ≤ u ∧ u ≤ 50) ∧ 0 ≤ d ∧ d ≤ 50) (s : Int × Int) (hs : spM s) (b : Bool) (l : List DSt) (hl : l.length ≤ 10) (h : ∀ x ∈ l, x.ok) : DCall Tryd.prog 84 [.agg [dI u, dI d], .agg [dI s.1, dI s.2], .c (.sl b 3 (rows eDs l))] [] (dI 0) [] := by
 have h1 := dmRule u d hr
 have h2 := dmMoist true [s] (by simp) (fun x hx => by rw [List.mem_singleton.1 hx]; exact hs)
 have h3 := dmStCon b l (by omega) 115 (fun x hx => dmC1 x (h x hx))
 have hd : decide ((10 : Int) < (l.length : Int)) = false := decide_eq_false (by omega)
 refine DCall.of Tryd.func84 sf84 hb84 (Nat.le_of_ble_eq_true rfl) (okRes_nil fun _ => rfl) ?_; simp only [s84, idxs, Nat.reduceAdd]
 repeat' (first|(with_reducible first|apply qA|apply qB|apply qC|apply qD|apply qE|apply qF)|(simp (disch:=omega) only [go_sem, simprocAttr, Blk.men, Blk.keysIn, hd])|exact qM rfl rfl rfl|(refine qG rfl ?_)|(refine qK (h1) (by decide) ?_)|(refine qK (h2) (by decide) ?_)|(refine qK (h3) (by decide) ?_)|(refine qH rfl ?_)|(refine qI rfl ?_ ?_<;>intro hc<;>(try simp only [go_sem] at hc))|(refine qJ ?_ ?_<;>intro hc<;>(try simp only [hc])<;>(try simp only [go_sem] at hc)))
def towI (u d f r h : Int) : Int := if f < r then min r (f + u * h) else max r (f - d * h)
theorem tow_b {u d f r h : Int} (hr : (0 ≤ u ∧ u ≤ 50) ∧ 0 ≤ d ∧ d ≤ 50) (hf : 0 ≤ f ∧ f ≤ 300) (hm : 0 ≤ r ∧ r ≤ 300) (hh : 0 ≤ h) : 0 ≤ towI u d f r h ∧ towI u d f r h ≤ 300 := by
 have h1 : 0 ≤ u * h := Int.mul_nonneg hr.1.1 hh
 have h2 : 0 ≤ d * h := Int.mul_nonneg hr.2.1 hh
 unfold towI
 split <;> omega
theorem dm_min (a b : Int) : (if b < a then b else a) = min a b := by split <;> omega
theorem dm_max (a b : Int) : (if a < b then b else a) = max a b := by split <;> omega
theorem dmToward (u d f r h : Int) (hr : (0 ≤ u ∧ u ≤ 50) ∧ 0 ≤ d ∧ d ≤ 50) (hf : 0 ≤ f ∧ f ≤ 300) (hm : 0 ≤ r ∧ r ≤ 300) (hh : 0 ≤ h ∧ h ≤ 1000) : DCall Tryd.prog 67 [.agg [dI u, dI d], dI f, dI r, dI h] [] (dI (towI u d f r h)) [] := by
 obtain ⟨p, hp⟩ : ∃ p, u * h = p := ⟨_, rfl⟩
 obtain ⟨q, hq⟩ : ∃ q, d * h = q := ⟨_, rfl⟩
 have h1 : 0 ≤ p ∧ p ≤ 50 * 1000 := by
  rw [← hp]
  exact ⟨Int.mul_nonneg hr.1.1 hh.1, Int.mul_le_mul hr.1.2 hh.2 hh.1 (by decide)⟩
 have h2 : 0 ≤ q ∧ q ≤ 50 * 1000 := by
  rw [← hq]
  exact ⟨Int.mul_nonneg hr.2.1 hh.1, Int.mul_le_mul hr.2.2 hh.2 hh.1 (by decide)⟩
 unfold towI
 rw [hp, hq]
 by_cases hc : f < r
 ·have hd : decide (f < r) = true := decide_eq_true hc
  rw [if_pos hc]
  refine DCall.of Tryd.func67 sf67 hb67 (Nat.le_of_ble_eq_true rfl) (okRes_nil fun _ => rfl) ?_; simp only [s67, idxs, Nat.reduceAdd]
  repeat' (first|(with_reducible first|apply qA|apply qB|apply qC|apply qD|apply qE|apply qF)|(simp (disch:=omega) only [go_sem, simprocAttr, Blk.men, Blk.keysIn, hd, hp, hq, dm_min, dm_max])|exact qM rfl rfl rfl|(refine qG rfl ?_)|(refine qH rfl ?_)|(refine qI rfl ?_ ?_<;>intro hc<;>(try simp only [go_sem] at hc))|(refine qJ ?_ ?_<;>intro hc<;>(try simp only [hc])<;>(try simp only [go_sem] at hc)))
 ·have hd : decide (f < r) = false := decide_eq_false hc
  rw [if_neg hc]
  refine DCall.of Tryd.func67 sf67 hb67 (Nat.le_of_ble_eq_true rfl) (okRes_nil fun _ => rfl) ?_; simp only [s67, idxs, Nat.reduceAdd]
  repeat' (first|(with_reducible first|apply qA|apply qB|apply qC|apply qD|apply qE|apply qF)|(simp (disch:=omega) only [go_sem, simprocAttr, Blk.men, Blk.keysIn, hd, hp, hq, dm_min, dm_max])|exact qM rfl rfl rfl|(refine qG rfl ?_)|(refine qH rfl ?_)|(refine qI rfl ?_ ?_<;>intro hc<;>(try simp only [go_sem] at hc))|(refine qJ ?_ ?_<;>intro hc<;>(try simp only [hc])<;>(try simp only [go_sem] at hc)))
def hrsF (u d : Int) (k : Int × Int) (s : DSt) : Int × Int := (towI u d k.1 s.lo s.h, towI u d k.2 s.hi s.h)
theorem tow_mono {u d f f' r r' h : Int} (hf : f ≤ f') (hr : r ≤ r') : towI u d f r h ≤ towI u d f' r' h ∨ u * h < 0 ∨ d * h < 0 := by
 unfold towI
 split <;> split <;> omega
theorem hrs_ok {u d : Int} {k : Int × Int} {s : DSt} (hr : (0 ≤ u ∧ u ≤ 50) ∧ 0 ≤ d ∧ d ≤ 50) (hk : spM k) (hs : s.ok) : spM (hrsF u d k s) := by
 obtain ⟨k1, k2, k3⟩ := hk
 obtain ⟨s1, s2, s3⟩ := hs.r
 have hh := hs.h
 dsimp only at s1 s2 s3
 have h1 := (tow_b (u := u) (d := d) (f := k.1) (r := s.lo) (h := s.h) hr ⟨k1, by omega⟩ ⟨s1, by omega⟩ hh.1).1
 have h2 := (tow_b (u := u) (d := d) (f := k.2) (r := s.hi) (h := s.h) hr ⟨by omega, k3⟩ ⟨by omega, s3⟩ hh.1).2
 have h3 : 0 ≤ u * s.h := Int.mul_nonneg hr.1.1 hh.1
 have h4 : 0 ≤ d * s.h := Int.mul_nonneg hr.2.1 hh.1
 refine ⟨h1, ?_, h2⟩
 rcases tow_mono (u := u) (d := d) (h := s.h) k2 s2 with h | h | h
 ·exact h
 ·omega
 ·omega
theorem dmHrs (u d : Int) (k : Int × Int) (s : DSt) (hr : (0 ≤ u ∧ u ≤ 50) ∧ 0 ≤ d ∧ d ≤ 50) (hk : spM k) (hs : s.ok) : DCall Tryd.prog 33 [.agg [dI k.1, dI k.2], .agg [dI u, dI d], .agg [dI s.lo, dI s.hi], dI s.h] [] (.agg [dI (hrsF u d k s).1, dI (hrsF u d k s).2]) [] := by
 obtain ⟨k1, k2, k3⟩ := hk
 obtain ⟨s1, s2, s3⟩ := hs.r
 have hh := hs.h
 dsimp only at s1 s2 s3
 have h1 := dmToward u d k.1 s.lo s.h hr ⟨k1, by omega⟩ ⟨s1, by omega⟩ ⟨hh.1, by omega⟩
 have h2 := dmToward u d k.2 s.hi s.h hr ⟨by omega, k3⟩ ⟨by omega, s3⟩ ⟨hh.1, by omega⟩
 unfold hrsF
 dsimp only
 refine DCall.of Tryd.func33 sf33 hb33 (Nat.le_of_ble_eq_true rfl) (okRes_nil fun _ => rfl) ?_; simp only [s33, idxs, Nat.reduceAdd]
 repeat' (first|(with_reducible first|apply qA|apply qB|apply qC|apply qD|apply qE|apply qF)|(refine qL rfl (WF.of ?_) ?_; first|rfl|skip)|(simp (disch:=omega) only [go_sem, simprocAttr, Blk.men, Blk.keysIn])|exact qM rfl rfl rfl|(refine qG rfl ?_)|(refine qK (h1) (by decide) ?_)|(refine qK (h2) (by decide) ?_)|(refine qH rfl ?_)|(refine qI rfl ?_ ?_<;>intro hc<;>(try simp only [go_sem] at hc))|(refine qJ ?_ ?_<;>intro hc<;>(try simp only [hc])<;>(try simp only [go_sem] at hc)))
end Go.Dw.Seat
end
section
set_option linter.unusedSimpArgs false
set_option maxRecDepth 100000
namespace Go.Dw.Seat
open Go Go.Dw Go.Proofs Go.IntWalk
theorem dm_bm_pbox (k l : Nat) (ds : List D) : Blk.men k (.pbox l ds) = D.mens k ds := rfl
theorem dm_bk_pbox (bx : List (Nat × Blk)) (l : Nat) (ds : List D) : Blk.keysIn bx (.pbox l ds) = D.keysIns bx ds := rfl
theorem dm_killB_pbox (k l : Nat) (ds : List D) : killB k (.pbox l ds) = .pbox l (ds.map (killD k)) := rfl
attribute [go_sem] dm_bm_pbox dm_bk_pbox dm_killB_pbox
def aftL (u d : Int) : Int × Int → List DSt → List ((DSt × (Int × Int)) × List Int)
 | _, [] => []
 | k, s :: l => ((s, hrsF u d k s), [(hrsF u d k s).1, (hrsF u d k s).2]) :: aftL u d (hrsF u d k s) l
def enA (e : DSt × (Int × Int)) : List D := [.agg ((eDs e.1).map D.c), .agg ((eSp e.2).map D.c)]
def okA (e : DSt × (Int × Int)) : Prop := e.1.ok ∧ spM e.2
theorem dm_drop {α : Type} {l : List α} {i : Nat} {v : α} (h : l[i]? = some v) : l.drop i = v :: l.drop (i + 1) := by
 have hlt : i < l.length := by
  rcases Nat.lt_or_ge i l.length with h1 | h1
  ·exact h1
  ·rw [List.getElem?_eq_none h1] at h; cases h
 have e : l[i] = v := by
  have := List.getElem?_eq_getElem hlt
  rw [h] at this; cases this; rfl
 rw [← e]; exact List.drop_eq_getElem_cons hlt
set_option maxHeartbeats 4000000 in
theorem dmAft1 (u d : Int) (hr : (0 ≤ u ∧ u ≤ 50) ∧ 0 ≤ d ∧ d ≤ 50) (l : List DSt) (hl : l.length ≤ 1000) (ho : ∀ s ∈ l, s.ok) (k : Int × Int) (hk : spM k) (p : Nat) :
  ItP Tryd.prog 117 [] [.c (.ro false [.sl false 3 (rows eDs l)] 0), .c (.v (.pointer (some ⟨p, 0, none⟩))), .c (.ro false [.v (.int .i64 u), .v (.int .i64 d)] 0)] enA okA p 2 [k.1, k.2] (aftL u d k l) := by
 intro ly β H stp live hW h40 hC hY b0 hl0
 have hH : ∀ b c, HidOk ((1040, pnB p 2 c) :: H b) := fun b c => (hC b c).toHidOk
 have hHb : ∀ b, HidOk (H b) := fun b => (hW b).toHidOk
 refine DCall.of Tryd.func117 sf117 hb117 (Nat.le_of_ble_eq_true rfl) (hH _ _).res ?_
 simp only [s117, idxs, Nat.reduceAdd, List.map_nil, List.map_cons, List.nil_append, List.cons_append]
 have f1 := hid_get (hHb b0)
 have f2 := hid_ins (hHb b0)
 have f3 := (hHb b0).men
 have f4 := (hHb b0).lo
 repeat' (first|(with_reducible first|apply qA|apply qB|apply qC|apply qD|apply qE|apply qF)|(simp (disch:=omega) only [go_sem, simprocAttr, qN, qO, qP, qQ, f1, f2, f3, f4, ins, pnB, pnC, rF, rG])|exact qM rfl rfl rfl|(refine qG rfl ?_)|(refine qH rfl ?_)|(refine qI rfl ?_ ?_<;>intro hc<;>(try simp only [go_sem] at hc))|(refine qJ ?_ ?_<;>intro hc<;>(try simp only [hc])<;>(try simp only [go_sem] at hc)))
 refine DW.loop (ι := { y : Nat × β × (Int × Int) // y.1 ≤ l.length ∧ live ((aftL u d y.2.2 (l.drop y.1)).map (·.1)) y.2.1 ∧ spM y.2.2 ∧ runB stp b0 ((aftL u d k l).map (·.1)) = runB stp y.2.1 ((aftL u d y.2.2 (l.drop y.1)).map (·.1)) ∧ runC stp b0 (aftL u d k l) [k.1, k.2] = runC stp y.2.1 (aftL u d y.2.2 (l.drop y.1)) [y.2.2.1, y.2.2.2] })
  (fun y => ⟨26, [(9, dI y.1.1), (8, dI l.length), (7, .c (.sl false 3 (rows eDs l))), (0, .c (.fn (.yield ly) [] [])), (2, .c (.v (.pointer (some ⟨p, 0, none⟩)))), (3, .c (.ro false [.v (.int .i64 u), .v (.int .i64 d)] 0))], (1040, pnB p 2 (some [y.1.2.2.1, y.1.2.2.2])) :: H y.1.2.1⟩) (fun y => l.length - y.1.1) ⟨(0, b0, k), Nat.zero_le _, hl0, hk, rfl, rfl⟩ ?_ ?_
 ·refine Ent.toT ?_; simp (disch:=omega) only [qR,qS,qTw,qU,get,Nat.reduceEqDiff,↓reduceIte,qV,qW,qX,qY,qZ,and_self,dI,i64_in,and_true,true_and,rA,rB,rC,rD]
 rintro ⟨⟨i, b1, kk⟩, hi, hlv, hkk, hrun, hrc⟩
 dsimp only at hi hlv hkk hrun hrc ⊢
 have g1 := hid_get (hHb b1)
 have g2 := hid_ins (hHb b1)
 have g3 := (hHb b1).men
 have g4 := (hHb b1).lo
 have g5 : ∀ k x, k < 1000 → ins k x (H b1) = H b1 ++ [(k, x)] := fun k x hk => by have := g2 k hk x []; rwa [List.append_nil] at this
 rcases at_or l i hi with ⟨s, hs, hlt, hd⟩ | ⟨he, hd⟩
 ·have hso := ho s (List.mem_of_getElem? hs)
  rw [dm_drop hs, aftL] at hrun hrc hlv
  simp only [List.map_cons, runB, runC] at hrun hrc hlv
  have hh := dmHrs u d kk s hr hkk hso
  have hk' := hrs_ok hr hkk hso
  generalize hrsF u d kk s = k' at *
  obtain ⟨hyc, hlv4⟩ := hY b1 [k'.1, k'.2] (s, k') _ hlv ⟨hso, hk'⟩
  repeat' (first|(with_reducible first|apply qA|apply qB|apply qC|apply qD|apply qE|apply qF)|(simp (disch:=omega) only [go_sem, simprocAttr, qN, qO, qP, qQ, g1, g2, g3, g4, g5, ins, hd, pnB, pnC, rF, rG])|exact qM rfl rfl rfl|(refine qG rfl ?_)|(refine qH rfl ?_)|(refine qI rfl ?_ ?_<;>intro hc<;>(try simp only [go_sem] at hc))|(refine qJ ?_ ?_<;>intro hc<;>(try simp only [hc])<;>(try simp only [go_sem] at hc)))
  simp (disch:=omega) only [go_sem,simprocAttr,qN,qO,qP,qQ,g1,g2,g3,g4,g5,ins,hs,rF,rG]
  repeat' (first|(with_reducible first|apply qA|apply qB|apply qC|apply qD|apply qE|apply qF)|(simp (disch:=omega) only [go_sem, simprocAttr, qN, qO, qP, qQ, g1, g2, g3, g4, g5, ins, pnB, pnC, rF, rG])|exact qM rfl rfl rfl|(refine qG rfl ?_)|(refine qH rfl ?_)|(refine qI rfl ?_ ?_<;>intro hc<;>(try simp only [go_sem] at hc))|(refine qJ ?_ ?_<;>intro hc<;>(try simp only [hc])<;>(try simp only [go_sem] at hc)))
  refine call_c hh (by decide) ?_
  simp (disch:=omega) only [go_sem,simprocAttr,qN,qO,qP,qQ,g1,g2,g3,g4,g5,ins,pnB,pnC,rF,rG]
  refine DW.ent (Ent.comm (o := [(6, .box [dI s.lo, dI s.hi, dI s.h])]) (hH b1 (some [k'.1, k'.2])) rfl).1 ?_
  simp (disch:=omega) only [go_sem,simprocAttr,qN,qO,qP,qQ,List.cons_append,List.nil_append]
  repeat' (first|(with_reducible first|apply qA|apply qB|apply qC|apply qD|apply qE|apply qF)|(simp (disch:=omega) only [go_sem, simprocAttr, qN, qO, qP, qQ, g1, g2, g3, g4, g5, ins, pnB, pnC, rF, rG])|exact qM rfl rfl rfl|(refine qG rfl ?_)|(refine qH rfl ?_)|(refine qI rfl ?_ ?_<;>intro hc<;>(try simp only [go_sem] at hc))|(refine qJ ?_ ?_<;>intro hc<;>(try simp only [hc])<;>(try simp only [go_sem] at hc)))
  refine call_y (own := [(6, .box [dI s.lo, dI s.hi, dI s.h])]) hyc rfl rfl rfl (hH b1 (some [k'.1, k'.2])) (hH (stp b1 (s, k')).2 (some [k'.1, k'.2])) (by decide) ?_
  cases hst : (stp b1 (s, k')).1 with
  | true =>
   rw [hst] at hrun hrc hlv4
   simp only [if_true] at hrun hrc
   simp (disch:=omega) only [go_sem,simprocAttr,qN,qO,qP,qQ]
   repeat' (first|(with_reducible first|apply qA|apply qB|apply qC|apply qD|apply qE|apply qF)|(simp (disch:=omega) only [go_sem, simprocAttr, qN, qO, qP, qQ])|exact qM rfl rfl rfl|(refine qG rfl ?_)|(refine qH rfl ?_)|(refine qI rfl ?_ ?_<;>intro hc<;>(try simp only [go_sem] at hc))|(refine qJ ?_ ?_<;>intro hc<;>(try simp only [hc])<;>(try simp only [go_sem] at hc)))
   refine ⟨⟨(i + 1, (stp b1 (s, k')).2, k'), by dsimp only; omega, hlv4 rfl, hk', hrun, hrc⟩, (by show _ < _; (try simp only); omega), Ent.toH (o := [_]) (o' := []) (hH (stp b1 (s, k')).2 (some [k'.1, k'.2])) rfl ?_ ?_⟩ <;> simp (disch:=omega) only [qR,qS,qTw,qU,get,Nat.reduceEqDiff,↓reduceIte,qV,qW,qX,qY,qZ,and_self,dI,i64_in,and_true,true_and,rA,rB,rC,rD]
  | false =>
   rw [hst] at hrun hrc
   simp only [Bool.false_eq_true, if_false] at hrun hrc
   simp (disch:=omega) only [go_sem,simprocAttr,qN,qO,qP,qQ]
   repeat' (first|(with_reducible first|apply qA|apply qB|apply qC|apply qD|apply qE|apply qF)|(simp (disch:=omega) only [go_sem, simprocAttr, qN, qO, qP, qQ])|exact qM rfl rfl rfl|(refine qG rfl ?_)|(refine qH rfl ?_)|(refine qI rfl ?_ ?_<;>intro hc<;>(try simp only [go_sem] at hc))|(refine qJ ?_ ?_<;>intro hc<;>(try simp only [hc])<;>(try simp only [go_sem] at hc)))
   rw [hrun, hrc]
   exact retS_hid (own := [_]) (.inl rfl) (hH (stp b1 (s, k')).2 (some [k'.1, k'.2])) rfl
 ·repeat' (first|(with_reducible first|apply qA|apply qB|apply qC|apply qD|apply qE|apply qF)|(simp (disch:=omega) only [go_sem, simprocAttr, qN, qO, qP, qQ, hd])|exact qM rfl rfl rfl|(refine qG rfl ?_)|(refine qH rfl ?_)|(refine qI rfl ?_ ?_<;>intro hc<;>(try simp only [go_sem] at hc))|(refine qJ ?_ ?_<;>intro hc<;>(try simp only [hc])<;>(try simp only [go_sem] at hc)))
  rw [he, List.drop_length] at hrun hrc
  simp only [aftL, List.map_nil, runB, runC] at hrun hrc
  rw [hrun, hrc]
  exact retS_hid (own := []) (.inr rfl) (hH b1 (some [kk.1, kk.2])) rfl
theorem dmAfterI (u d : Int) (l : List DSt) (k : Int × Int) : DCall Tryd.prog 85 [.agg [dI k.1, dI k.2], .agg [dI u, dI d], .c (.sl false 3 (rows eDs l))] []
  (.fn (.func 117) [] [.c (.ro false [.sl false 3 (rows eDs l)] 0), .box 40 0, .c (.ro false [.v (.int .i64 u), .v (.int .i64 d)] 0)]) [(40, .box [dI k.1, dI k.2])] := by
 have hok : ∀ i : Nat, okRes (.fn (.func 117) [] [.c (.ro false [.sl false 3 (rows eDs l)] 0), .box i 0, .c (.ro false [.v (.int .i64 u), .v (.int .i64 d)] 0)]) [(i, .box [dI k.1, dI k.2])] := fun i => by
  refine ⟨fun j hj => ?_, fun m x hi j hj => ?_⟩
  ·have hne : j ≠ i := by rintro rfl; simp [get] at hj
   have hne' : i ≠ j := fun h => hne h.symm
   simp only [D.men, D.mens, Bool.or_false, Bool.false_or, beq_eq_false_iff_ne, ne_eq]
   first | exact hne | exact hne'
  ·have := get_mem hi
   simp only [List.mem_cons, Prod.mk.injEq, List.not_mem_nil, or_false] at this
   obtain ⟨_, rfl⟩ := this
   rfl
 refine DCall.swap 3 40 (r := .fn (.func 117) [] [.c (.ro false [.sl false 3 (rows eDs l)] 0), .box 3 0, .c (.ro false [.v (.int .i64 u), .v (.int .i64 d)] 0)]) (bo := [(3, .box [dI k.1, dI k.2])]) (hok 40) ?_
 refine DCall.of Tryd.func85 sf85 hb85 (Nat.le_of_ble_eq_true rfl) (hok 3) ?_
 simp only [s85, idxs, Nat.reduceAdd]
 repeat' (first|(with_reducible first|apply qA|apply qB|apply qC|apply qD|apply qE|apply qF)|(simp (disch:=omega) only [go_sem, simprocAttr, qN, qO, qP, qQ])|exact qM rfl rfl rfl|(refine qG rfl ?_)|(refine qH rfl ?_)|(refine qI rfl ?_ ?_<;>intro hc<;>(try simp only [go_sem] at hc))|(refine qJ ?_ ?_<;>intro hc<;>(try simp only [hc])<;>(try simp only [go_sem] at hc)))
 (refine retS_ent (Ent.rel 5 rfl) ?_; simp (disch:=omega) only [go_sem,simprocAttr,qN,qO,qP,qQ])
 (refine retS_ent (Ent.rel 4 rfl) ?_; simp (disch:=omega) only [go_sem,simprocAttr,qN,qO,qP,qQ])
 refine retS_bs rfl rfl (by simp only [D.nb, D.nbs, C.nb, C.nbs, rows_nb eDs_nb, Bool.and_true, Bool.not_false, Bool.and_self]) (get_all (p := fun k x => get k _ = some x ∧ x.nb = true) ?_)
 intro q hq
 simp only [List.mem_cons, List.not_mem_nil, or_false] at hq
 subst hq
 exact ⟨rfl, rfl⟩
end Go.Dw.Seat
end
section
set_option linter.unusedSimpArgs false
set_option maxRecDepth 100000
namespace Go.Dw.Seat
open Go Go.Dw Go.Proofs Go.IntWalk
def aftS (u d : Int) : Int × Int → List DSt → List (Int × Int)
 | _, [] => []
 | k, s :: l => hrsF u d k s :: aftS u d (hrsF u d k s) l
theorem aftL_snd (u d : Int) : ∀ (l : List DSt) (k : Int × Int), ((aftL u d k l).map (·.1)).map (·.2) = aftS u d k l
 | [], _ => rfl
 | s :: l, k => by simp only [aftL, aftS, List.map_cons, aftL_snd u d l]
theorem aftS_len (u d : Int) : ∀ (l : List DSt) (k : Int × Int), (aftS u d k l).length = l.length
 | [], _ => rfl
 | s :: l, k => by simp only [aftS, List.length_cons, aftS_len u d l]
theorem aftL_len (u d : Int) : ∀ (l : List DSt) (k : Int × Int), (aftL u d k l).length = l.length
 | [], _ => rfl
 | s :: l, k => by simp only [aftL, List.length_cons, aftL_len u d l]
def apA (a : List (Int × Int)) (e : DSt × (Int × Int)) : Option Exit × List (Int × Int) := (none, a ++ [e.2])
theorem apA_run : ∀ (L : List (DSt × (Int × Int))) (a : List (Int × Int)), runIt apA a L = (none, a ++ L.map (·.2))
 | [], a => by simp [runIt]
 | e :: L, a => by simp [runIt, apA, apA_run L]
theorem rowC_snocSp (l : List (Int × Int)) (x : Int × Int) : rowC (rows eSp l) ++ [[D.c (.v (.int .i64 x.1)), D.c (.v (.int .i64 x.2))]] = rowC (rows eSp (l ++ [x])) := by simp [rowC, rows, eSp]
set_option maxHeartbeats 4000000 in
theorem dmAfter (u d : Int) (hr : (0 ≤ u ∧ u ≤ 50) ∧ 0 ≤ d ∧ d ≤ 50) (k : Int × Int) (hk : spM k) (l : List DSt) (hl : l.length ≤ 10) (ho : ∀ s ∈ l, s.ok) :
  DCall Tryd.prog 45 [.agg [dI u, dI d], .agg [dI k.1, dI k.2], .c (.sl false 3 (rows eDs l))] [] (.tup [.c (.sl false 2 (rows eSp (aftS u d k l))), dI 0]) [] := by
 have h1 := dmCheck u d hr k hk false l hl ho
 have h2 := dmAfterI u d l k
 refine DCall.of Tryd.func45 sf45 hb45 (Nat.le_of_ble_eq_true rfl) (okRes_nil fun _ => rfl) ?_; simp only [s45, idxs, Nat.reduceAdd]
 repeat' (first|(with_reducible first|apply qA|apply qB|apply qC|apply qD|apply qE|apply qF)|(simp (disch:=omega) only [go_sem, simprocAttr, qN, qO, qP, qQ])|exact qM rfl rfl rfl|(refine qG rfl ?_)|(refine qK (h1) (by decide) ?_)|(refine qH rfl ?_)|(refine qI rfl ?_ ?_<;>intro hc<;>(try simp only [go_sem] at hc))|(refine qJ ?_ ?_<;>intro hc<;>(try simp only [hc])<;>(try simp only [go_sem] at hc)))
 refine call_b h2 ⟨trivial, rfl, rfl, rfl⟩ (by decide) ?_
 simp only [St.addBs, St.putB, St.putO, St.put]
 simp (disch:=omega) only [go_sem,simprocAttr,qN,qO,qP,qQ]
 refine DW.pin 40 rfl rfl (fun p => ?_)
 simp (disch:=omega) only [go_sem,simprocAttr,qN,qO,qP,qQ,pinT,pinX,pinD,pinDs,pinB,pinO]
 (refine DW.ent (Ent.adoptB 6 0 29 2 rfl rfl rfl rfl) ?_; simp only [ins, Nat.reduceLT, Nat.reduceEqDiff, ↓reduceIte, List.set_cons_zero, List.set_cons_succ])
 refine DW.ent (σ' := ⟨31, [(22, .fn (.func 117) [] [.c (.ro false [.sl false 3 (rows eDs l)] 0), .c (.v (.pointer (some ⟨p, 0, none⟩))), .c (.ro false [.v (.int .i64 u), .v (.int .i64 d)] 0)]), (6, .box 6 0)], (40, pnB p 2 (some [k.1, k.2])) :: [(29, .row 2 (rowC (rows eSp []))), (6, .box [.own 29])]⟩) ?_ ?_
 ·refine Ent.to ?_ ?_ <;> simp (disch:=omega) only [qR,qS,qTw,qU,get,Nat.reduceEqDiff,↓reduceIte,qV,qW,qX,qY,qZ,and_self,dI,i64_in,and_true,true_and,rA,rB,rC,rD,pnB,pnC,rF,rG]
  all_goals first | exact ⟨.refl _, .refl _, .refl _⟩ | exact ⟨.refl _, .refl _⟩ | exact .refl _
 refine DW.block ?_
 refine DW.rngP (fs := []) (caps := [.c (.ro false [.sl false 3 (rows eDs l)] 0), .c (.v (.pointer (some ⟨p, 0, none⟩))), .c (.ro false [.v (.int .i64 u), .v (.int .i64 d)] 0)]) p 2 [k.1, k.2] (fun y : List (Int × Int) => [(29, .row 2 (rowC (rows eSp y))), (6, .box [.own 29])]) [] apA enA okA (aftL u d k l) (dmAft1 u d hr l (by omega) ho k hk p) (fun t y => y.length + t.length ≤ 10) (by simpa [aftL_len] using hl) (fun a e t ha he _ => by simp only [apA, List.length_append, List.length_cons, List.length_nil] at ha ⊢; omega) rfl (fun _ => ⟨rfl, rfl⟩) rfl (by decide) (fun _ _ => rfl) (fun _ _ _ => rfl) (by simp only [List.map_cons, List.map_nil]; decide) (fun _ => rfl) (fun _ => rfl) (fun _ => wf_row rfl rfl) (fun _ => nb_row eSp_nb _ rfl) (by simp only [List.all_cons, List.all_nil, Blk.nb, rowC_nb, D.nb, D.nbs, C.nb, C.nbs, C.nbss, rows_nb eI_nb, Bool.and_true, Bool.not_false, Bool.and_self, bD, dI, iD, rows_nb eSp_nb, rows_nb eDs_nb]) (fun _ _ => rfl) ?_ ?_
 ·rintro y e t hy xs he v
  simp only [List.length_cons] at hy
  have hy : y.length ≤ 1000 := by omega
  simp (disch:=omega) only [go_sem,simprocAttr,qN,qO,qP,qQ,rF,rG,apA,enA]
  repeat' (first|(with_reducible first|apply qA|apply qB|apply qC|apply qD|apply qE|apply qF)|(simp (disch:=omega) only [go_sem, simprocAttr, qN, qO, qP, qQ, rF, rG])|exact qM rfl rfl rfl|(refine qG rfl ?_)|(refine qH rfl ?_)|(refine qI rfl ?_ ?_<;>intro hc<;>(try simp only [go_sem] at hc))|(refine qJ ?_ ?_<;>intro hc<;>(try simp only [hc])<;>(try simp only [go_sem] at hc)))
  refine round_end rfl rfl (Ent.to ?_ ?_) <;> simp (disch:=omega) only [qR,qS,qTw,qU,get,Nat.reduceEqDiff,↓reduceIte,qV,qW,qX,qY,qZ,and_self,dI,i64_in,and_true,true_and,rA,rB,rC,rD,capB,List.cons_append,List.nil_append,rowC_snocSp]
 ·intro c
  rw [apA_run, aftL_snd, List.nil_append]
  have hlen := aftS_len u d l k
  generalize aftS u d k l = L at *
  repeat' (first|(with_reducible first|apply qA|apply qB|apply qC|apply qD|apply qE|apply qF)|(simp (disch:=omega) only [go_sem, simprocAttr, qN, qO, qP, qQ])|exact qM rfl rfl rfl|(refine qG rfl ?_)|(refine qH rfl ?_)|(refine qI rfl ?_ ?_<;>intro hc<;>(try simp only [go_sem] at hc))|(refine qJ ?_ ?_<;>intro hc<;>(try simp only [hc])<;>(try simp only [go_sem] at hc)))
  (refine retS_ent (Ent.rel 29 rfl) ?_; simp (disch:=omega) only [go_sem,simprocAttr,qN,qO,qP,qQ])
  refine retS_wk rfl ?_ (by simp only [Blk.nb, rowC_nb, D.nb, D.nbs, C.nb, C.nbs, C.nbss, rows_nb eI_nb, Bool.and_true, Bool.not_false, Bool.and_self, bD, dI, iD, rows_nb eSp_nb, rows_nb eDs_nb]); exact .tup (.cons (.refl _) (.cons (.refl _) .nil))
end Go.Dw.Seat
end
section
set_option linter.unusedSimpArgs false
set_option maxRecDepth 100000
namespace Go.Dw.Seat
open Go Go.Dw Go.Proofs Go.IntWalk
theorem ud5 : Tryd.prog.underlying 5 = some (.int .u8) := by kernel_rfl
abbrev d8 (n : Nat) : D := .c (.v (.int .u8 n))
def eY (v : Nat) : List C := [.v (.int .u8 v)]
attribute [go_sem] ud5 d8 eY
theorem tmodN (m k : Nat) : (m : Int).tmod (k : Int) = ((m % k : Nat) : Int) := by
 rw [Int.tmod_eq_emod_of_nonneg (by omega)]; simp
end Go.Dw.Seat
end
section
set_option linter.unusedSimpArgs false
set_option maxRecDepth 100000
namespace Go.Dw.Seat
open Go Go.Dw Go.Proofs Go.IntWalk
theorem dtSpan (a b : Int) : DCall Tryd.prog 6 [dI a, dI b] [] (.agg [dI a, dI b]) [] := by
 refine DCall.of Tryd.func6 sf6 hb6 (Nat.le_of_ble_eq_true rfl) (okRes_nil fun _ => rfl) ?_; simp only [s6, idxs, Nat.reduceAdd]
 repeat' (first|(with_reducible first|apply qA|apply qB|apply qC|apply qD|apply qE|apply qF)|(simp (disch:=omega) only [go_sem, simprocAttr, qN, qO, qP, qQ])|exact qM rfl rfl rfl|(refine qG rfl ?_)|(refine qH rfl ?_)|(refine qI rfl ?_ ?_<;>intro hc<;>(try simp only [go_sem] at hc))|(refine qJ ?_ ?_<;>intro hc<;>(try simp only [hc])<;>(try simp only [go_sem] at hc)))
end Go.Dw.Seat
end
section
set_option linter.unusedSimpArgs false
set_option maxRecDepth 100000
namespace Go.Dw.Seat
open Go Go.Dw Go.Proofs Go.IntWalk
theorem dmLies (k s : Int × Int) : DCall Tryd.prog 32 [.agg [dI k.1, dI k.2], .agg [dI s.1, dI s.2]] [] (bD (decide (s.1 ≤ k.1) && decide (k.2 ≤ s.2))) [] := by
 refine DCall.of Tryd.func32 sf32 hb32 (Nat.le_of_ble_eq_true rfl) (okRes_nil fun _ => rfl) ?_; simp only [s32, idxs, Nat.reduceAdd]
 repeat' (first|(with_reducible first|apply qA|apply qB|apply qC|apply qD|apply qE|apply qF)|(simp (disch:=omega) only [go_sem, simprocAttr, qN, qO, qP, qQ])|exact qM rfl rfl rfl|(refine qG rfl ?_)|(refine qH rfl ?_)|(refine qI rfl ?_ ?_<;>intro hc<;>(try simp only [go_sem] at hc))|(refine qJ ?_ ?_<;>intro hc<;>(try simp only [hc])<;>(try simp only [go_sem] at hc)))
def hrsN (u d : Int) (k room lim : Int × Int) : Nat → Nat → Nat
 | 0, n => n
 | f + 1, n => if (lim.1 ≤ towI u d k.1 room.1 ((n : Int) + 1) ∧ towI u d k.2 room.2 ((n : Int) + 1) ≤ lim.2) then hrsN u d k room lim f (n + 1) else n
set_option maxHeartbeats 2000000 in
theorem dmHours (u d : Int) (hr : (0 ≤ u ∧ u ≤ 50) ∧ 0 ≤ d ∧ d ≤ 50) (k room lim : Int × Int) (hk : spM k) (hm : spM room) (hl : spM lim) (hin : lim.1 ≤ k.1 ∧ k.2 ≤ lim.2) :
  DCall Tryd.prog 7 [.agg [dI u, dI d], .agg [dI k.1, dI k.2], .agg [dI room.1, dI room.2], .agg [dI lim.1, dI lim.2]] [] (.tup [dI (hrsN u d k room lim 500 0), dI 0]) [] := by
 have h1 := dmRule u d hr
 have h2 := dmMoist true [k, room, lim] (by simp) (fun x hx => by
  simp only [List.mem_cons, List.not_mem_nil, or_false] at hx
  rcases hx with rfl | rfl | rfl
  ·exact hk
  ·exact hm
  ·exact hl)
 have h3 := dmLies k lim
 rw [decide_eq_true hin.1, decide_eq_true hin.2] at h3
 refine DCall.of Tryd.func7 sf7 hb7 (Nat.le_of_ble_eq_true rfl) (okRes_nil fun _ => rfl) ?_; simp only [s7, idxs, Nat.reduceAdd]
 repeat' (first|(with_reducible first|apply qA|apply qB|apply qC|apply qD|apply qE|apply qF)|(refine qL rfl (WF.of ?_) ?_; first|rfl|skip)|(simp (disch:=omega) only [go_sem, simprocAttr, qN, qO, qP, qQ])|exact qM rfl rfl rfl|(refine qG rfl ?_)|(refine qK (h1) (by decide) ?_)|(refine qK (h2) (by decide) ?_)|(refine qK (h3) (by decide) ?_)|(refine qH rfl ?_)|(refine qI rfl ?_ ?_<;>intro hc<;>(try simp only [go_sem] at hc))|(refine qJ ?_ ?_<;>intro hc<;>(try simp only [hc])<;>(try simp only [go_sem] at hc)))
 obtain ⟨R, hR⟩ : ∃ R, hrsN u d k room lim 500 0 = R := ⟨_, rfl⟩
 rw [hR]
 refine DW.loop (ι := { n : Nat // n ≤ 500 ∧ hrsN u d k room lim (500 - n) n = R }) (fun n => ⟨44, [(10, dI n.1), (7, .box 7 0), (6, .box 6 0), (5, .box 5 0), (4, .box 4 0)], [(7, .box [dI lim.1, dI lim.2]), (6, .box [dI room.1, dI room.2]), (5, .box [dI k.1, dI k.2]), (4, .box [dI u, dI d])]⟩) (fun n => 500 - n.1) ⟨0, by decide, hR⟩ ?_ ?_
 ·refine Ent.to ?_ ?_ <;> simp (disch:=omega) only [qR,qS,qTw,qU,get,Nat.reduceEqDiff,↓reduceIte,qV,qW,qX,qY,qZ,and_self,dI,i64_in,and_true,true_and,rA,rB,rC,rD]
  all_goals first | exact ⟨.refl _, .refl _, .refl _⟩ | exact ⟨.refl _, .refl _⟩ | exact .refl _
 rintro ⟨n, hn, hnr⟩
 dsimp only
 rcases Nat.lt_or_ge n 500 with hlt | hge
 ·have hd : decide ((n : Int) < 500) = true := decide_eq_true (by omega)
  have hh := dmHrs u d k ⟨room.1, room.2, (n : Int) + 1⟩ hr hk ⟨hm, by dsimp only; omega⟩
  rw [show 500 - n = (500 - (n + 1)) + 1 by omega, hrsN] at hnr
  obtain ⟨K, hK⟩ : ∃ K, hrsF u d k ⟨room.1, room.2, (n : Int) + 1⟩ = K := ⟨_, rfl⟩
  have ha : towI u d k.1 room.1 ((n : Int) + 1) = K.1 := by rw [← hK]; rfl
  have hb : towI u d k.2 room.2 ((n : Int) + 1) = K.2 := by rw [← hK]; rfl
  have hl2 := dmLies K lim
  have hnr2 := hnr
  rw [ha, hb] at hnr2
  rw [hK] at hh
  obtain ⟨a, b⟩ := K
  dsimp only at hl2 hnr2 hh
  by_cases hc : lim.1 ≤ a ∧ b ≤ lim.2
  ·rw [if_pos hc] at hnr2
   rw [decide_eq_true hc.1, decide_eq_true hc.2] at hl2
   repeat' (first|(with_reducible first|apply qA|apply qB|apply qC|apply qD|apply qE|apply qF)|(refine qL rfl (WF.of ?_) ?_; first|rfl|skip)|(simp (disch:=omega) only [go_sem, simprocAttr, qN, qO, qP, qQ, hd])|exact qM rfl rfl rfl|(refine qG rfl ?_)|(refine qK (hh) (by decide) ?_)|(refine qK (hl2) (by decide) ?_)|(refine qH rfl ?_)|(refine qI rfl ?_ ?_<;>intro hc<;>(try simp only [go_sem] at hc))|(refine qJ ?_ ?_<;>intro hc<;>(try simp only [hc])<;>(try simp only [go_sem] at hc)))
   refine ⟨⟨n + 1, hlt, hnr2⟩, ?_, Ent.to ?_ ?_⟩ <;> first | (show _ < _; (try simp only); omega) | (simp (disch:=omega) only [qR,qS,qTw,qU,get,Nat.reduceEqDiff,↓reduceIte,qV,qW,qX,qY,qZ,and_self,dI,i64_in,and_true,true_and,rA,rB,rC,rD])
  ·rw [if_neg hc] at hnr2
   have hf : (decide (lim.1 ≤ a) && decide (b ≤ lim.2)) = false := by
    rw [Bool.and_eq_false_iff, decide_eq_false_iff_not, decide_eq_false_iff_not]
    by_cases h : lim.1 ≤ a
    ·exact .inr (fun h' => hc ⟨h, h'⟩)
    ·exact .inl h
   rw [hf] at hl2
   repeat' (first|(with_reducible first|apply qA|apply qB|apply qC|apply qD|apply qE|apply qF)|(refine qL rfl (WF.of ?_) ?_; first|rfl|skip)|(simp (disch:=omega) only [go_sem, simprocAttr, qN, qO, qP, qQ, hd])|exact qM rfl rfl rfl|(refine qG rfl ?_)|(refine qK (hh) (by decide) ?_)|(refine qK (hl2) (by decide) ?_)|(refine qH rfl ?_)|(refine qI rfl ?_ ?_<;>intro hc<;>(try simp only [go_sem] at hc))|(refine qJ ?_ ?_<;>intro hc<;>(try simp only [hc])<;>(try simp only [go_sem] at hc)))
   all_goals (rw [← hnr2]; exact retS_of rfl rfl rfl)
 ·obtain rfl : n = 500 := by omega
  have hd : decide (((500 : Nat) : Int) < 500) = false := by decide
  have hnr2 := hnr
  rw [Nat.sub_self, hrsN] at hnr2
  repeat' (first|(with_reducible first|apply qA|apply qB|apply qC|apply qD|apply qE|apply qF)|(refine qL rfl (WF.of ?_) ?_; first|rfl|skip)|(simp (disch:=omega) only [go_sem, simprocAttr, qN, qO, qP, qQ, hd])|exact qM rfl rfl rfl|(refine qG rfl ?_)|(refine qH rfl ?_)|(refine qI rfl ?_ ?_<;>intro hc<;>(try simp only [go_sem] at hc))|(refine qJ ?_ ?_<;>intro hc<;>(try simp only [hc])<;>(try simp only [go_sem] at hc)))
  all_goals (rw [← hnr2]; exact retS_of rfl rfl rfl)
end Go.Dw.Seat
end
section
set_option linter.unusedSimpArgs false
set_option maxRecDepth 100000
namespace Go.Dw.Seat
open Go Go.Dw Go.Proofs Go.IntWalk
structure T3 where
 v0 : Nat
 v1 : Nat
 v2 : Nat
structure T3.ok (v : T3) : Prop where
 v0 : v.v0 < 256
 v1 : v.v1 < 256
 v2 : v.v2 < 256
def eT3 (v : T3) : List C := [.v (.int .u8 v.v0), .v (.int .u8 v.v1), .v (.int .u8 v.v2)]
attribute [go_sem] eT3
structure TripY where
 r0 : Nat
 r1 : Nat
 s0 : Nat
 s1 : Nat
 l : List T3
structure TripY.ok (x : TripY) : Prop where
 r0 : x.r0 < 256
 r1 : x.r1 < 256
 s0 : x.s0 < 256
 s1 : x.s1 < 256
 m : x.l.length ≤ maxLen
 l : ∀ v ∈ x.l, v.ok
theorem kdA : aftS 10 4 (60, 70) [⟨90, 100, 2⟩, ⟨50, 60, 5⟩] = [(80, 90), (60, 70)] := by decide
theorem kdH : hrsN 10 4 (60, 70) (90, 100) (50, 85) 500 0 = 1 := by decide +kernel
theorem dtDamp : DCall Tryd.prog 13 [] [] (bD true) [] := by
 have hst : ∀ s ∈ ([⟨90, 100, 2⟩, ⟨50, 60, 5⟩] : List DSt), s.ok := fun s hs => by
  simp only [List.mem_cons, List.not_mem_nil, or_false] at hs
  rcases hs with rfl | rfl
  ·exact ⟨⟨by decide, by decide, by decide⟩, by decide⟩
  ·exact ⟨⟨by decide, by decide, by decide⟩, by decide⟩
 have ha := dmAfter 10 4 (by decide) (60, 70) ⟨by decide, by decide, by decide⟩ [⟨90, 100, 2⟩, ⟨50, 60, 5⟩] (by decide) hst
 rw [kdA] at ha
 have hh := dmHours 10 4 (by decide) (60, 70) (90, 100) (50, 85) ⟨by decide, by decide, by decide⟩ ⟨by decide, by decide, by decide⟩ ⟨by decide, by decide, by decide⟩ (by decide)
 rw [kdH] at hh
 have p1 := dtSpan 60 70
 have p2 := dtSpan 90 100
 have p3 := dtSpan 50 60
 have p4 := dtSpan 50 85
 have p5 := dtSpan 80 90
 refine DCall.of Tryd.func13 sf13 hb13 (Nat.le_of_ble_eq_true rfl) (okRes_nil fun _ => rfl) ?_; simp only [s13, idxs, Nat.reduceAdd]
 repeat' (first|(with_reducible first|apply qA|apply qB|apply qC|apply qD|apply qE|apply qF)|(refine qL rfl (WF.of ?_) ?_; first|rfl|skip)|(simp (disch:=omega) only [go_sem, simprocAttr, qN, qO, qP, qQ])|exact qM rfl rfl rfl|(refine qG rfl ?_)|(refine qK (p1) (by decide) ?_)|(refine qK (p2) (by decide) ?_)|(refine qK (p3) (by decide) ?_)|(refine qK (p4) (by decide) ?_)|(refine qK (p5) (by decide) ?_)|(refine qH rfl ?_)|(refine qI rfl ?_ ?_<;>intro hc<;>(try simp only [go_sem] at hc))|(refine qJ ?_ ?_<;>intro hc<;>(try simp only [hc])<;>(try simp only [go_sem] at hc)))
 refine call_e (Ent.rel 12 rfl) ha rfl rfl (by decide) ?_
 simp (disch:=omega) only [go_sem,simprocAttr,qN,qO,qP,qQ]
 repeat' (first|(with_reducible first|apply qA|apply qB|apply qC|apply qD|apply qE|apply qF)|(refine qL rfl (WF.of ?_) ?_; first|rfl|skip)|(simp (disch:=omega) only [go_sem, simprocAttr, qN, qO, qP, qQ])|exact qM rfl rfl rfl|(refine qG rfl ?_)|(refine qK (p1) (by decide) ?_)|(refine qK (p2) (by decide) ?_)|(refine qK (p3) (by decide) ?_)|(refine qK (p4) (by decide) ?_)|(refine qK (p5) (by decide) ?_)|(refine qK (hh) (by decide) ?_)|(refine qH rfl ?_)|(refine qI rfl ?_ ?_<;>intro hc<;>(try simp only [go_sem] at hc))|(refine qJ ?_ ?_<;>intro hc<;>(try simp only [hc])<;>(try simp only [go_sem] at hc)))
end Go.Dw.Seat
end
