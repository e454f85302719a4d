/- Helpers of a proof. -/
import Derived.Test.YtmkkedldhafjfaaDoorW40
import Derived.Test.YtmkkedldhafjfaaDoorProg
set_option linter.unusedVariables false
set_option linter.unusedSimpArgs false
section
namespace Go.Dw.Seat
open Go Go.Dw Go.Proofs
def tab64 : List Value := [0, 1, 56, 2, 57, 49, 28, 3, 61, 58, 42, 50, 38, 29, 17, 4, 62, 47, 59, 36, 45, 43, 51, 22, 53, 39, 33, 30, 24, 18, 12, 5, 63, 55, 48, 27, 60, 41, 37, 16, 46, 35, 44, 21, 52, 32, 23, 11, 54, 26, 40, 15, 34, 20, 31, 10, 25, 14, 19, 9, 13, 8, 7, 6].map (fun n => Value.int .u8 n)
instance laysI : Lays := ⟨[(1, tab64)]⟩
theorem lays_l : (Lays.l : List (Nat × List Value)) = [(1, tab64)] := rfl
attribute [go_sem] lays_l
theorem el0 : elemI Tryd.prog 0 = none := by kernel_rfl
theorem ty1 : tyI Tryd.prog 1 = some ⟨false, 1, [.nilFunc], 8⟩ := by kernel_rfl
theorem el1 : elemI Tryd.prog 1 = none := by kernel_rfl
theorem ty2 : tyI Tryd.prog 2 = some ⟨false, 1, [(.int .i64 0)], 8⟩ := by kernel_rfl
theorem el2 : elemI Tryd.prog 2 = none := by kernel_rfl
theorem it2 : intI Tryd.prog 2 = some .i64 := by kernel_rfl
theorem ty3 : tyI Tryd.prog 3 = some ⟨false, 1, [(.int .i64 0)], 8⟩ := by kernel_rfl
theorem el3 : elemI Tryd.prog 3 = none := by kernel_rfl
theorem it3 : intI Tryd.prog 3 = some .i64 := by kernel_rfl
theorem ty4 : tyI Tryd.prog 4 = some ⟨false, 1, [(.bool false)], 1⟩ := by kernel_rfl
theorem el4 : elemI Tryd.prog 4 = none := by kernel_rfl
theorem bl4 : blI Tryd.prog 4 = true := by kernel_rfl
theorem ty5 : tyI Tryd.prog 5 = some ⟨false, 1, [(.int .u8 0)], 1⟩ := by kernel_rfl
theorem el5 : elemI Tryd.prog 5 = none := by kernel_rfl
theorem it5 : intI Tryd.prog 5 = some .u8 := by kernel_rfl
theorem ty6 : tyI Tryd.prog 6 = some ⟨false, 1, [(.int .u8 0)], 1⟩ := by kernel_rfl
theorem el6 : elemI Tryd.prog 6 = none := by kernel_rfl
theorem it6 : intI Tryd.prog 6 = some .u8 := by kernel_rfl
theorem ty7 : tyI Tryd.prog 7 = some ⟨true, 4, [(.int .i64 0), (.int .i64 0), (.bool false), (.int .u8 0)], 24⟩ := by kernel_rfl
theorem el7 : elemI Tryd.prog 7 = none := by kernel_rfl
theorem eq7 : eqTy Tryd.prog 7 = some (.st [(0, 1, .it), (1, 1, .it), (2, 1, .bl), (3, 1, .it)]) := by kernel_rfl
theorem pl7 : placesI Tryd.prog 7 = some [(0, 1), (1, 1), (2, 1), (3, 1)] := by kernel_rfl
theorem fi7_0 : fieldI Tryd.prog 7 0 = some (0, 1, false) := by kernel_rfl
theorem fi7_1 : fieldI Tryd.prog 7 1 = some (1, 1, false) := by kernel_rfl
theorem fi7_2 : fieldI Tryd.prog 7 2 = some (2, 1, false) := by kernel_rfl
theorem fi7_3 : fieldI Tryd.prog 7 3 = some (3, 1, false) := by kernel_rfl
theorem ty8 : tyI Tryd.prog 8 = some ⟨true, 4, [(.int .i64 0), (.int .i64 0), (.bool false), (.int .u8 0)], 24⟩ := by kernel_rfl
theorem el8 : elemI Tryd.prog 8 = none := by kernel_rfl
theorem eq8 : eqTy Tryd.prog 8 = some (.st [(0, 1, .it), (1, 1, .it), (2, 1, .bl), (3, 1, .it)]) := by kernel_rfl
theorem pl8 : placesI Tryd.prog 8 = some [(0, 1), (1, 1), (2, 1), (3, 1)] := by kernel_rfl
theorem fi8_0 : fieldI Tryd.prog 8 0 = some (0, 1, false) := by kernel_rfl
theorem fi8_1 : fieldI Tryd.prog 8 1 = some (1, 1, false) := by kernel_rfl
theorem fi8_2 : fieldI Tryd.prog 8 2 = some (2, 1, false) := by kernel_rfl
theorem fi8_3 : fieldI Tryd.prog 8 3 = some (3, 1, false) := by kernel_rfl
theorem ty9 : tyI Tryd.prog 9 = some ⟨false, 1, [(.string ⟨#[]⟩)], 16⟩ := by kernel_rfl
theorem el9 : elemI Tryd.prog 9 = none := by kernel_rfl
theorem ty10 : tyI Tryd.prog 10 = some ⟨false, 1, [(.string ⟨#[]⟩)], 16⟩ := by kernel_rfl
theorem el10 : elemI Tryd.prog 10 = none := by kernel_rfl
theorem ty11 : tyI Tryd.prog 11 = some ⟨false, 1, [(.string ⟨#[]⟩)], 16⟩ := by kernel_rfl
theorem el11 : elemI Tryd.prog 11 = none := by kernel_rfl
theorem ty12 : tyI Tryd.prog 12 = some ⟨false, 1, [(.int .u64 0)], 8⟩ := by kernel_rfl
theorem el12 : elemI Tryd.prog 12 = none := by kernel_rfl
theorem it12 : intI Tryd.prog 12 = some .u64 := by kernel_rfl
theorem ty13 : tyI Tryd.prog 13 = some ⟨true, 2, [(.string ⟨#[]⟩), (.int .u64 0)], 24⟩ := by kernel_rfl
theorem el13 : elemI Tryd.prog 13 = none := by kernel_rfl
theorem pl13 : placesI Tryd.prog 13 = some [(0, 1), (1, 1)] := by kernel_rfl
theorem fi13_0 : fieldI Tryd.prog 13 0 = some (0, 1, false) := by kernel_rfl
theorem fi13_1 : fieldI Tryd.prog 13 1 = some (1, 1, false) := by kernel_rfl
theorem ty14 : tyI Tryd.prog 14 = some ⟨true, 2, [(.string ⟨#[]⟩), (.int .u64 0)], 24⟩ := by kernel_rfl
theorem el14 : elemI Tryd.prog 14 = none := by kernel_rfl
theorem pl14 : placesI Tryd.prog 14 = some [(0, 1), (1, 1)] := by kernel_rfl
theorem fi14_0 : fieldI Tryd.prog 14 0 = some (0, 1, false) := by kernel_rfl
theorem fi14_1 : fieldI Tryd.prog 14 1 = some (1, 1, false) := by kernel_rfl
theorem ty15 : tyI Tryd.prog 15 = some ⟨false, 1, [(.pointer none)], 8⟩ := by kernel_rfl
theorem el15 : elemI Tryd.prog 15 = none := by kernel_rfl
theorem ty16 : tyI Tryd.prog 16 = some ⟨false, 1, [(.pointer none)], 8⟩ := by kernel_rfl
theorem el16 : elemI Tryd.prog 16 = none := by kernel_rfl
theorem ty17 : tyI Tryd.prog 17 = some ⟨false, 1, [(.pointer none)], 8⟩ := by kernel_rfl
theorem el17 : elemI Tryd.prog 17 = none := by kernel_rfl
theorem ty18 : tyI Tryd.prog 18 = some ⟨true, 1, [(.pointer none)], 8⟩ := by kernel_rfl
theorem el18 : elemI Tryd.prog 18 = none := by kernel_rfl
theorem pl18 : placesI Tryd.prog 18 = some [(0, 1)] := by kernel_rfl
theorem fi18_0 : fieldI Tryd.prog 18 0 = some (0, 1, false) := by kernel_rfl
theorem ty19 : tyI Tryd.prog 19 = some ⟨true, 1, [(.pointer none)], 8⟩ := by kernel_rfl
theorem el19 : elemI Tryd.prog 19 = none := by kernel_rfl
theorem pl19 : placesI Tryd.prog 19 = some [(0, 1)] := by kernel_rfl
theorem fi19_0 : fieldI Tryd.prog 19 0 = some (0, 1, false) := by kernel_rfl
theorem ty20 : tyI Tryd.prog 20 = some ⟨false, 1, [.nilIface], 16⟩ := by kernel_rfl
theorem el20 : elemI Tryd.prog 20 = none := by kernel_rfl
theorem ty21 : tyI Tryd.prog 21 = some ⟨false, 1, [(.int .i32 0)], 4⟩ := by kernel_rfl
theorem el21 : elemI Tryd.prog 21 = none := by kernel_rfl
theorem it21 : intI Tryd.prog 21 = some .i32 := by kernel_rfl
theorem ty22 : tyI Tryd.prog 22 = some ⟨true, 4, [(.int .i64 0), (.int .i64 0), (.int .i64 0), (.int .i64 0)], 32⟩ := by kernel_rfl
theorem el22 : elemI Tryd.prog 22 = none := by kernel_rfl
theorem eq22 : eqTy Tryd.prog 22 = some (.st [(0, 1, .it), (1, 1, .it), (2, 1, .it), (3, 1, .it)]) := by kernel_rfl
theorem pl22 : placesI Tryd.prog 22 = some [(0, 1), (1, 1), (2, 1), (3, 1)] := by kernel_rfl
theorem fi22_0 : fieldI Tryd.prog 22 0 = some (0, 1, false) := by kernel_rfl
theorem fi22_1 : fieldI Tryd.prog 22 1 = some (1, 1, false) := by kernel_rfl
theorem fi22_2 : fieldI Tryd.prog 22 2 = some (2, 1, false) := by kernel_rfl
theorem fi22_3 : fieldI Tryd.prog 22 3 = some (3, 1, false) := by kernel_rfl
theorem ty23 : tyI Tryd.prog 23 = some ⟨true, 4, [(.int .i64 0), (.int .i64 0), (.int .i64 0), (.int .i64 0)], 32⟩ := by kernel_rfl
theorem el23 : elemI Tryd.prog 23 = none := by kernel_rfl
theorem eq23 : eqTy Tryd.prog 23 = some (.st [(0, 1, .it), (1, 1, .it), (2, 1, .it), (3, 1, .it)]) := by kernel_rfl
theorem pl23 : placesI Tryd.prog 23 = some [(0, 1), (1, 1), (2, 1), (3, 1)] := by kernel_rfl
theorem fi23_0 : fieldI Tryd.prog 23 0 = some (0, 1, false) := by kernel_rfl
theorem fi23_1 : fieldI Tryd.prog 23 1 = some (1, 1, false) := by kernel_rfl
theorem fi23_2 : fieldI Tryd.prog 23 2 = some (2, 1, false) := by kernel_rfl
theorem fi23_3 : fieldI Tryd.prog 23 3 = some (3, 1, false) := by kernel_rfl
theorem ty24 : tyI Tryd.prog 24 = some ⟨false, 1, [(.slice none 0 0)], 24⟩ := by kernel_rfl
theorem el24 : elemI Tryd.prog 24 = some 3 := by kernel_rfl
theorem ty25 : tyI Tryd.prog 25 = some ⟨false, 1, [.nilFunc], 8⟩ := by kernel_rfl
theorem el25 : elemI Tryd.prog 25 = none := by kernel_rfl
theorem ty26 : tyI Tryd.prog 26 = some ⟨false, 1, [.nilFunc], 8⟩ := by kernel_rfl
theorem el26 : elemI Tryd.prog 26 = none := by kernel_rfl
theorem ty27 : tyI Tryd.prog 27 = some ⟨false, 1, [(.int .i64 0)], 8⟩ := by kernel_rfl
theorem el27 : elemI Tryd.prog 27 = none := by kernel_rfl
theorem it27 : intI Tryd.prog 27 = some .i64 := by kernel_rfl
theorem ty28 : tyI Tryd.prog 28 = some ⟨false, 1, [.nilFunc], 8⟩ := by kernel_rfl
theorem el28 : elemI Tryd.prog 28 = none := by kernel_rfl
theorem ty29 : tyI Tryd.prog 29 = some ⟨false, 1, [(.int .i64 0)], 8⟩ := by kernel_rfl
theorem el29 : elemI Tryd.prog 29 = none := by kernel_rfl
theorem it29 : intI Tryd.prog 29 = some .i64 := by kernel_rfl
theorem el30 : elemI Tryd.prog 30 = none := by kernel_rfl
theorem ty31 : tyI Tryd.prog 31 = some ⟨false, 1, [.nilFunc], 8⟩ := by kernel_rfl
theorem el31 : elemI Tryd.prog 31 = none := by kernel_rfl
theorem el32 : elemI Tryd.prog 32 = none := by kernel_rfl
theorem ty33 : tyI Tryd.prog 33 = some ⟨false, 1, [.nilFunc], 8⟩ := by kernel_rfl
theorem el33 : elemI Tryd.prog 33 = none := by kernel_rfl
theorem ty34 : tyI Tryd.prog 34 = some ⟨false, 1, [.nilFunc], 8⟩ := by kernel_rfl
theorem el34 : elemI Tryd.prog 34 = none := by kernel_rfl
theorem ty35 : tyI Tryd.prog 35 = some ⟨false, 1, [.nilFunc], 8⟩ := by kernel_rfl
theorem el35 : elemI Tryd.prog 35 = none := by kernel_rfl
theorem ty36 : tyI Tryd.prog 36 = some ⟨false, 1, [.nilFunc], 8⟩ := by kernel_rfl
theorem el36 : elemI Tryd.prog 36 = none := by kernel_rfl
theorem ty37 : tyI Tryd.prog 37 = some ⟨false, 1, [.nilFunc], 8⟩ := by kernel_rfl
theorem el37 : elemI Tryd.prog 37 = none := by kernel_rfl
theorem ty38 : tyI Tryd.prog 38 = some ⟨false, 1, [.nilFunc], 8⟩ := by kernel_rfl
theorem el38 : elemI Tryd.prog 38 = none := by kernel_rfl
theorem ty39 : tyI Tryd.prog 39 = some ⟨false, 1, [.nilFunc], 8⟩ := by kernel_rfl
theorem el39 : elemI Tryd.prog 39 = none := by kernel_rfl
theorem el40 : elemI Tryd.prog 40 = none := by kernel_rfl
theorem ty41 : tyI Tryd.prog 41 = some ⟨false, 1, [.nilFunc], 8⟩ := by kernel_rfl
theorem el41 : elemI Tryd.prog 41 = none := by kernel_rfl
theorem ty42 : tyI Tryd.prog 42 = some ⟨false, 1, [.nilFunc], 8⟩ := by kernel_rfl
theorem el42 : elemI Tryd.prog 42 = none := by kernel_rfl
theorem ty43 : tyI Tryd.prog 43 = some ⟨false, 1, [.nilFunc], 8⟩ := by kernel_rfl
theorem el43 : elemI Tryd.prog 43 = none := by kernel_rfl
theorem ty44 : tyI Tryd.prog 44 = some ⟨true, 2, [(.int .i64 0), (.int .i64 0)], 16⟩ := by kernel_rfl
theorem el44 : elemI Tryd.prog 44 = none := by kernel_rfl
theorem eq44 : eqTy Tryd.prog 44 = some (.st [(0, 1, .it), (1, 1, .it)]) := by kernel_rfl
theorem pl44 : placesI Tryd.prog 44 = some [(0, 1), (1, 1)] := by kernel_rfl
theorem fi44_0 : fieldI Tryd.prog 44 0 = some (0, 1, false) := by kernel_rfl
theorem fi44_1 : fieldI Tryd.prog 44 1 = some (1, 1, false) := by kernel_rfl
theorem ty45 : tyI Tryd.prog 45 = some ⟨true, 2, [(.int .i64 0), (.int .i64 0)], 16⟩ := by kernel_rfl
theorem el45 : elemI Tryd.prog 45 = none := by kernel_rfl
theorem eq45 : eqTy Tryd.prog 45 = some (.st [(0, 1, .it), (1, 1, .it)]) := by kernel_rfl
theorem pl45 : placesI Tryd.prog 45 = some [(0, 1), (1, 1)] := by kernel_rfl
theorem fi45_0 : fieldI Tryd.prog 45 0 = some (0, 1, false) := by kernel_rfl
theorem fi45_1 : fieldI Tryd.prog 45 1 = some (1, 1, false) := by kernel_rfl
theorem ty46 : tyI Tryd.prog 46 = some ⟨true, 6, [(.int .i64 0), (.int .i64 0), (.int .i64 0), (.int .i64 0), (.int .i64 0), (.int .i64 0)], 48⟩ := by kernel_rfl
theorem el46 : elemI Tryd.prog 46 = none := by kernel_rfl
theorem eq46 : eqTy Tryd.prog 46 = some (.st [(0, 2, (.st [(0, 1, .it), (1, 1, .it)])), (2, 2, (.st [(0, 1, .it), (1, 1, .it)])), (4, 1, .it), (5, 1, .it)]) := by kernel_rfl
theorem pl46 : placesI Tryd.prog 46 = some [(0, 2), (2, 2), (4, 1), (5, 1)] := by kernel_rfl
theorem fi46_0 : fieldI Tryd.prog 46 0 = some (0, 2, true) := by kernel_rfl
theorem fi46_1 : fieldI Tryd.prog 46 1 = some (2, 2, true) := by kernel_rfl
theorem fi46_2 : fieldI Tryd.prog 46 2 = some (4, 1, false) := by kernel_rfl
theorem fi46_3 : fieldI Tryd.prog 46 3 = some (5, 1, false) := by kernel_rfl
theorem ty47 : tyI Tryd.prog 47 = some ⟨true, 6, [(.int .i64 0), (.int .i64 0), (.int .i64 0), (.int .i64 0), (.int .i64 0), (.int .i64 0)], 48⟩ := by kernel_rfl
theorem el47 : elemI Tryd.prog 47 = none := by kernel_rfl
theorem eq47 : eqTy Tryd.prog 47 = some (.st [(0, 2, (.st [(0, 1, .it), (1, 1, .it)])), (2, 2, (.st [(0, 1, .it), (1, 1, .it)])), (4, 1, .it), (5, 1, .it)]) := by kernel_rfl
theorem pl47 : placesI Tryd.prog 47 = some [(0, 2), (2, 2), (4, 1), (5, 1)] := by kernel_rfl
theorem fi47_0 : fieldI Tryd.prog 47 0 = some (0, 2, true) := by kernel_rfl
theorem fi47_1 : fieldI Tryd.prog 47 1 = some (2, 2, true) := by kernel_rfl
theorem fi47_2 : fieldI Tryd.prog 47 2 = some (4, 1, false) := by kernel_rfl
theorem fi47_3 : fieldI Tryd.prog 47 3 = some (5, 1, false) := by kernel_rfl
theorem el48 : elemI Tryd.prog 48 = none := by kernel_rfl
theorem ty49 : tyI Tryd.prog 49 = some ⟨false, 1, [.nilFunc], 8⟩ := by kernel_rfl
theorem el49 : elemI Tryd.prog 49 = none := by kernel_rfl
theorem ty50 : tyI Tryd.prog 50 = some ⟨false, 1, [.nilFunc], 8⟩ := by kernel_rfl
theorem el50 : elemI Tryd.prog 50 = none := by kernel_rfl
theorem ty51 : tyI Tryd.prog 51 = some ⟨false, 1, [.nilFunc], 8⟩ := by kernel_rfl
theorem el51 : elemI Tryd.prog 51 = none := by kernel_rfl
theorem ty52 : tyI Tryd.prog 52 = some ⟨false, 1, [.nilFunc], 8⟩ := by kernel_rfl
theorem el52 : elemI Tryd.prog 52 = none := by kernel_rfl
theorem ty53 : tyI Tryd.prog 53 = some ⟨false, 1, [(.slice none 0 0)], 24⟩ := by kernel_rfl
theorem el53 : elemI Tryd.prog 53 = some 70 := by kernel_rfl
theorem ty54 : tyI Tryd.prog 54 = some ⟨false, 1, [(.slice none 0 0)], 24⟩ := by kernel_rfl
theorem el54 : elemI Tryd.prog 54 = some 142 := by kernel_rfl
theorem ty55 : tyI Tryd.prog 55 = some ⟨false, 1, [.nilFunc], 8⟩ := by kernel_rfl
theorem el55 : elemI Tryd.prog 55 = none := by kernel_rfl
theorem ty56 : tyI Tryd.prog 56 = some ⟨false, 1, [.nilFunc], 8⟩ := by kernel_rfl
theorem el56 : elemI Tryd.prog 56 = none := by kernel_rfl
theorem ty57 : tyI Tryd.prog 57 = some ⟨false, 1, [(.slice none 0 0)], 24⟩ := by kernel_rfl
theorem el57 : elemI Tryd.prog 57 = some 45 := by kernel_rfl
theorem el58 : elemI Tryd.prog 58 = none := by kernel_rfl
theorem ty59 : tyI Tryd.prog 59 = some ⟨false, 1, [.nilFunc], 8⟩ := by kernel_rfl
theorem el59 : elemI Tryd.prog 59 = none := by kernel_rfl
theorem ty60 : tyI Tryd.prog 60 = some ⟨false, 1, [.nilFunc], 8⟩ := by kernel_rfl
theorem el60 : elemI Tryd.prog 60 = none := by kernel_rfl
theorem ty61 : tyI Tryd.prog 61 = some ⟨false, 1, [.nilFunc], 8⟩ := by kernel_rfl
theorem el61 : elemI Tryd.prog 61 = none := by kernel_rfl
theorem ty62 : tyI Tryd.prog 62 = some ⟨false, 1, [.nilFunc], 8⟩ := by kernel_rfl
theorem el62 : elemI Tryd.prog 62 = none := by kernel_rfl
theorem ty63 : tyI Tryd.prog 63 = some ⟨false, 1, [.nilFunc], 8⟩ := by kernel_rfl
theorem el63 : elemI Tryd.prog 63 = none := by kernel_rfl
theorem ty64 : tyI Tryd.prog 64 = some ⟨false, 1, [.nilFunc], 8⟩ := by kernel_rfl
theorem el64 : elemI Tryd.prog 64 = none := by kernel_rfl
theorem ty65 : tyI Tryd.prog 65 = some ⟨false, 1, [.nilFunc], 8⟩ := by kernel_rfl
theorem el65 : elemI Tryd.prog 65 = none := by kernel_rfl
theorem el66 : elemI Tryd.prog 66 = none := by kernel_rfl
theorem ty67 : tyI Tryd.prog 67 = some ⟨false, 1, [.nilFunc], 8⟩ := by kernel_rfl
theorem el67 : elemI Tryd.prog 67 = none := by kernel_rfl
theorem ty68 : tyI Tryd.prog 68 = some ⟨false, 1, [.nilFunc], 8⟩ := by kernel_rfl
theorem el68 : elemI Tryd.prog 68 = none := by kernel_rfl
theorem ty69 : tyI Tryd.prog 69 = some ⟨true, 4, [(.int .i64 0), (.int .i64 0), (.int .i64 0), (.int .i64 0)], 32⟩ := by kernel_rfl
theorem el69 : elemI Tryd.prog 69 = none := by kernel_rfl
theorem eq69 : eqTy Tryd.prog 69 = some (.st [(0, 2, (.st [(0, 1, .it), (1, 1, .it)])), (2, 2, (.st [(0, 1, .it), (1, 1, .it)]))]) := by kernel_rfl
theorem pl69 : placesI Tryd.prog 69 = some [(0, 2), (2, 2)] := by kernel_rfl
theorem fi69_0 : fieldI Tryd.prog 69 0 = some (0, 2, true) := by kernel_rfl
theorem fi69_1 : fieldI Tryd.prog 69 1 = some (2, 2, true) := by kernel_rfl
theorem ty70 : tyI Tryd.prog 70 = some ⟨true, 4, [(.int .i64 0), (.int .i64 0), (.int .i64 0), (.int .i64 0)], 32⟩ := by kernel_rfl
theorem el70 : elemI Tryd.prog 70 = none := by kernel_rfl
theorem eq70 : eqTy Tryd.prog 70 = some (.st [(0, 2, (.st [(0, 1, .it), (1, 1, .it)])), (2, 2, (.st [(0, 1, .it), (1, 1, .it)]))]) := by kernel_rfl
theorem pl70 : placesI Tryd.prog 70 = some [(0, 2), (2, 2)] := by kernel_rfl
theorem fi70_0 : fieldI Tryd.prog 70 0 = some (0, 2, true) := by kernel_rfl
theorem fi70_1 : fieldI Tryd.prog 70 1 = some (2, 2, true) := by kernel_rfl
theorem el71 : elemI Tryd.prog 71 = none := by kernel_rfl
theorem ty72 : tyI Tryd.prog 72 = some ⟨false, 1, [.nilFunc], 8⟩ := by kernel_rfl
theorem el72 : elemI Tryd.prog 72 = none := by kernel_rfl
theorem ty73 : tyI Tryd.prog 73 = some ⟨false, 1, [.nilFunc], 8⟩ := by kernel_rfl
theorem el73 : elemI Tryd.prog 73 = none := by kernel_rfl
theorem ty74 : tyI Tryd.prog 74 = some ⟨false, 1, [.nilFunc], 8⟩ := by kernel_rfl
theorem el74 : elemI Tryd.prog 74 = none := by kernel_rfl
theorem ty75 : tyI Tryd.prog 75 = some ⟨false, 1, [.nilFunc], 8⟩ := by kernel_rfl
theorem el75 : elemI Tryd.prog 75 = none := by kernel_rfl
theorem ty76 : tyI Tryd.prog 76 = some ⟨false, 1, [.nilFunc], 8⟩ := by kernel_rfl
theorem el76 : elemI Tryd.prog 76 = none := by kernel_rfl
theorem el77 : elemI Tryd.prog 77 = none := by kernel_rfl
theorem ty78 : tyI Tryd.prog 78 = some ⟨false, 1, [.nilFunc], 8⟩ := by kernel_rfl
theorem el78 : elemI Tryd.prog 78 = none := by kernel_rfl
theorem ty79 : tyI Tryd.prog 79 = some ⟨false, 1, [(.slice none 0 0)], 24⟩ := by kernel_rfl
theorem el79 : elemI Tryd.prog 79 = some 4 := by kernel_rfl
theorem ty80 : tyI Tryd.prog 80 = some ⟨true, 4, [(.int .u8 0), (.int .u8 0), (.int .u8 0), (.int .u8 0)], 4⟩ := by kernel_rfl
theorem el80 : elemI Tryd.prog 80 = none := by kernel_rfl
theorem ar80 : arrI Tryd.prog 80 = some (4, 5) := by kernel_rfl
theorem pl80 : placesI Tryd.prog 80 = some [(0, 1), (1, 1), (2, 1), (3, 1)] := by kernel_rfl
theorem ty81 : tyI Tryd.prog 81 = some ⟨false, 1, [(.slice none 0 0)], 24⟩ := by kernel_rfl
theorem el81 : elemI Tryd.prog 81 = some 100 := by kernel_rfl
theorem ty82 : tyI Tryd.prog 82 = some ⟨true, 6, [(.int .u8 0), (.int .u8 0), (.int .u8 0), (.int .u8 0), (.int .u8 0), (.slice none 0 0)], 32⟩ := by kernel_rfl
theorem el82 : elemI Tryd.prog 82 = none := by kernel_rfl
theorem pl82 : placesI Tryd.prog 82 = some [(0, 4), (4, 1), (5, 1)] := by kernel_rfl
theorem fi82_0 : fieldI Tryd.prog 82 0 = some (0, 4, true) := by kernel_rfl
theorem fi82_1 : fieldI Tryd.prog 82 1 = some (4, 1, false) := by kernel_rfl
theorem fi82_2 : fieldI Tryd.prog 82 2 = some (5, 1, false) := by kernel_rfl
theorem ty83 : tyI Tryd.prog 83 = some ⟨true, 6, [(.int .u8 0), (.int .u8 0), (.int .u8 0), (.int .u8 0), (.int .u8 0), (.slice none 0 0)], 32⟩ := by kernel_rfl
theorem el83 : elemI Tryd.prog 83 = none := by kernel_rfl
theorem pl83 : placesI Tryd.prog 83 = some [(0, 4), (4, 1), (5, 1)] := by kernel_rfl
theorem fi83_0 : fieldI Tryd.prog 83 0 = some (0, 4, true) := by kernel_rfl
theorem fi83_1 : fieldI Tryd.prog 83 1 = some (4, 1, false) := by kernel_rfl
theorem fi83_2 : fieldI Tryd.prog 83 2 = some (5, 1, false) := by kernel_rfl
theorem el84 : elemI Tryd.prog 84 = none := by kernel_rfl
theorem ty85 : tyI Tryd.prog 85 = some ⟨false, 1, [.nilFunc], 8⟩ := by kernel_rfl
theorem el85 : elemI Tryd.prog 85 = none := by kernel_rfl
theorem ty86 : tyI Tryd.prog 86 = some ⟨false, 1, [.nilFunc], 8⟩ := by kernel_rfl
theorem el86 : elemI Tryd.prog 86 = none := by kernel_rfl
theorem ty87 : tyI Tryd.prog 87 = some ⟨false, 1, [.nilFunc], 8⟩ := by kernel_rfl
theorem el87 : elemI Tryd.prog 87 = none := by kernel_rfl
theorem ty88 : tyI Tryd.prog 88 = some ⟨false, 1, [(.slice none 0 0)], 24⟩ := by kernel_rfl
theorem el88 : elemI Tryd.prog 88 = some 91 := by kernel_rfl
theorem ty89 : tyI Tryd.prog 89 = some ⟨true, 2, [(.int .i64 0), (.int .i64 0)], 16⟩ := by kernel_rfl
theorem el89 : elemI Tryd.prog 89 = none := by kernel_rfl
theorem ar89 : arrI Tryd.prog 89 = some (2, 3) := by kernel_rfl
theorem pl89 : placesI Tryd.prog 89 = some [(0, 1), (1, 1)] := by kernel_rfl
theorem ty90 : tyI Tryd.prog 90 = some ⟨true, 2, [(.int .i64 0), (.int .i64 0)], 16⟩ := by kernel_rfl
theorem el90 : elemI Tryd.prog 90 = none := by kernel_rfl
theorem ar90 : arrI Tryd.prog 90 = some (2, 29) := by kernel_rfl
theorem pl90 : placesI Tryd.prog 90 = some [(0, 1), (1, 1)] := by kernel_rfl
theorem ty91 : tyI Tryd.prog 91 = some ⟨false, 1, [(.int .u16 0)], 2⟩ := by kernel_rfl
theorem el91 : elemI Tryd.prog 91 = none := by kernel_rfl
theorem it91 : intI Tryd.prog 91 = some .u16 := by kernel_rfl
theorem ty92 : tyI Tryd.prog 92 = some ⟨false, 1, [.nilFunc], 8⟩ := by kernel_rfl
theorem el92 : elemI Tryd.prog 92 = none := by kernel_rfl
theorem ty93 : tyI Tryd.prog 93 = some ⟨false, 1, [(.slice none 0 0)], 24⟩ := by kernel_rfl
theorem el93 : elemI Tryd.prog 93 = some 5 := by kernel_rfl
theorem ty94 : tyI Tryd.prog 94 = some ⟨true, 3, [(.int .u8 0), (.int .u8 0), (.int .u8 0)], 3⟩ := by kernel_rfl
theorem el94 : elemI Tryd.prog 94 = none := by kernel_rfl
theorem ar94 : arrI Tryd.prog 94 = some (3, 5) := by kernel_rfl
theorem pl94 : placesI Tryd.prog 94 = some [(0, 1), (1, 1), (2, 1)] := by kernel_rfl
theorem ty95 : tyI Tryd.prog 95 = some ⟨false, 1, [(.map none)], 8⟩ := by kernel_rfl
theorem el95 : elemI Tryd.prog 95 = none := by kernel_rfl
theorem mp95 : mapI Tryd.prog 95 = some ((.c (.v (.bool false))), (.int .i64)) := by kernel_rfl
theorem ty96 : tyI Tryd.prog 96 = some ⟨false, 1, [(.int .u64 0)], 8⟩ := by kernel_rfl
theorem el96 : elemI Tryd.prog 96 = none := by kernel_rfl
theorem it96 : intI Tryd.prog 96 = some .u64 := by kernel_rfl
theorem ty97 : tyI Tryd.prog 97 = some ⟨false, 1, [.nilFunc], 8⟩ := by kernel_rfl
theorem el97 : elemI Tryd.prog 97 = none := by kernel_rfl
theorem ty98 : tyI Tryd.prog 98 = some ⟨false, 1, [.nilFunc], 8⟩ := by kernel_rfl
theorem el98 : elemI Tryd.prog 98 = none := by kernel_rfl
theorem ty99 : tyI Tryd.prog 99 = some ⟨true, 6, [(.int .u16 0), (.int .u16 0), (.int .u16 0), (.int .u16 0), (.int .u16 0), (.int .u16 0)], 12⟩ := by kernel_rfl
theorem el99 : elemI Tryd.prog 99 = none := by kernel_rfl
theorem ar99 : arrI Tryd.prog 99 = some (6, 91) := by kernel_rfl
theorem pl99 : placesI Tryd.prog 99 = some [(0, 1), (1, 1), (2, 1), (3, 1), (4, 1), (5, 1)] := by kernel_rfl
theorem ty100 : tyI Tryd.prog 100 = some ⟨true, 2, [(.int .u8 0), (.int .u8 0)], 2⟩ := by kernel_rfl
theorem el100 : elemI Tryd.prog 100 = none := by kernel_rfl
theorem ar100 : arrI Tryd.prog 100 = some (2, 5) := by kernel_rfl
theorem pl100 : placesI Tryd.prog 100 = some [(0, 1), (1, 1)] := by kernel_rfl
theorem ty101 : tyI Tryd.prog 101 = some ⟨true, 3, [(.int .i64 0), (.int .i64 0), (.int .i64 0)], 24⟩ := by kernel_rfl
theorem el101 : elemI Tryd.prog 101 = none := by kernel_rfl
theorem ar101 : arrI Tryd.prog 101 = some (3, 3) := by kernel_rfl
theorem pl101 : placesI Tryd.prog 101 = some [(0, 1), (1, 1), (2, 1)] := by kernel_rfl
theorem ty102 : tyI Tryd.prog 102 = some ⟨false, 1, [.nilFunc], 8⟩ := by kernel_rfl
theorem el102 : elemI Tryd.prog 102 = none := by kernel_rfl
theorem ty103 : tyI Tryd.prog 103 = some ⟨false, 1, [(.slice none 0 0)], 24⟩ := by kernel_rfl
theorem el103 : elemI Tryd.prog 103 = some 80 := by kernel_rfl
theorem ty104 : tyI Tryd.prog 104 = some ⟨true, 2, [(.slice none 0 0), (.slice none 0 0)], 48⟩ := by kernel_rfl
theorem el104 : elemI Tryd.prog 104 = none := by kernel_rfl
theorem pl104 : placesI Tryd.prog 104 = some [(0, 1), (1, 1)] := by kernel_rfl
theorem fi104_0 : fieldI Tryd.prog 104 0 = some (0, 1, false) := by kernel_rfl
theorem fi104_1 : fieldI Tryd.prog 104 1 = some (1, 1, false) := by kernel_rfl
theorem ty105 : tyI Tryd.prog 105 = some ⟨true, 2, [(.slice none 0 0), (.slice none 0 0)], 48⟩ := by kernel_rfl
theorem el105 : elemI Tryd.prog 105 = none := by kernel_rfl
theorem pl105 : placesI Tryd.prog 105 = some [(0, 1), (1, 1)] := by kernel_rfl
theorem fi105_0 : fieldI Tryd.prog 105 0 = some (0, 1, false) := by kernel_rfl
theorem fi105_1 : fieldI Tryd.prog 105 1 = some (1, 1, false) := by kernel_rfl
theorem el106 : elemI Tryd.prog 106 = none := by kernel_rfl
theorem ty107 : tyI Tryd.prog 107 = some ⟨false, 1, [.nilFunc], 8⟩ := by kernel_rfl
theorem el107 : elemI Tryd.prog 107 = none := by kernel_rfl
theorem ty108 : tyI Tryd.prog 108 = some ⟨false, 1, [.nilFunc], 8⟩ := by kernel_rfl
theorem el108 : elemI Tryd.prog 108 = none := by kernel_rfl
theorem el109 : elemI Tryd.prog 109 = none := by kernel_rfl
theorem ty110 : tyI Tryd.prog 110 = some ⟨false, 1, [.nilFunc], 8⟩ := by kernel_rfl
theorem el110 : elemI Tryd.prog 110 = none := by kernel_rfl
theorem ty111 : tyI Tryd.prog 111 = some ⟨false, 1, [.nilFunc], 8⟩ := by kernel_rfl
theorem el111 : elemI Tryd.prog 111 = none := by kernel_rfl
theorem el112 : elemI Tryd.prog 112 = none := by kernel_rfl
theorem ty113 : tyI Tryd.prog 113 = some ⟨false, 1, [.nilFunc], 8⟩ := by kernel_rfl
theorem el113 : elemI Tryd.prog 113 = none := by kernel_rfl
theorem ty114 : tyI Tryd.prog 114 = some ⟨false, 1, [.nilFunc], 8⟩ := by kernel_rfl
theorem el114 : elemI Tryd.prog 114 = none := by kernel_rfl
theorem ty115 : tyI Tryd.prog 115 = some ⟨false, 1, [(.pointer none)], 8⟩ := by kernel_rfl
theorem el115 : elemI Tryd.prog 115 = none := by kernel_rfl
theorem ty116 : tyI Tryd.prog 116 = some ⟨false, 1, [.nilFunc], 8⟩ := by kernel_rfl
theorem el116 : elemI Tryd.prog 116 = none := by kernel_rfl
theorem ty117 : tyI Tryd.prog 117 = some ⟨false, 1, [.nilFunc], 8⟩ := by kernel_rfl
theorem el117 : elemI Tryd.prog 117 = none := by kernel_rfl
theorem ty118 : tyI Tryd.prog 118 = some ⟨false, 1, [.nilFunc], 8⟩ := by kernel_rfl
theorem el118 : elemI Tryd.prog 118 = none := by kernel_rfl
theorem ty119 : tyI Tryd.prog 119 = some ⟨false, 1, [(.int .i64 0)], 8⟩ := by kernel_rfl
theorem el119 : elemI Tryd.prog 119 = none := by kernel_rfl
theorem it119 : intI Tryd.prog 119 = some .i64 := by kernel_rfl
theorem ty120 : tyI Tryd.prog 120 = some ⟨true, 2, [(.int .i64 0), (.int .i64 0)], 16⟩ := by kernel_rfl
theorem el120 : elemI Tryd.prog 120 = none := by kernel_rfl
theorem eq120 : eqTy Tryd.prog 120 = some (.st [(0, 1, .it), (1, 1, .it)]) := by kernel_rfl
theorem pl120 : placesI Tryd.prog 120 = some [(0, 1), (1, 1)] := by kernel_rfl
theorem fi120_0 : fieldI Tryd.prog 120 0 = some (0, 1, false) := by kernel_rfl
theorem fi120_1 : fieldI Tryd.prog 120 1 = some (1, 1, false) := by kernel_rfl
theorem ty121 : tyI Tryd.prog 121 = some ⟨true, 2, [(.int .i64 0), (.int .i64 0)], 16⟩ := by kernel_rfl
theorem el121 : elemI Tryd.prog 121 = none := by kernel_rfl
theorem eq121 : eqTy Tryd.prog 121 = some (.st [(0, 1, .it), (1, 1, .it)]) := by kernel_rfl
theorem pl121 : placesI Tryd.prog 121 = some [(0, 1), (1, 1)] := by kernel_rfl
theorem fi121_0 : fieldI Tryd.prog 121 0 = some (0, 1, false) := by kernel_rfl
theorem fi121_1 : fieldI Tryd.prog 121 1 = some (1, 1, false) := by kernel_rfl
theorem ty122 : tyI Tryd.prog 122 = some ⟨true, 10, [(.int .i64 0), (.int .i64 0), (.int .i64 0), (.int .i64 0), (.int .i64 0), (.int .i64 0), (.int .i64 0), (.int .i64 0), (.int .i64 0), (.int .i64 0)], 80⟩ := by kernel_rfl
theorem el122 : elemI Tryd.prog 122 = none := by kernel_rfl
theorem eq122 : eqTy Tryd.prog 122 = some (.st [(0, 4, (.st [(0, 1, .it), (1, 1, .it), (2, 1, .it), (3, 1, .it)])), (4, 1, .it), (5, 1, .it), (6, 2, (.st [(0, 1, .it), (1, 1, .it)])), (8, 2, (.st [(0, 1, .it), (1, 1, .it)]))]) := by kernel_rfl
theorem pl122 : placesI Tryd.prog 122 = some [(0, 4), (4, 1), (5, 1), (6, 2), (8, 2)] := by kernel_rfl
theorem fi122_0 : fieldI Tryd.prog 122 0 = some (0, 4, true) := by kernel_rfl
theorem fi122_1 : fieldI Tryd.prog 122 1 = some (4, 1, false) := by kernel_rfl
theorem fi122_2 : fieldI Tryd.prog 122 2 = some (5, 1, false) := by kernel_rfl
theorem fi122_3 : fieldI Tryd.prog 122 3 = some (6, 2, true) := by kernel_rfl
theorem fi122_4 : fieldI Tryd.prog 122 4 = some (8, 2, true) := by kernel_rfl
theorem ty123 : tyI Tryd.prog 123 = some ⟨true, 10, [(.int .i64 0), (.int .i64 0), (.int .i64 0), (.int .i64 0), (.int .i64 0), (.int .i64 0), (.int .i64 0), (.int .i64 0), (.int .i64 0), (.int .i64 0)], 80⟩ := by kernel_rfl
theorem el123 : elemI Tryd.prog 123 = none := by kernel_rfl
theorem eq123 : eqTy Tryd.prog 123 = some (.st [(0, 4, (.st [(0, 1, .it), (1, 1, .it), (2, 1, .it), (3, 1, .it)])), (4, 1, .it), (5, 1, .it), (6, 2, (.st [(0, 1, .it), (1, 1, .it)])), (8, 2, (.st [(0, 1, .it), (1, 1, .it)]))]) := by kernel_rfl
theorem pl123 : placesI Tryd.prog 123 = some [(0, 4), (4, 1), (5, 1), (6, 2), (8, 2)] := by kernel_rfl
theorem fi123_0 : fieldI Tryd.prog 123 0 = some (0, 4, true) := by kernel_rfl
theorem fi123_1 : fieldI Tryd.prog 123 1 = some (4, 1, false) := by kernel_rfl
theorem fi123_2 : fieldI Tryd.prog 123 2 = some (5, 1, false) := by kernel_rfl
theorem fi123_3 : fieldI Tryd.prog 123 3 = some (6, 2, true) := by kernel_rfl
theorem fi123_4 : fieldI Tryd.prog 123 4 = some (8, 2, true) := by kernel_rfl
theorem ty124 : tyI Tryd.prog 124 = some ⟨false, 1, [.nilFunc], 8⟩ := by kernel_rfl
theorem el124 : elemI Tryd.prog 124 = none := by kernel_rfl
theorem ty125 : tyI Tryd.prog 125 = some ⟨false, 1, [.nilFunc], 8⟩ := by kernel_rfl
theorem el125 : elemI Tryd.prog 125 = none := by kernel_rfl
theorem ty126 : tyI Tryd.prog 126 = some ⟨false, 1, [.nilFunc], 8⟩ := by kernel_rfl
theorem el126 : elemI Tryd.prog 126 = none := by kernel_rfl
theorem ty127 : tyI Tryd.prog 127 = some ⟨false, 1, [.nilFunc], 8⟩ := by kernel_rfl
theorem el127 : elemI Tryd.prog 127 = none := by kernel_rfl
theorem ty128 : tyI Tryd.prog 128 = some ⟨false, 1, [.nilFunc], 8⟩ := by kernel_rfl
theorem el128 : elemI Tryd.prog 128 = none := by kernel_rfl
theorem ty129 : tyI Tryd.prog 129 = some ⟨false, 1, [.nilFunc], 8⟩ := by kernel_rfl
theorem el129 : elemI Tryd.prog 129 = none := by kernel_rfl
theorem ty130 : tyI Tryd.prog 130 = some ⟨false, 1, [.nilFunc], 8⟩ := by kernel_rfl
theorem el130 : elemI Tryd.prog 130 = none := by kernel_rfl
theorem ty131 : tyI Tryd.prog 131 = some ⟨false, 1, [.nilFunc], 8⟩ := by kernel_rfl
theorem el131 : elemI Tryd.prog 131 = none := by kernel_rfl
theorem ty132 : tyI Tryd.prog 132 = some ⟨false, 1, [.nilFunc], 8⟩ := by kernel_rfl
theorem el132 : elemI Tryd.prog 132 = none := by kernel_rfl
theorem ty133 : tyI Tryd.prog 133 = some ⟨false, 1, [.nilFunc], 8⟩ := by kernel_rfl
theorem el133 : elemI Tryd.prog 133 = none := by kernel_rfl
theorem ty134 : tyI Tryd.prog 134 = some ⟨false, 1, [.nilFunc], 8⟩ := by kernel_rfl
theorem el134 : elemI Tryd.prog 134 = none := by kernel_rfl
theorem ty135 : tyI Tryd.prog 135 = some ⟨false, 1, [.nilFunc], 8⟩ := by kernel_rfl
theorem el135 : elemI Tryd.prog 135 = none := by kernel_rfl
theorem ty136 : tyI Tryd.prog 136 = some ⟨false, 1, [.nilFunc], 8⟩ := by kernel_rfl
theorem el136 : elemI Tryd.prog 136 = none := by kernel_rfl
theorem ty137 : tyI Tryd.prog 137 = some ⟨true, 2, [(.slice none 0 0), (.int .i64 0)], 32⟩ := by kernel_rfl
theorem el137 : elemI Tryd.prog 137 = none := by kernel_rfl
theorem pl137 : placesI Tryd.prog 137 = some [(0, 1), (1, 1)] := by kernel_rfl
theorem fi137_0 : fieldI Tryd.prog 137 0 = some (0, 1, false) := by kernel_rfl
theorem fi137_1 : fieldI Tryd.prog 137 1 = some (1, 1, false) := by kernel_rfl
theorem ty138 : tyI Tryd.prog 138 = some ⟨true, 2, [(.slice none 0 0), (.int .i64 0)], 32⟩ := by kernel_rfl
theorem el138 : elemI Tryd.prog 138 = none := by kernel_rfl
theorem pl138 : placesI Tryd.prog 138 = some [(0, 1), (1, 1)] := by kernel_rfl
theorem fi138_0 : fieldI Tryd.prog 138 0 = some (0, 1, false) := by kernel_rfl
theorem fi138_1 : fieldI Tryd.prog 138 1 = some (1, 1, false) := by kernel_rfl
theorem el139 : elemI Tryd.prog 139 = none := by kernel_rfl
theorem ty140 : tyI Tryd.prog 140 = some ⟨false, 1, [.nilFunc], 8⟩ := by kernel_rfl
theorem el140 : elemI Tryd.prog 140 = none := by kernel_rfl
theorem ty141 : tyI Tryd.prog 141 = some ⟨true, 2, [(.int .i64 0), (.int .i64 0)], 16⟩ := by kernel_rfl
theorem el141 : elemI Tryd.prog 141 = none := by kernel_rfl
theorem eq141 : eqTy Tryd.prog 141 = some (.st [(0, 1, .it), (1, 1, .it)]) := by kernel_rfl
theorem pl141 : placesI Tryd.prog 141 = some [(0, 1), (1, 1)] := by kernel_rfl
theorem fi141_0 : fieldI Tryd.prog 141 0 = some (0, 1, false) := by kernel_rfl
theorem fi141_1 : fieldI Tryd.prog 141 1 = some (1, 1, false) := by kernel_rfl
theorem ty142 : tyI Tryd.prog 142 = some ⟨true, 2, [(.int .i64 0), (.int .i64 0)], 16⟩ := by kernel_rfl
theorem el142 : elemI Tryd.prog 142 = none := by kernel_rfl
theorem eq142 : eqTy Tryd.prog 142 = some (.st [(0, 1, .it), (1, 1, .it)]) := by kernel_rfl
theorem pl142 : placesI Tryd.prog 142 = some [(0, 1), (1, 1)] := by kernel_rfl
theorem fi142_0 : fieldI Tryd.prog 142 0 = some (0, 1, false) := by kernel_rfl
theorem fi142_1 : fieldI Tryd.prog 142 1 = some (1, 1, false) := by kernel_rfl
theorem el143 : elemI Tryd.prog 143 = none := by kernel_rfl
theorem ty144 : tyI Tryd.prog 144 = some ⟨false, 1, [.nilFunc], 8⟩ := by kernel_rfl
theorem el144 : elemI Tryd.prog 144 = none := by kernel_rfl
theorem ty145 : tyI Tryd.prog 145 = some ⟨false, 1, [.nilFunc], 8⟩ := by kernel_rfl
theorem el145 : elemI Tryd.prog 145 = none := by kernel_rfl
theorem ty146 : tyI Tryd.prog 146 = some ⟨false, 1, [.nilFunc], 8⟩ := by kernel_rfl
theorem el146 : elemI Tryd.prog 146 = none := by kernel_rfl
theorem ty147 : tyI Tryd.prog 147 = some ⟨false, 1, [.nilFunc], 8⟩ := by kernel_rfl
theorem el147 : elemI Tryd.prog 147 = none := by kernel_rfl
theorem ty148 : tyI Tryd.prog 148 = some ⟨false, 1, [.nilFunc], 8⟩ := by kernel_rfl
theorem el148 : elemI Tryd.prog 148 = none := by kernel_rfl
theorem ty149 : tyI Tryd.prog 149 = some ⟨false, 1, [.nilFunc], 8⟩ := by kernel_rfl
theorem el149 : elemI Tryd.prog 149 = none := by kernel_rfl
theorem ty150 : tyI Tryd.prog 150 = some ⟨false, 1, [.nilFunc], 8⟩ := by kernel_rfl
theorem el150 : elemI Tryd.prog 150 = none := by kernel_rfl
theorem ty151 : tyI Tryd.prog 151 = some ⟨false, 1, [(.pointer none)], 8⟩ := by kernel_rfl
theorem el151 : elemI Tryd.prog 151 = none := by kernel_rfl
theorem el152 : elemI Tryd.prog 152 = none := by kernel_rfl
theorem ty153 : tyI Tryd.prog 153 = some ⟨false, 1, [.nilFunc], 8⟩ := by kernel_rfl
theorem el153 : elemI Tryd.prog 153 = none := by kernel_rfl
theorem ty154 : tyI Tryd.prog 154 = some ⟨false, 1, [(.int .u64 0)], 8⟩ := by kernel_rfl
theorem el154 : elemI Tryd.prog 154 = none := by kernel_rfl
theorem it154 : intI Tryd.prog 154 = some .u64 := by kernel_rfl
theorem ty155 : tyI Tryd.prog 155 = some ⟨false, 1, [.nilFunc], 8⟩ := by kernel_rfl
theorem el155 : elemI Tryd.prog 155 = none := by kernel_rfl
theorem ty156 : tyI Tryd.prog 156 = some ⟨false, 1, [.nilFunc], 8⟩ := by kernel_rfl
theorem el156 : elemI Tryd.prog 156 = none := by kernel_rfl
theorem ty157 : tyI Tryd.prog 157 = some ⟨false, 1, [.nilFunc], 8⟩ := by kernel_rfl
theorem el157 : elemI Tryd.prog 157 = none := by kernel_rfl
theorem ty158 : tyI Tryd.prog 158 = some ⟨false, 1, [.nilFunc], 8⟩ := by kernel_rfl
theorem el158 : elemI Tryd.prog 158 = none := by kernel_rfl
theorem ty159 : tyI Tryd.prog 159 = some ⟨false, 1, [.nilFunc], 8⟩ := by kernel_rfl
theorem el159 : elemI Tryd.prog 159 = none := by kernel_rfl
theorem ty160 : tyI Tryd.prog 160 = some ⟨false, 1, [.nilFunc], 8⟩ := by kernel_rfl
theorem el160 : elemI Tryd.prog 160 = none := by kernel_rfl
theorem ty161 : tyI Tryd.prog 161 = some ⟨false, 1, [.nilFunc], 8⟩ := by kernel_rfl
theorem el161 : elemI Tryd.prog 161 = none := by kernel_rfl
theorem ty162 : tyI Tryd.prog 162 = some ⟨false, 1, [.nilFunc], 8⟩ := by kernel_rfl
theorem el162 : elemI Tryd.prog 162 = none := by kernel_rfl
theorem ty163 : tyI Tryd.prog 163 = some ⟨false, 1, [.nilFunc], 8⟩ := by kernel_rfl
theorem el163 : elemI Tryd.prog 163 = none := by kernel_rfl
theorem ty164 : tyI Tryd.prog 164 = some ⟨false, 1, [.nilFunc], 8⟩ := by kernel_rfl
theorem el164 : elemI Tryd.prog 164 = none := by kernel_rfl
theorem ty165 : tyI Tryd.prog 165 = some ⟨false, 1, [.nilFunc], 8⟩ := by kernel_rfl
theorem el165 : elemI Tryd.prog 165 = none := by kernel_rfl
theorem ty166 : tyI Tryd.prog 166 = some ⟨false, 1, [.nilFunc], 8⟩ := by kernel_rfl
theorem el166 : elemI Tryd.prog 166 = none := by kernel_rfl
theorem ty167 : tyI Tryd.prog 167 = some ⟨false, 1, [.nilFunc], 8⟩ := by kernel_rfl
theorem el167 : elemI Tryd.prog 167 = none := by kernel_rfl
theorem ty168 : tyI Tryd.prog 168 = some ⟨false, 1, [.nilFunc], 8⟩ := by kernel_rfl
theorem el168 : elemI Tryd.prog 168 = none := by kernel_rfl
theorem ty169 : tyI Tryd.prog 169 = some ⟨false, 1, [.nilFunc], 8⟩ := by kernel_rfl
theorem el169 : elemI Tryd.prog 169 = none := by kernel_rfl
theorem ty170 : tyI Tryd.prog 170 = some ⟨false, 1, [(.map none)], 8⟩ := by kernel_rfl
theorem el170 : elemI Tryd.prog 170 = none := by kernel_rfl
theorem mp170 : mapI Tryd.prog 170 = some ((.c (.v (.bool false))), (.int .u64)) := by kernel_rfl
theorem ty171 : tyI Tryd.prog 171 = some ⟨true, 3, [(.slice none 0 0), (.int .i64 0), (.map none)], 40⟩ := by kernel_rfl
theorem el171 : elemI Tryd.prog 171 = none := by kernel_rfl
theorem pl171 : placesI Tryd.prog 171 = some [(0, 1), (1, 1), (2, 1)] := by kernel_rfl
theorem fi171_0 : fieldI Tryd.prog 171 0 = some (0, 1, false) := by kernel_rfl
theorem fi171_1 : fieldI Tryd.prog 171 1 = some (1, 1, false) := by kernel_rfl
theorem fi171_2 : fieldI Tryd.prog 171 2 = some (2, 1, false) := by kernel_rfl
theorem ty172 : tyI Tryd.prog 172 = some ⟨true, 3, [(.slice none 0 0), (.int .i64 0), (.map none)], 40⟩ := by kernel_rfl
theorem el172 : elemI Tryd.prog 172 = none := by kernel_rfl
theorem pl172 : placesI Tryd.prog 172 = some [(0, 1), (1, 1), (2, 1)] := by kernel_rfl
theorem fi172_0 : fieldI Tryd.prog 172 0 = some (0, 1, false) := by kernel_rfl
theorem fi172_1 : fieldI Tryd.prog 172 1 = some (1, 1, false) := by kernel_rfl
theorem fi172_2 : fieldI Tryd.prog 172 2 = some (2, 1, false) := by kernel_rfl
theorem el173 : elemI Tryd.prog 173 = none := by kernel_rfl
theorem ty174 : tyI Tryd.prog 174 = some ⟨false, 1, [.nilFunc], 8⟩ := by kernel_rfl
theorem el174 : elemI Tryd.prog 174 = none := by kernel_rfl
theorem ty175 : tyI Tryd.prog 175 = some ⟨false, 1, [.nilFunc], 8⟩ := by kernel_rfl
theorem el175 : elemI Tryd.prog 175 = none := by kernel_rfl
theorem ty176 : tyI Tryd.prog 176 = some ⟨false, 1, [.nilFunc], 8⟩ := by kernel_rfl
theorem el176 : elemI Tryd.prog 176 = none := by kernel_rfl
theorem ty177 : tyI Tryd.prog 177 = some ⟨false, 1, [.nilFunc], 8⟩ := by kernel_rfl
theorem el177 : elemI Tryd.prog 177 = none := by kernel_rfl
theorem ty178 : tyI Tryd.prog 178 = some ⟨false, 1, [.nilFunc], 8⟩ := by kernel_rfl
theorem el178 : elemI Tryd.prog 178 = none := by kernel_rfl
theorem ty179 : tyI Tryd.prog 179 = some ⟨false, 1, [.nilFunc], 8⟩ := by kernel_rfl
theorem el179 : elemI Tryd.prog 179 = none := by kernel_rfl
theorem ty180 : tyI Tryd.prog 180 = some ⟨false, 1, [.nilFunc], 8⟩ := by kernel_rfl
theorem el180 : elemI Tryd.prog 180 = none := by kernel_rfl
theorem ty181 : tyI Tryd.prog 181 = some ⟨false, 1, [.nilFunc], 8⟩ := by kernel_rfl
theorem el181 : elemI Tryd.prog 181 = none := by kernel_rfl
theorem ty182 : tyI Tryd.prog 182 = some ⟨false, 1, [.nilFunc], 8⟩ := by kernel_rfl
theorem el182 : elemI Tryd.prog 182 = none := by kernel_rfl
theorem ty183 : tyI Tryd.prog 183 = some ⟨false, 1, [(.int .u32 0)], 4⟩ := by kernel_rfl
theorem el183 : elemI Tryd.prog 183 = none := by kernel_rfl
theorem it183 : intI Tryd.prog 183 = some .u32 := by kernel_rfl
theorem ty184 : tyI Tryd.prog 184 = some ⟨false, 1, [.nilFunc], 8⟩ := by kernel_rfl
theorem el184 : elemI Tryd.prog 184 = none := by kernel_rfl
theorem ty185 : tyI Tryd.prog 185 = some ⟨false, 1, [(.int .u64 0)], 8⟩ := by kernel_rfl
theorem el185 : elemI Tryd.prog 185 = none := by kernel_rfl
theorem it185 : intI Tryd.prog 185 = some .u64 := by kernel_rfl
theorem ty186 : tyI Tryd.prog 186 = some ⟨true, 32, [(.int .u8 0), (.int .u8 0), (.int .u8 0), (.int .u8 0), (.int .u8 0), (.int .u8 0), (.int .u8 0), (.int .u8 0), (.int .u8 0), (.int .u8 0), (.int .u8 0), (.int .u8 0), (.int .u8 0), (.int .u8 0), (.int .u8 0), (.int .u8 0), (.int .u8 0), (.int .u8 0), (.int .u8 0), (.int .u8 0), (.int .u8 0), (.int .u8 0), (.int .u8 0), (.int .u8 0), (.int .u8 0), (.int .u8 0), (.int .u8 0), (.int .u8 0), (.int .u8 0), (.int .u8 0), (.int .u8 0), (.int .u8 0)], 32⟩ := by kernel_rfl
theorem el186 : elemI Tryd.prog 186 = none := by kernel_rfl
theorem ar186 : arrI Tryd.prog 186 = some (32, 5) := by kernel_rfl
theorem pl186 : placesI Tryd.prog 186 = some [(0, 1), (1, 1), (2, 1), (3, 1), (4, 1), (5, 1), (6, 1), (7, 1), (8, 1), (9, 1), (10, 1), (11, 1), (12, 1), (13, 1), (14, 1), (15, 1), (16, 1), (17, 1), (18, 1), (19, 1), (20, 1), (21, 1), (22, 1), (23, 1), (24, 1), (25, 1), (26, 1), (27, 1), (28, 1), (29, 1), (30, 1), (31, 1)] := by kernel_rfl
theorem el187 : elemI Tryd.prog 187 = none := by kernel_rfl
theorem ar187 : arrI Tryd.prog 187 = some (64, 5) := by kernel_rfl
theorem ty188 : tyI Tryd.prog 188 = some ⟨false, 1, [.nilFunc], 8⟩ := by kernel_rfl
theorem el188 : elemI Tryd.prog 188 = none := by kernel_rfl
theorem ty189 : tyI Tryd.prog 189 = some ⟨true, 4, [(.pointer none), (.pointer none), (.pointer none), (.string ⟨#[]⟩)], 40⟩ := by kernel_rfl
theorem el189 : elemI Tryd.prog 189 = none := by kernel_rfl
theorem pl189 : placesI Tryd.prog 189 = some [(0, 1), (1, 1), (2, 1), (3, 1)] := by kernel_rfl
theorem fi189_0 : fieldI Tryd.prog 189 0 = some (0, 1, false) := by kernel_rfl
theorem fi189_1 : fieldI Tryd.prog 189 1 = some (1, 1, false) := by kernel_rfl
theorem fi189_2 : fieldI Tryd.prog 189 2 = some (2, 1, false) := by kernel_rfl
theorem fi189_3 : fieldI Tryd.prog 189 3 = some (3, 1, false) := by kernel_rfl
theorem ty190 : tyI Tryd.prog 190 = some ⟨true, 4, [(.pointer none), (.pointer none), (.pointer none), (.string ⟨#[]⟩)], 40⟩ := by kernel_rfl
theorem el190 : elemI Tryd.prog 190 = none := by kernel_rfl
theorem pl190 : placesI Tryd.prog 190 = some [(0, 1), (1, 1), (2, 1), (3, 1)] := by kernel_rfl
theorem fi190_0 : fieldI Tryd.prog 190 0 = some (0, 1, false) := by kernel_rfl
theorem fi190_1 : fieldI Tryd.prog 190 1 = some (1, 1, false) := by kernel_rfl
theorem fi190_2 : fieldI Tryd.prog 190 2 = some (2, 1, false) := by kernel_rfl
theorem fi190_3 : fieldI Tryd.prog 190 3 = some (3, 1, false) := by kernel_rfl
theorem ty191 : tyI Tryd.prog 191 = some ⟨true, 0, [], 0⟩ := by kernel_rfl
theorem el191 : elemI Tryd.prog 191 = none := by kernel_rfl
theorem ar191 : arrI Tryd.prog 191 = some (0, 16) := by kernel_rfl
theorem pl191 : placesI Tryd.prog 191 = some [] := by kernel_rfl
theorem ty192 : tyI Tryd.prog 192 = some ⟨true, 0, [], 0⟩ := by kernel_rfl
theorem el192 : elemI Tryd.prog 192 = none := by kernel_rfl
theorem pl192 : placesI Tryd.prog 192 = some [(0, 0)] := by kernel_rfl
theorem ty193 : tyI Tryd.prog 193 = some ⟨true, 0, [], 0⟩ := by kernel_rfl
theorem el193 : elemI Tryd.prog 193 = none := by kernel_rfl
theorem pl193 : placesI Tryd.prog 193 = some [(0, 0)] := by kernel_rfl
theorem ty194 : tyI Tryd.prog 194 = some ⟨false, 1, [(.int .u8 0)], 1⟩ := by kernel_rfl
theorem el194 : elemI Tryd.prog 194 = none := by kernel_rfl
theorem it194 : intI Tryd.prog 194 = some .u8 := by kernel_rfl
theorem ty195 : tyI Tryd.prog 195 = some ⟨false, 1, [(.int .u8 0)], 1⟩ := by kernel_rfl
theorem el195 : elemI Tryd.prog 195 = none := by kernel_rfl
theorem it195 : intI Tryd.prog 195 = some .u8 := by kernel_rfl
theorem ty196 : tyI Tryd.prog 196 = some ⟨false, 1, [.nilFunc], 8⟩ := by kernel_rfl
theorem el196 : elemI Tryd.prog 196 = none := by kernel_rfl
theorem ty197 : tyI Tryd.prog 197 = some ⟨false, 1, [(.pointer none)], 8⟩ := by kernel_rfl
theorem el197 : elemI Tryd.prog 197 = none := by kernel_rfl
theorem ty198 : tyI Tryd.prog 198 = some ⟨false, 1, [(.int .i32 0)], 4⟩ := by kernel_rfl
theorem el198 : elemI Tryd.prog 198 = none := by kernel_rfl
theorem it198 : intI Tryd.prog 198 = some .i32 := by kernel_rfl
theorem ty199 : tyI Tryd.prog 199 = some ⟨false, 1, [(.int .i32 0)], 4⟩ := by kernel_rfl
theorem el199 : elemI Tryd.prog 199 = none := by kernel_rfl
theorem it199 : intI Tryd.prog 199 = some .i32 := by kernel_rfl
theorem ty200 : tyI Tryd.prog 200 = some ⟨true, 11, [(.int .u64 0), (.int .u64 0), (.int .u32 0), (.int .u8 0), (.int .u8 0), (.int .u8 0), (.int .u8 0), .nilFunc, (.pointer none), (.int .i32 0), (.int .i32 0)], 48⟩ := by kernel_rfl
theorem el200 : elemI Tryd.prog 200 = none := by kernel_rfl
theorem pl200 : placesI Tryd.prog 200 = some [(0, 1), (1, 1), (2, 1), (3, 1), (4, 1), (5, 1), (6, 1), (7, 1), (8, 1), (9, 1), (10, 1)] := by kernel_rfl
theorem fi200_0 : fieldI Tryd.prog 200 0 = some (0, 1, false) := by kernel_rfl
theorem fi200_1 : fieldI Tryd.prog 200 1 = some (1, 1, false) := by kernel_rfl
theorem fi200_2 : fieldI Tryd.prog 200 2 = some (2, 1, false) := by kernel_rfl
theorem fi200_3 : fieldI Tryd.prog 200 3 = some (3, 1, false) := by kernel_rfl
theorem fi200_4 : fieldI Tryd.prog 200 4 = some (4, 1, false) := by kernel_rfl
theorem fi200_5 : fieldI Tryd.prog 200 5 = some (5, 1, false) := by kernel_rfl
theorem fi200_6 : fieldI Tryd.prog 200 6 = some (6, 1, false) := by kernel_rfl
theorem fi200_7 : fieldI Tryd.prog 200 7 = some (7, 1, false) := by kernel_rfl
theorem fi200_8 : fieldI Tryd.prog 200 8 = some (8, 1, false) := by kernel_rfl
theorem fi200_9 : fieldI Tryd.prog 200 9 = some (9, 1, false) := by kernel_rfl
theorem fi200_10 : fieldI Tryd.prog 200 10 = some (10, 1, false) := by kernel_rfl
theorem ty201 : tyI Tryd.prog 201 = some ⟨true, 11, [(.int .u64 0), (.int .u64 0), (.int .u32 0), (.int .u8 0), (.int .u8 0), (.int .u8 0), (.int .u8 0), .nilFunc, (.pointer none), (.int .i32 0), (.int .i32 0)], 48⟩ := by kernel_rfl
theorem el201 : elemI Tryd.prog 201 = none := by kernel_rfl
theorem pl201 : placesI Tryd.prog 201 = some [(0, 1), (1, 1), (2, 1), (3, 1), (4, 1), (5, 1), (6, 1), (7, 1), (8, 1), (9, 1), (10, 1)] := by kernel_rfl
theorem fi201_0 : fieldI Tryd.prog 201 0 = some (0, 1, false) := by kernel_rfl
theorem fi201_1 : fieldI Tryd.prog 201 1 = some (1, 1, false) := by kernel_rfl
theorem fi201_2 : fieldI Tryd.prog 201 2 = some (2, 1, false) := by kernel_rfl
theorem fi201_3 : fieldI Tryd.prog 201 3 = some (3, 1, false) := by kernel_rfl
theorem fi201_4 : fieldI Tryd.prog 201 4 = some (4, 1, false) := by kernel_rfl
theorem fi201_5 : fieldI Tryd.prog 201 5 = some (5, 1, false) := by kernel_rfl
theorem fi201_6 : fieldI Tryd.prog 201 6 = some (6, 1, false) := by kernel_rfl
theorem fi201_7 : fieldI Tryd.prog 201 7 = some (7, 1, false) := by kernel_rfl
theorem fi201_8 : fieldI Tryd.prog 201 8 = some (8, 1, false) := by kernel_rfl
theorem fi201_9 : fieldI Tryd.prog 201 9 = some (9, 1, false) := by kernel_rfl
theorem fi201_10 : fieldI Tryd.prog 201 10 = some (10, 1, false) := by kernel_rfl
theorem ty202 : tyI Tryd.prog 202 = some ⟨false, 1, [(.pointer none)], 8⟩ := by kernel_rfl
theorem el202 : elemI Tryd.prog 202 = none := by kernel_rfl
attribute [go_sem] el0 ty1 el1 ty2 el2 it2 ty3 el3 it3 ty4 el4 bl4 ty5 el5 it5 ty6 el6 it6 ty7 el7 eq7 pl7 fi7_0 fi7_1 fi7_2 fi7_3 ty8 el8 eq8 pl8 fi8_0 fi8_1 fi8_2 fi8_3 ty9 el9 ty10 el10 ty11 el11 ty12 el12 it12 ty13 el13 pl13 fi13_0 fi13_1 ty14 el14 pl14 fi14_0 fi14_1 ty15 el15 ty16 el16 ty17 el17 ty18 el18 pl18 fi18_0 ty19 el19 pl19 fi19_0 ty20 el20 ty21 el21 it21 ty22 el22 eq22 pl22 fi22_0 fi22_1 fi22_2 fi22_3 ty23 el23 eq23 pl23 fi23_0 fi23_1 fi23_2 fi23_3 ty24 el24 ty25 el25 ty26 el26 ty27 el27 it27 ty28 el28 ty29 el29 it29 el30 ty31 el31 el32 ty33 el33 ty34 el34 ty35 el35 ty36 el36 ty37 el37 ty38 el38 ty39 el39 el40 ty41 el41 ty42 el42 ty43 el43 ty44 el44 eq44 pl44 fi44_0 fi44_1 ty45 el45 eq45 pl45 fi45_0 fi45_1 ty46 el46 eq46 pl46 fi46_0 fi46_1 fi46_2 fi46_3 ty47 el47 eq47 pl47 fi47_0 fi47_1 fi47_2 fi47_3 el48 ty49 el49 ty50 el50 ty51 el51 ty52 el52 ty53 el53 ty54 el54 ty55 el55 ty56 el56 ty57 el57 el58 ty59 el59 ty60 el60 ty61 el61 ty62 el62 ty63 el63 ty64 el64 ty65 el65 el66 ty67 el67 ty68 el68 ty69 el69 eq69 pl69 fi69_0 fi69_1 ty70 el70 eq70 pl70 fi70_0 fi70_1 el71 ty72 el72 ty73 el73 ty74 el74 ty75 el75 ty76 el76 el77 ty78 el78 ty79 el79 ty80 el80 ar80 pl80 ty81 el81 ty82 el82 pl82 fi82_0 fi82_1 fi82_2 ty83 el83 pl83 fi83_0 fi83_1 fi83_2 el84 ty85 el85 ty86 el86 ty87 el87 ty88 el88 ty89 el89 ar89 pl89 ty90 el90 ar90 pl90 ty91 el91 it91 ty92 el92 ty93 el93 ty94 el94 ar94 pl94 ty95 el95 mp95 ty96 el96 it96 ty97 el97 ty98 el98 ty99 el99 ar99 pl99 ty100 el100 ar100 pl100 ty101 el101 ar101 pl101 ty102 el102 ty103 el103 ty104 el104 pl104 fi104_0 fi104_1 ty105 el105 pl105 fi105_0 fi105_1 el106 ty107 el107 ty108 el108 el109 ty110 el110 ty111 el111 el112 ty113 el113 ty114 el114 ty115 el115 ty116 el116 ty117 el117 ty118 el118 ty119 el119 it119 ty120 el120 eq120 pl120 fi120_0 fi120_1 ty121 el121 eq121 pl121 fi121_0 fi121_1 ty122 el122 eq122 pl122 fi122_0 fi122_1 fi122_2 fi122_3 fi122_4 ty123 el123 eq123 pl123 fi123_0 fi123_1 fi123_2 fi123_3 fi123_4 ty124 el124 ty125 el125 ty126 el126 ty127 el127 ty128 el128 ty129 el129 ty130 el130 ty131 el131 ty132 el132 ty133 el133 ty134 el134 ty135 el135 ty136 el136 ty137 el137 pl137 fi137_0 fi137_1 ty138 el138 pl138 fi138_0 fi138_1 el139 ty140 el140 ty141 el141 eq141 pl141 fi141_0 fi141_1 ty142 el142 eq142 pl142 fi142_0 fi142_1 el143 ty144 el144 ty145 el145 ty146 el146 ty147 el147 ty148 el148 ty149 el149 ty150 el150 ty151 el151 el152 ty153 el153 ty154 el154 it154 ty155 el155 ty156 el156 ty157 el157 ty158 el158 ty159 el159 ty160 el160 ty161 el161 ty162 el162 ty163 el163 ty164 el164 ty165 el165 ty166 el166 ty167 el167 ty168 el168 ty169 el169 ty170 el170 mp170 ty171 el171 pl171 fi171_0 fi171_1 fi171_2 ty172 el172 pl172 fi172_0 fi172_1 fi172_2 el173 ty174 el174 ty175 el175 ty176 el176 ty177 el177 ty178 el178 ty179 el179 ty180 el180 ty181 el181 ty182 el182 ty183 el183 it183 ty184 el184 ty185 el185 it185 ty186 el186 ar186 pl186 el187 ar187 ty188 el188 ty189 el189 pl189 fi189_0 fi189_1 fi189_2 fi189_3 ty190 el190 pl190 fi190_0 fi190_1 fi190_2 fi190_3 ty191 el191 ar191 pl191 ty192 el192 pl192 ty193 el193 pl193 ty194 el194 it194 ty195 el195 it195 ty196 el196 ty197 el197 ty198 el198 it198 ty199 el199 it199 ty200 el200 pl200 fi200_0 fi200_1 fi200_2 fi200_3 fi200_4 fi200_5 fi200_6 fi200_7 fi200_8 fi200_9 fi200_10 ty201 el201 pl201 fi201_0 fi201_1 fi201_2 fi201_3 fi201_4 fi201_5 fi201_6 fi201_7 fi201_8 fi201_9 fi201_10 ty202 el202
end Go.Dw.Seat
end
section
namespace Go.Dw.Seat
open Go Go.Dw
def Mv (a c : Nat) : SO := ⟨some a, .move (.tmp c), none⟩
def Sg (a c : Nat) : SO := ⟨some a, .assign (.tmp c), none⟩
def Ld (a b c : Nat) : SO := ⟨some a, .load b (.tmp c), none⟩
def Fa (a b c d : Nat) : SO := ⟨some a, .fieldAddr b (.tmp c) d, none⟩
def Xt (a c d : Nat) : SO := ⟨some a, .extract (.tmp c) d, none⟩
def Ix (a b c d : Nat) : SO := ⟨some a, .indexAddr b (.tmp c) (.tmp d), none⟩
def Ln (a c t : Nat) : SO := ⟨some a, .call { callee := .builtin .len, args := #[.tmp c], argTypes := #[t] }, none⟩
def Cl (a f : Nat) (x : Array Operand) (y : Array TypeId) : SO := ⟨some a, .call { callee := .value (.func f), args := x, argTypes := y }, none⟩
def Oo (a : Nat) (o : Op) : SO := ⟨some a, o, none⟩
def Og (a : Nat) (o : Op) (g : Nat) (b : Bool) : SO := ⟨some a, o, some (g, b)⟩
end Go.Dw.Seat
namespace Go.Dw.Seat
open Go Go.Dw Go.Proofs
def s3 : SF := ⟨103, [.tmp 6], (.seq (.reg false [Oo 3 (.box 23 (.tmp 0)), Oo 6 (.assign (.const (.bool false)))]) (.seq (.seq (.reg false [Mv 15 1, Ln 16 15 24, Oo 17 (.binOp .gtr 3 (.tmp 16) (.const (.int .i64 30)) 3)]) (.cond (.tmp 17) (.seq (.reg false [Cl 18 16 #[] #[], Sg 6 18]) .ret) .skip)) (.seq (.reg false [Mv 19 1, Cl 20 17 #[.tmp 19] #[24], Sg 7 20]) (.seq (.reg false [Ld 21 23 3, Mv 22 7, Mv 23 2, Cl 24 18 #[.tmp 21, .tmp 22, .tmp 23] #[23, 24, 3], Sg 8 24]) (.seq (.reg false [Ld 26 23 3, Mv 27 7, Mv 28 2, Cl 29 19 #[.tmp 26, .tmp 27, .tmp 28] #[23, 24, 3], Mv 25 29, Xt 30 25 0, Xt 31 25 1, Sg 9 30, Sg 10 31]) (.seq (.reg false [Ld 33 23 3, Mv 34 7, Mv 35 2, Cl 36 20 #[.tmp 33, .tmp 34, .tmp 35] #[23, 24, 3], Mv 32 36, Xt 37 32 0, Xt 38 32 1, Xt 39 32 2, Sg 11 37, Sg 12 38, Sg 13 39]) (.seq (.reg false [Ld 40 23 3, Mv 41 1, Mv 42 2, Cl 43 21 #[.tmp 40, .tmp 41, .tmp 42] #[23, 24, 3], Sg 14 43]) (.seq (.seq (.reg false [Mv 44 7, Mv 45 1, Cl 46 22 #[.tmp 44, .tmp 45] #[24, 24], Oo 47 (.unOp .not 4 (.tmp 46)), Mv 48 47, Og 49 (.move (.tmp 8)) 48 false, Og 50 (.move (.tmp 14)) 48 false, Og 51 (.binOp .neq 27 (.tmp 49) (.tmp 50) 27) 48 false, Oo 52 (.pick (.tmp 48) (.const (.bool true)) (.tmp 51)), Mv 53 52, Og 54 (.move (.tmp 10)) 53 false, Og 55 (.move (.tmp 14)) 53 false, Og 56 (.binOp .neq 27 (.tmp 54) (.tmp 55) 27) 53 false, Oo 57 (.pick (.tmp 53) (.const (.bool true)) (.tmp 56)), Mv 58 57, Og 59 (.move (.tmp 13)) 58 false, Og 60 (.move (.tmp 14)) 58 false, Og 61 (.binOp .neq 27 (.tmp 59) (.tmp 60) 27) 58 false, Oo 62 (.pick (.tmp 58) (.const (.bool true)) (.tmp 61))]) (.cond (.tmp 62) (.seq (.reg false [Oo 6 (.assign (.const (.bool false)))]) .ret) .skip)) (.seq (.seq (.reg false [Mv 63 14, Oo 64 (.binOp .neq 27 (.tmp 63) (.const (.int .i64 0)) 27)]) (.cond (.tmp 64) (.seq (.reg false [Mv 65 9, Oo 66 (.binOp .eql 29 (.tmp 65) (.const (.int .i64 0)) 29), Mv 67 66, Og 68 (.move (.tmp 11)) 67 true, Og 69 (.binOp .eql 3 (.tmp 68) (.const (.int .i64 0)) 3) 67 true, Oo 70 (.pick (.tmp 67) (.tmp 69) (.const (.bool false))), Mv 71 70, Og 72 (.move (.tmp 12)) 71 true, Og 73 (.binOp .eql 3 (.tmp 72) (.const (.int .i64 0)) 3) 71 true, Oo 74 (.pick (.tmp 71) (.tmp 73) (.const (.bool false))), Mv 75 74, Og 76 (.call { callee := .value (.func 16), args := #[], argTypes := #[] }) 75 true, Oo 77 (.pick (.tmp 75) (.tmp 76) (.const (.bool false))), Sg 6 77]) .ret) .skip)) (.seq (.reg false [Mv 78 9, Ld 79 23 3, Mv 80 1, Mv 81 2, Cl 82 23 #[.tmp 79, .tmp 80, .tmp 81] #[23, 24, 3], Oo 83 (.binOp .eql 29 (.tmp 78) (.tmp 82) 29), Mv 84 83, Og 85 (.move (.tmp 11)) 84 true, Og 86 (.load 23 (.tmp 3)) 84 true, Og 87 (.move (.tmp 1)) 84 true, Og 88 (.move (.tmp 2)) 84 true, Og 89 (.call { callee := .value (.func 24), args := #[.tmp 86, .tmp 87, .tmp 88, .const (.int .i64 100000), .const (.int .i64 1)], argTypes := #[23, 24, 3, 3, 29] }) 84 true, Og 90 (.binOp .eql 3 (.tmp 85) (.tmp 89) 3) 84 true, Oo 91 (.pick (.tmp 84) (.tmp 90) (.const (.bool false))), Mv 92 91, Og 93 (.move (.tmp 12)) 92 true, Og 94 (.load 23 (.tmp 3)) 92 true, Og 95 (.move (.tmp 1)) 92 true, Og 96 (.move (.tmp 2)) 92 true, Og 97 (.call { callee := .value (.func 24), args := #[.tmp 94, .tmp 95, .tmp 96, .const (.int .i64 0), .const (.int .i64 2)], argTypes := #[23, 24, 3, 3, 29] }) 92 true, Og 98 (.binOp .eql 3 (.tmp 93) (.tmp 97) 3) 92 true, Oo 99 (.pick (.tmp 92) (.tmp 98) (.const (.bool false))), Mv 100 99, Og 101 (.call { callee := .value (.func 16), args := #[], argTypes := #[] }) 100 true, Oo 102 (.pick (.tmp 100) (.tmp 101) (.const (.bool false))), Sg 6 102]) .ret))))))))))⟩
theorem hb3 : hasBody Tryd.prog 3 = true := by kernel_rfl
theorem hb10 : hasBody Tryd.prog 10 = true := by kernel_rfl
end Go.Dw.Seat
end
section
namespace Go.Dw.Seat
open Go Go.Dw Go.Proofs
def o13_0 : SO := ⟨some 49, .move (.tmp 7), none⟩
def o13_1 : SO := ⟨some 50, .move (.tmp 13), none⟩
def o13_2 : SO := ⟨some 51, .indexAddr 53 (.tmp 49) (.tmp 50), none⟩
def o13_3 : SO := ⟨some 52, .fieldAddr 70 (.tmp 51) 0, none⟩
def o13_4 : SO := ⟨some 53, .load 45 (.tmp 52), none⟩
def o13_5 : SO := ⟨some 14, .alloc 45, none⟩
def o13_6 : SO := ⟨some 15, .alloc 45, none⟩
def o13_7 : SO := ⟨some 54, .move (.tmp 7), none⟩
def o13_8 : SO := ⟨some 55, .move (.tmp 13), none⟩
def o13_9 : SO := ⟨some 56, .indexAddr 53 (.tmp 54) (.tmp 55), none⟩
def o13_10 : SO := ⟨some 57, .fieldAddr 70 (.tmp 56) 1, none⟩
def o13_11 : SO := ⟨some 58, .load 45 (.tmp 57), none⟩
def o13_12 : SO := ⟨none, .store 45 (.tmp 14) (.tmp 53), none⟩
def o13_13 : SO := ⟨none, .store 45 (.tmp 15) (.tmp 58), none⟩
def o13_14 : SO := ⟨some 59, .move (.tmp 9), none⟩
def o13_15 : SO := ⟨some 60, .fieldAddr 45 (.tmp 14) 0, none⟩
def o13_16 : SO := ⟨some 61, .load 3 (.tmp 60), none⟩
def o13_17 : SO := ⟨some 62, .move (.tmp 1), none⟩
def o13_18 : SO := ⟨some 63, .move (.tmp 13), none⟩
def o13_19 : SO := ⟨some 64, .binOp .mul 3 (.const (.int .i64 2)) (.tmp 63) 3, none⟩
def o13_20 : SO := ⟨some 65, .call { callee := .value (.func 53), args := #[.tmp 62, .tmp 64], argTypes := #[93, 3] }, none⟩
def o13_21 : SO := ⟨some 66, .fieldAddr 45 (.tmp 14) 1, none⟩
def o13_22 : SO := ⟨some 67, .load 3 (.tmp 66), none⟩
def o13_23 : SO := ⟨some 68, .fieldAddr 45 (.tmp 14) 0, none⟩
def o13_24 : SO := ⟨some 69, .load 3 (.tmp 68), none⟩
def o13_25 : SO := ⟨some 70, .binOp .sub 3 (.tmp 67) (.tmp 69) 3, none⟩
def o13_26 : SO := ⟨some 71, .binOp .mul 3 (.tmp 65) (.tmp 70) 3, none⟩
def o13_27 : SO := ⟨some 72, .binOp .quo 3 (.tmp 71) (.const (.int .i64 255)) 3, none⟩
def o13_28 : SO := ⟨some 73, .binOp .add 3 (.tmp 61) (.tmp 72) 3, none⟩
def o13_29 : SO := ⟨some 74, .buildSlice 24 1 #[(0, (.tmp 73))], none⟩
def o13_30 : SO := ⟨some 75, .call { callee := .builtin .append, args := #[.tmp 59, .tmp 74], argTypes := #[24, 24] }, none⟩
def o13_31 : SO := ⟨some 76, .move (.tmp 10), none⟩
def o13_32 : SO := ⟨some 77, .fieldAddr 45 (.tmp 15) 0, none⟩
def o13_33 : SO := ⟨some 78, .load 3 (.tmp 77), none⟩
def o13_34 : SO := ⟨some 79, .move (.tmp 1), none⟩
def o13_35 : SO := ⟨some 80, .move (.tmp 13), none⟩
def o13_36 : SO := ⟨some 81, .binOp .mul 3 (.const (.int .i64 2)) (.tmp 80) 3, none⟩
def o13_37 : SO := ⟨some 82, .binOp .add 3 (.tmp 81) (.const (.int .i64 1)) 3, none⟩
def o13_38 : SO := ⟨some 83, .call { callee := .value (.func 53), args := #[.tmp 79, .tmp 82], argTypes := #[93, 3] }, none⟩
def o13_39 : SO := ⟨some 84, .fieldAddr 45 (.tmp 15) 1, none⟩
def o13_40 : SO := ⟨some 85, .load 3 (.tmp 84), none⟩
def o13_41 : SO := ⟨some 86, .fieldAddr 45 (.tmp 15) 0, none⟩
def o13_42 : SO := ⟨some 87, .load 3 (.tmp 86), none⟩
def o13_43 : SO := ⟨some 88, .binOp .sub 3 (.tmp 85) (.tmp 87) 3, none⟩
def o13_44 : SO := ⟨some 89, .binOp .mul 3 (.tmp 83) (.tmp 88) 3, none⟩
def o13_45 : SO := ⟨some 90, .binOp .quo 3 (.tmp 89) (.const (.int .i64 255)) 3, none⟩
def o13_46 : SO := ⟨some 91, .binOp .add 3 (.tmp 78) (.tmp 90) 3, none⟩
def o13_47 : SO := ⟨some 92, .buildSlice 24 1 #[(0, (.tmp 91))], none⟩
def o13_48 : SO := ⟨some 93, .call { callee := .builtin .append, args := #[.tmp 76, .tmp 92], argTypes := #[24, 24] }, none⟩
def o13_49 : SO := ⟨some 9, .assign (.tmp 75), none⟩
def o13_50 : SO := ⟨some 10, .assign (.tmp 93), none⟩
def o13_51 : SO := ⟨some 94, .move (.tmp 11), none⟩
def o13_52 : SO := ⟨some 95, .fieldAddr 45 (.tmp 14) 0, none⟩
def o13_53 : SO := ⟨some 96, .load 3 (.tmp 95), none⟩
def o13_54 : SO := ⟨some 97, .buildSlice 24 1 #[(0, (.tmp 96))], none⟩
def o13_55 : SO := ⟨some 98, .call { callee := .builtin .append, args := #[.tmp 94, .tmp 97], argTypes := #[24, 24] }, none⟩
def o13_56 : SO := ⟨some 99, .move (.tmp 12), none⟩
def o13_57 : SO := ⟨some 100, .fieldAddr 45 (.tmp 15) 1, none⟩
def o13_58 : SO := ⟨some 101, .load 3 (.tmp 100), none⟩
def o13_59 : SO := ⟨some 102, .buildSlice 24 1 #[(0, (.tmp 101))], none⟩
def o13_60 : SO := ⟨some 103, .call { callee := .builtin .append, args := #[.tmp 99, .tmp 102], argTypes := #[24, 24] }, none⟩
def o13_61 : SO := ⟨some 11, .assign (.tmp 98), none⟩
def o13_62 : SO := ⟨some 12, .assign (.tmp 103), none⟩
def s13 : SF := ⟨272, [.tmp 6], (.seq (.reg false [⟨some 3, .box 105 (.tmp 0), none⟩, ⟨some 6, .assign (.const (.bool false)), none⟩]) (.seq (.reg false [⟨some 35, .load 105 (.tmp 3), none⟩, ⟨some 36, .call { callee := .value (.func 52), args := #[.tmp 35, .const (.int .i64 12)], argTypes := #[105, 3] }, none⟩, ⟨some 34, .move (.tmp 36), none⟩, ⟨some 37, .extract (.tmp 34) 0, none⟩, ⟨some 38, .extract (.tmp 34) 1, none⟩, ⟨some 7, .assign (.tmp 37), none⟩, ⟨some 8, .assign (.tmp 38), none⟩]) (.seq (.reg false [⟨some 39, .buildSlice 24 0 #[], none⟩, ⟨some 40, .buildSlice 24 0 #[], none⟩, ⟨some 41, .buildSlice 24 0 #[], none⟩, ⟨some 42, .buildSlice 24 0 #[], none⟩, ⟨some 9, .assign (.tmp 39), none⟩, ⟨some 10, .assign (.tmp 40), none⟩, ⟨some 11, .assign (.tmp 41), none⟩, ⟨some 12, .assign (.tmp 42), none⟩]) (.seq (.seq (.reg false [⟨some 13, .assign (.const (.int .i64 0)), none⟩]) (.block 0 (.loop (.seq (.seq (.reg false [⟨some 43, .move (.tmp 13), none⟩, ⟨some 44, .move (.tmp 7), none⟩, ⟨some 45, .call { callee := .builtin .len, args := #[.tmp 44], argTypes := #[53] }, none⟩, ⟨some 46, .binOp .lss 3 (.tmp 43) (.tmp 45) 3, none⟩]) (.cond (.tmp 46) .skip (.exit 0))) (.seq (.block 1 (.seq (.ord (.op o13_0 (.op o13_1 (.op o13_2 (.op o13_3 (.op o13_4 (.op o13_5 (.op o13_6 (.alt (.op o13_7 (.alt (.op o13_8 (.alt (.op o13_9 (.alt (.op o13_10 (.alt (.op o13_11 (.op o13_12 (.op o13_13 .done))) (.op o13_12 (.op o13_11 (.op o13_13 .done))))) (.op o13_12 (.op o13_10 (.op o13_11 (.op o13_13 .done)))))) (.op o13_12 (.op o13_9 (.op o13_10 (.op o13_11 (.op o13_13 .done))))))) (.op o13_12 (.op o13_8 (.op o13_9 (.op o13_10 (.op o13_11 (.op o13_13 .done)))))))) (.alt (.op o13_8 (.alt (.op o13_7 (.alt (.op o13_9 (.alt (.op o13_10 (.alt (.op o13_11 (.op o13_12 (.op o13_13 .done))) (.op o13_12 (.op o13_11 (.op o13_13 .done))))) (.op o13_12 (.op o13_10 (.op o13_11 (.op o13_13 .done)))))) (.op o13_12 (.op o13_9 (.op o13_10 (.op o13_11 (.op o13_13 .done))))))) (.op o13_12 (.op o13_7 (.op o13_9 (.op o13_10 (.op o13_11 (.op o13_13 .done)))))))) (.op o13_12 (.op o13_7 (.op o13_8 (.op o13_9 (.op o13_10 (.op o13_11 (.op o13_13 .done))))))))))))))))) (.seq (.ord (.op o13_14 (.op o13_15 (.op o13_16 (.op o13_17 (.op o13_18 (.op o13_19 (.op o13_20 (.op o13_21 (.op o13_22 (.op o13_23 (.op o13_24 (.op o13_25 (.op o13_26 (.op o13_27 (.op o13_28 (.op o13_29 (.app o13_30 [10, 15, 77, 1, 13, 80, 81, 15, 84, 15, 86, 85, 87] [76, 77, 78, 79, 80, 81, 82, 84, 85, 86, 87, 88] (.op o13_31 (.op o13_32 (.op o13_33 (.op o13_34 (.op o13_35 (.op o13_36 (.op o13_37 (.op o13_38 (.op o13_39 (.op o13_40 (.op o13_41 (.op o13_42 (.op o13_43 (.op o13_44 (.op o13_45 (.op o13_46 (.op o13_47 (.op o13_48 (.op o13_49 (.op o13_50 .done)))))))))))))))))))))))))))))))))))))) (.ord (.op o13_51 (.op o13_52 (.op o13_53 (.op o13_54 (.app o13_55 [12, 15, 100, 101] [99, 100, 101, 102] (.op o13_56 (.op o13_57 (.op o13_58 (.op o13_59 (.op o13_60 (.op o13_61 (.op o13_62 .done)))))))))))))))) (.reg false [⟨some 47, .move (.tmp 13), none⟩, ⟨some 48, .binOp .add 3 (.tmp 47) (.const (.int .i64 1)) 3, none⟩, ⟨some 13, .assign (.tmp 48), none⟩])))))) (.seq (.reg false [⟨some 105, .move (.tmp 7), none⟩, ⟨some 106, .call { callee := .value (.func 33), args := #[.tmp 105], argTypes := #[53] }, none⟩, ⟨some 107, .move (.tmp 8), none⟩, ⟨some 108, .call { callee := .value (.func 34), args := #[.tmp 107], argTypes := #[54] }, none⟩, ⟨some 109, .move (.tmp 2), none⟩, ⟨some 110, .convert 5 3 (.tmp 109), none⟩, ⟨some 111, .call { callee := .value (.func 36), args := #[.tmp 106, .tmp 108, .tmp 110], argTypes := #[53, 54, 3] }, none⟩, ⟨some 104, .move (.tmp 111), none⟩, ⟨some 112, .extract (.tmp 104) 0, none⟩, ⟨some 113, .extract (.tmp 104) 1, none⟩, ⟨some 114, .extract (.tmp 104) 2, none⟩, ⟨some 16, .assign (.tmp 112), none⟩, ⟨some 17, .assign (.tmp 113), none⟩, ⟨some 18, .assign (.tmp 114), none⟩]) (.seq (.reg false [⟨some 116, .move (.tmp 7), none⟩, ⟨some 117, .call { callee := .value (.func 33), args := #[.tmp 116], argTypes := #[53] }, none⟩, ⟨some 118, .call { callee := .value (.func 35), args := #[.tmp 117], argTypes := #[53] }, none⟩, ⟨some 115, .move (.tmp 118), none⟩, ⟨some 119, .extract (.tmp 115) 0, none⟩, ⟨some 120, .extract (.tmp 115) 1, none⟩, ⟨some 19, .assign (.tmp 119), none⟩, ⟨some 20, .assign (.tmp 120), none⟩]) (.seq (.seq (.reg false [⟨some 121, .move (.tmp 18), none⟩, ⟨some 122, .binOp .neq 27 (.tmp 121) (.const (.int .i64 0)) 27, none⟩, ⟨some 123, .move (.tmp 122), none⟩, ⟨some 124, .move (.tmp 18), some (123, true)⟩, ⟨some 125, .binOp .neq 27 (.tmp 124) (.const (.int .i64 7)) 27, some (123, true)⟩, ⟨some 126, .pick (.tmp 123) (.tmp 125) (.const (.bool false)), none⟩, ⟨some 127, .move (.tmp 126), none⟩, ⟨some 128, .move (.tmp 20), some (127, false)⟩, ⟨some 129, .binOp .neq 27 (.tmp 128) (.const (.int .i64 0)) 27, some (127, false)⟩, ⟨some 130, .pick (.tmp 127) (.const (.bool true)) (.tmp 129), none⟩, ⟨some 131, .move (.tmp 130), none⟩, ⟨some 132, .move (.tmp 19), some (131, false)⟩, ⟨some 133, .call { callee := .builtin .len, args := #[.tmp 132], argTypes := #[57] }, some (131, false)⟩, ⟨some 134, .move (.tmp 7), some (131, false)⟩, ⟨some 135, .call { callee := .builtin .len, args := #[.tmp 134], argTypes := #[53] }, some (131, false)⟩, ⟨some 136, .binOp .neq 3 (.tmp 133) (.tmp 135) 3, some (131, false)⟩, ⟨some 137, .pick (.tmp 131) (.const (.bool true)) (.tmp 136), none⟩]) (.cond (.tmp 137) (.seq (.reg false [⟨some 6, .assign (.const (.bool false)), none⟩]) .ret) .skip)) (.seq (.reg false [⟨some 138, .move (.tmp 2), none⟩, ⟨some 139, .convert 5 3 (.tmp 138), none⟩, ⟨some 21, .assign (.tmp 139), none⟩]) (.seq (.seq (.reg false [⟨some 140, .move (.tmp 18), none⟩, ⟨some 141, .binOp .eql 27 (.tmp 140) (.const (.int .i64 0)) 27, none⟩]) (.cond (.tmp 141) (.seq (.seq (.reg false [⟨some 142, .move (.tmp 16), none⟩, ⟨some 143, .binOp .lss 3 (.tmp 142) (.const (.int .i64 0)) 3, none⟩, ⟨some 144, .move (.tmp 143), none⟩, ⟨some 145, .move (.tmp 16), some (144, false)⟩, ⟨some 146, .move (.tmp 2), some (144, false)⟩, ⟨some 147, .convert 5 3 (.tmp 146), some (144, false)⟩, ⟨some 148, .binOp .gtr 3 (.tmp 145) (.tmp 147) 3, some (144, false)⟩, ⟨some 149, .pick (.tmp 144) (.const (.bool true)) (.tmp 148), none⟩, ⟨some 150, .move (.tmp 149), none⟩, ⟨some 151, .move (.tmp 17), some (150, false)⟩, ⟨some 152, .binOp .lss 3 (.tmp 151) (.const (.int .i64 0)) 3, some (150, false)⟩, ⟨some 153, .pick (.tmp 150) (.const (.bool true)) (.tmp 152), none⟩, ⟨some 154, .move (.tmp 153), none⟩, ⟨some 155, .move (.tmp 17), some (154, false)⟩, ⟨some 156, .move (.tmp 7), some (154, false)⟩, ⟨some 157, .call { callee := .builtin .len, args := #[.tmp 156], argTypes := #[53] }, some (154, false)⟩, ⟨some 158, .binOp .geq 3 (.tmp 155) (.tmp 157) 3, some (154, false)⟩, ⟨some 159, .pick (.tmp 154) (.const (.bool true)) (.tmp 158), none⟩]) (.cond (.tmp 159) (.seq (.reg false [⟨some 6, .assign (.const (.bool false)), none⟩]) .ret) .skip)) (.seq (.seq (.reg false [⟨some 161, .move (.tmp 11), none⟩, ⟨some 162, .move (.tmp 12), none⟩, ⟨some 163, .move (.tmp 8), none⟩, ⟨some 164, .move (.tmp 16), none⟩, ⟨some 165, .call { callee := .value (.func 54), args := #[.tmp 161, .tmp 162, .tmp 163, .tmp 164], argTypes := #[24, 24, 54, 3] }, none⟩, ⟨some 160, .move (.tmp 165), none⟩, ⟨some 166, .extract (.tmp 160) 0, none⟩, ⟨some 167, .extract (.tmp 160) 1, none⟩, ⟨some 22, .assign (.tmp 166), none⟩, ⟨some 23, .assign (.tmp 167), none⟩]) (.seq (.reg false [⟨some 168, .move (.tmp 22), none⟩, ⟨some 169, .move (.tmp 168), none⟩, ⟨some 170, .move (.tmp 23), some (169, false)⟩, ⟨some 171, .move (.tmp 17), some (169, false)⟩, ⟨some 172, .binOp .neq 3 (.tmp 170) (.tmp 171) 3, some (169, false)⟩, ⟨some 173, .pick (.tmp 169) (.const (.bool true)) (.tmp 172), none⟩]) (.cond (.tmp 173) (.seq (.reg false [⟨some 6, .assign (.const (.bool false)), none⟩]) .ret) .skip))) (.reg false [⟨some 174, .move (.tmp 16), none⟩, ⟨some 175, .binOp .sub 3 (.tmp 174) (.const (.int .i64 1)) 3, none⟩, ⟨some 21, .assign (.tmp 175), none⟩]))) .skip)) (.seq (.seq (.reg false [⟨some 24, .assign (.const (.int .i64 0)), none⟩]) (.block 2 (.loop (.seq (.seq (.reg false [⟨some 176, .move (.tmp 24), none⟩, ⟨some 177, .move (.tmp 21), none⟩, ⟨some 178, .binOp .leq 3 (.tmp 176) (.tmp 177) 3, none⟩]) (.cond (.tmp 178) .skip (.exit 2))) (.seq (.block 3 (.seq (.reg false [⟨some 182, .move (.tmp 9), none⟩, ⟨some 183, .move (.tmp 10), none⟩, ⟨some 184, .move (.tmp 8), none⟩, ⟨some 185, .move (.tmp 24), none⟩, ⟨some 186, .call { callee := .value (.func 54), args := #[.tmp 182, .tmp 183, .tmp 184, .tmp 185], argTypes := #[24, 24, 54, 3] }, none⟩, ⟨some 181, .move (.tmp 186), none⟩, ⟨some 187, .extract (.tmp 181) 0, none⟩, ⟨some 188, .extract (.tmp 181) 1, none⟩, ⟨some 25, .assign (.tmp 187), none⟩, ⟨some 26, .assign (.tmp 188), none⟩]) (.seq (.reg false [⟨some 190, .move (.tmp 11), none⟩, ⟨some 191, .move (.tmp 12), none⟩, ⟨some 192, .move (.tmp 8), none⟩, ⟨some 193, .move (.tmp 24), none⟩, ⟨some 194, .call { callee := .value (.func 54), args := #[.tmp 190, .tmp 191, .tmp 192, .tmp 193], argTypes := #[24, 24, 54, 3] }, none⟩, ⟨some 189, .move (.tmp 194), none⟩, ⟨some 195, .extract (.tmp 189) 0, none⟩, ⟨some 196, .extract (.tmp 189) 1, none⟩, ⟨some 27, .assign (.tmp 195), none⟩, ⟨some 28, .assign (.tmp 196), none⟩]) (.seq (.reg false [⟨some 197, .move (.tmp 25), none⟩, ⟨some 198, .unOp .not 4 (.tmp 197), none⟩, ⟨some 199, .move (.tmp 198), none⟩, ⟨some 200, .move (.tmp 27), some (199, false)⟩, ⟨some 201, .unOp .not 4 (.tmp 200), some (199, false)⟩, ⟨some 202, .pick (.tmp 199) (.const (.bool true)) (.tmp 201), none⟩]) (.cond (.tmp 202) (.seq (.reg false [⟨some 6, .assign (.const (.bool false)), none⟩]) .ret) .skip))))) (.reg false [⟨some 179, .move (.tmp 24), none⟩, ⟨some 180, .binOp .add 3 (.tmp 179) (.const (.int .i64 1)) 3, none⟩, ⟨some 24, .assign (.tmp 180), none⟩])))))) (.seq (.reg false [⟨some 29, .assign (.const (.int .i64 0)), none⟩]) (.seq (.seq (.reg false [⟨some 203, .move (.tmp 7), none⟩, ⟨some 204, .call { callee := .builtin .len, args := #[.tmp 203], argTypes := #[53] }, none⟩, ⟨some 205, .binOp .sub 3 (.tmp 204) (.const (.int .i64 1)) 3, none⟩, ⟨some 30, .assign (.tmp 205), none⟩]) (.block 4 (.loop (.seq (.seq (.reg false [⟨some 206, .move (.tmp 30), none⟩, ⟨some 207, .binOp .geq 3 (.tmp 206) (.const (.int .i64 0)) 3, none⟩]) (.cond (.tmp 207) .skip (.exit 4))) (.seq (.block 5 (.seq (.seq (.reg false [⟨some 210, .move (.tmp 29), none⟩, ⟨some 211, .move (.tmp 19), none⟩, ⟨some 212, .move (.tmp 30), none⟩, ⟨some 213, .indexAddr 57 (.tmp 211) (.tmp 212), none⟩, ⟨some 214, .fieldAddr 45 (.tmp 213) 0, none⟩, ⟨some 215, .load 3 (.tmp 214), none⟩, ⟨some 216, .binOp .lss 3 (.tmp 210) (.tmp 215) 3, none⟩, ⟨some 217, .move (.tmp 216), none⟩, ⟨some 218, .move (.tmp 29), some (217, false)⟩, ⟨some 219, .move (.tmp 19), some (217, false)⟩, ⟨some 220, .move (.tmp 30), some (217, false)⟩, ⟨some 221, .indexAddr 57 (.tmp 219) (.tmp 220), some (217, false)⟩, ⟨some 222, .fieldAddr 45 (.tmp 221) 1, some (217, false)⟩, ⟨some 223, .load 3 (.tmp 222), some (217, false)⟩, ⟨some 224, .binOp .gtr 3 (.tmp 218) (.tmp 223) 3, some (217, false)⟩, ⟨some 225, .pick (.tmp 217) (.const (.bool true)) (.tmp 224), none⟩]) (.cond (.tmp 225) (.seq (.reg false [⟨some 6, .assign (.const (.bool false)), none⟩]) .ret) .skip)) (.reg false [⟨some 226, .move (.tmp 29), none⟩, ⟨some 227, .move (.tmp 10), none⟩, ⟨some 228, .move (.tmp 30), none⟩, ⟨some 229, .indexAddr 24 (.tmp 227) (.tmp 228), none⟩, ⟨some 230, .load 3 (.tmp 229), none⟩, ⟨some 231, .binOp .add 3 (.tmp 226) (.tmp 230) 3, none⟩, ⟨some 29, .assign (.tmp 231), none⟩]))) (.reg false [⟨some 208, .move (.tmp 30), none⟩, ⟨some 209, .binOp .sub 3 (.tmp 208) (.const (.int .i64 1)) 3, none⟩, ⟨some 30, .assign (.tmp 209), none⟩])))))) (.seq (.seq (.reg false [⟨some 232, .move (.tmp 7), none⟩, ⟨some 233, .call { callee := .builtin .len, args := #[.tmp 232], argTypes := #[53] }, none⟩, ⟨some 234, .binOp .eql 3 (.tmp 233) (.const (.int .i64 0)) 3, none⟩]) (.cond (.tmp 234) (.seq (.reg false [⟨some 235, .move (.tmp 18), none⟩, ⟨some 236, .binOp .eql 27 (.tmp 235) (.const (.int .i64 7)) 27, none⟩, ⟨some 237, .move (.tmp 236), none⟩, ⟨some 238, .call { callee := .value (.func 16), args := #[], argTypes := #[] }, some (237, true)⟩, ⟨some 239, .pick (.tmp 237) (.tmp 238) (.const (.bool false)), none⟩, ⟨some 6, .assign (.tmp 239), none⟩]) .ret) .skip)) (.seq (.reg false [⟨some 241, .move (.tmp 7), none⟩, ⟨some 242, .move (.tmp 7), none⟩, ⟨some 243, .call { callee := .builtin .len, args := #[.tmp 242], argTypes := #[53] }, none⟩, ⟨some 244, .binOp .sub 3 (.tmp 243) (.const (.int .i64 1)) 3, none⟩, ⟨some 245, .slice 53 (.tmp 241) none (some (.tmp 244)) none, none⟩, ⟨some 246, .call { callee := .value (.func 33), args := #[.tmp 245], argTypes := #[53] }, none⟩, ⟨some 247, .move (.tmp 8), none⟩, ⟨some 248, .move (.tmp 2), none⟩, ⟨some 249, .convert 5 3 (.tmp 248), none⟩, ⟨some 250, .call { callee := .value (.func 36), args := #[.tmp 246, .tmp 247, .tmp 249], argTypes := #[53, 54, 3] }, none⟩, ⟨some 240, .move (.tmp 250), none⟩, ⟨some 251, .extract (.tmp 240) 0, none⟩, ⟨some 252, .extract (.tmp 240) 1, none⟩, ⟨some 253, .extract (.tmp 240) 2, none⟩, ⟨some 31, .assign (.tmp 251), none⟩, ⟨some 32, .assign (.tmp 252), none⟩, ⟨some 33, .assign (.tmp 253), none⟩]) (.seq (.reg false [⟨some 254, .move (.tmp 33), none⟩, ⟨some 255, .binOp .eql 27 (.tmp 254) (.const (.int .i64 7)) 27, none⟩, ⟨some 256, .move (.tmp 255), none⟩, ⟨some 257, .move (.tmp 33), some (256, false)⟩, ⟨some 258, .binOp .eql 27 (.tmp 257) (.const (.int .i64 0)) 27, some (256, false)⟩, ⟨some 259, .move (.tmp 258), some (256, false)⟩, ⟨some 260, .move (.tmp 18), some (259, true)⟩, ⟨some 261, .binOp .eql 27 (.tmp 260) (.const (.int .i64 0)) 27, some (259, true)⟩, ⟨some 262, .pick (.tmp 259) (.tmp 261) (.const (.bool false)), some (256, false)⟩, ⟨some 263, .move (.tmp 262), some (256, false)⟩, ⟨some 264, .move (.tmp 31), some (263, true)⟩, ⟨some 265, .move (.tmp 16), some (263, true)⟩, ⟨some 266, .binOp .geq 3 (.tmp 264) (.tmp 265) 3, some (263, true)⟩, ⟨some 267, .pick (.tmp 263) (.tmp 266) (.const (.bool false)), some (256, false)⟩, ⟨some 268, .pick (.tmp 256) (.const (.bool true)) (.tmp 267), none⟩, ⟨some 269, .move (.tmp 268), none⟩, ⟨some 270, .call { callee := .value (.func 16), args := #[], argTypes := #[] }, some (269, true)⟩, ⟨some 271, .pick (.tmp 269) (.tmp 270) (.const (.bool false)), none⟩, ⟨some 6, .assign (.tmp 271), none⟩]) .ret)))))))))))))))⟩
theorem sf13 : sfOf Tryd.f13 = some s13 := by kernel_rfl
theorem hb13 : hasBody Tryd.prog 13 = true := by kernel_rfl
end Go.Dw.Seat
end
section
namespace Go.Dw.Seat
open Go Go.Dw Go.Proofs
def s16 : SF := ⟨222, [.tmp 0], (.seq (.reg false [Oo 0 (.assign (.const (.bool false)))]) (.seq (.reg false [Oo 28 (.build 23 #[(0, (.const (.int .i64 5))), (1, (.const (.int .i64 100))), (2, (.const (.int .i64 80))), (3, (.const (.int .i64 1)))]), Cl 29 57 #[.const (.int .i64 300), .const (.int .i64 320), .const (.int .i64 100), .const (.int .i64 110)] #[3, 3, 3, 3], Oo 1 (.alloc 23), Oo 2 (.alloc 70), ⟨none, .store 23 (.tmp 1) (.tmp 28), none⟩, ⟨none, .store 70 (.tmp 2) (.tmp 29), none⟩]) (.seq (.reg false [Ld 31 23 1, Oo 32 (.buildSlice 24 3 #[(0, (.const (.int .i64 120))), (1, (.const (.int .i64 110))), (2, (.const (.int .i64 90)))]), Cl 33 19 #[.tmp 31, .tmp 32, .const (.int .i64 5)] #[23, 24, 3], Mv 30 33, Xt 34 30 0, Xt 35 30 1, Sg 3 34, Sg 4 35]) (.seq (.reg false [Ld 37 23 1, Oo 38 (.buildSlice 24 4 #[(0, (.const (.int .i64 120))), (1, (.const (.int .i64 110))), (2, (.const (.int .i64 70))), (3, (.const (.int .i64 60)))]), Cl 39 19 #[.tmp 37, .tmp 38, .const (.int .i64 5)] #[23, 24, 3], Mv 36 39, Xt 40 36 0, Xt 41 36 1, Sg 5 40, Sg 6 41]) (.seq (.reg false [Ld 43 23 1, Oo 44 (.buildSlice 24 3 #[(0, (.const (.int .i64 120))), (1, (.const (.int .i64 110))), (2, (.const (.int .i64 90)))]), Cl 45 20 #[.tmp 43, .tmp 44, .const (.int .i64 5)] #[23, 24, 3], Mv 42 45, Xt 46 42 0, Xt 47 42 1, Xt 48 42 2, Sg 7 46, Sg 8 47, Sg 9 48]) (.seq (.reg false [Oo 50 (.buildSlice 24 4 #[(0, (.const (.int .i64 100))), (1, (.const (.int .i64 130))), (2, (.const (.int .i64 104))), (3, (.const (.int .i64 98)))]), Cl 51 27 #[.tmp 50, .const (.int .i64 5), .const (.int .i64 10)] #[24, 3, 3], Mv 49 51, Xt 52 49 0, Xt 53 49 1, Sg 10 52, Sg 11 53]) (.seq (.reg false [Cl 55 31 #[.const (.int .i64 5000), .const (.int .i64 6000)] #[3, 3], Cl 56 31 #[.const (.int .i64 4000), .const (.int .i64 4200)] #[3, 3], Oo 57 (.build 47 #[(0, (.tmp 55)), (1, (.tmp 56)), (2, (.const (.int .i64 1600))), (3, (.const (.int .i64 587)))]), Cl 58 29 #[.tmp 57] #[47], Mv 54 58, Xt 59 54 0, Xt 60 54 1, Oo 12 (.alloc 45), ⟨none, .store 45 (.tmp 12) (.tmp 59), none⟩, Sg 13 60]) (.seq (.reg false [Ld 62 70 2, Ld 63 70 2, Ld 64 70 2, Oo 65 (.buildSlice 53 3 #[(0, (.tmp 62)), (1, (.tmp 63)), (2, (.tmp 64))]), Cl 66 35 #[.tmp 65] #[53], Mv 61 66, Xt 67 61 0, Xt 68 61 1, Sg 14 67, Sg 15 68]) (.seq (.reg true [Ld 70 70 2, Ld 71 70 2, Ld 72 70 2, Oo 73 (.buildSlice 53 3 #[(0, (.tmp 70)), (1, (.tmp 71)), (2, (.tmp 72))]), Cl 74 58 #[] #[], Cl 75 36 #[.tmp 73, .tmp 74, .const (.int .i64 40)] #[53, 54, 3], Mv 69 75, Xt 76 69 0, Xt 77 69 1, Xt 78 69 2, Sg 16 76, Sg 17 77, Sg 18 78]) (.seq (.reg true [Ld 80 70 2, Ld 81 70 2, Ld 82 70 2, Oo 83 (.buildSlice 53 3 #[(0, (.tmp 80)), (1, (.tmp 81)), (2, (.tmp 82))]), Cl 84 58 #[] #[], Cl 85 36 #[.tmp 83, .tmp 84, .const (.int .i64 29)] #[53, 54, 3], Mv 79 85, Xt 86 79 0, Xt 87 79 1, Xt 88 79 2, Sg 19 86, Sg 20 87, Sg 21 88]) (.seq (.reg true [Ld 90 70 2, Cl 91 58 #[] #[], Cl 92 43 #[.tmp 90, .tmp 91, .const (.int .i64 10)] #[70, 54, 3], Mv 89 92, Xt 93 89 0, Xt 94 89 1, Sg 22 93, Sg 23 94]) (.seq (.reg false [Cl 96 57 #[.const (.int .i64 100), .const (.int .i64 100), .const (.int .i64 50), .const (.int .i64 50)] #[3, 3, 3, 3], Cl 97 57 #[.const (.int .i64 200), .const (.int .i64 200), .const (.int .i64 100), .const (.int .i64 100)] #[3, 3, 3, 3], Cl 98 57 #[.const (.int .i64 40), .const (.int .i64 40), .const (.int .i64 60), .const (.int .i64 60)] #[3, 3, 3, 3], Oo 99 (.buildSlice 53 3 #[(0, (.tmp 96)), (1, (.tmp 97)), (2, (.tmp 98))]), Cl 100 58 #[] #[], Oo 101 (.slice 54 (.tmp 100) none (some (.const (.int .i64 1))) (some (.const (.int .i64 1)))), Cl 102 45 #[.tmp 99, .tmp 101, .const (.int .i64 0)] #[53, 54, 3], Mv 95 102, Xt 103 95 0, Xt 104 95 1, Sg 24 103, Sg 25 104]) (.seq (.reg false [Cl 106 57 #[.const (.int .i64 100), .const (.int .i64 100), .const (.int .i64 50), .const (.int .i64 50)] #[3, 3, 3, 3], Cl 107 57 #[.const (.int .i64 40), .const (.int .i64 40), .const (.int .i64 60), .const (.int .i64 60)] #[3, 3, 3, 3], Cl 108 57 #[.const (.int .i64 50), .const (.int .i64 50), .const (.int .i64 60), .const (.int .i64 60)] #[3, 3, 3, 3], Oo 109 (.buildSlice 53 3 #[(0, (.tmp 106)), (1, (.tmp 107)), (2, (.tmp 108))]), Cl 110 58 #[] #[], Oo 111 (.slice 54 (.tmp 110) none (some (.const (.int .i64 1))) (some (.const (.int .i64 1)))), Cl 112 46 #[.tmp 109, .tmp 111, .const (.int .i64 0)] #[53, 54, 3], Mv 105 112, Xt 113 105 0, Xt 114 105 1, Sg 26 113, Sg 27 114]) (.seq (.seq (.reg false [Mv 115 4, Oo 116 (.binOp .neq 27 (.tmp 115) (.const (.int .i64 0)) 27), Mv 117 116, Og 118 (.move (.tmp 6)) 117 false, Og 119 (.binOp .neq 27 (.tmp 118) (.const (.int .i64 0)) 27) 117 false, Oo 120 (.pick (.tmp 117) (.const (.bool true)) (.tmp 119)), Mv 121 120, Og 122 (.move (.tmp 9)) 121 false, Og 123 (.binOp .neq 27 (.tmp 122) (.const (.int .i64 0)) 27) 121 false, Oo 124 (.pick (.tmp 121) (.const (.bool true)) (.tmp 123)), Mv 125 124, Og 126 (.move (.tmp 11)) 125 false, Og 127 (.binOp .neq 27 (.tmp 126) (.const (.int .i64 0)) 27) 125 false, Oo 128 (.pick (.tmp 125) (.const (.bool true)) (.tmp 127)), Mv 129 128, Og 130 (.move (.tmp 13)) 129 false, Og 131 (.binOp .neq 27 (.tmp 130) (.const (.int .i64 0)) 27) 129 false, Oo 132 (.pick (.tmp 129) (.const (.bool true)) (.tmp 131)), Mv 133 132, Og 134 (.move (.tmp 15)) 133 false, Og 135 (.binOp .neq 27 (.tmp 134) (.const (.int .i64 0)) 27) 133 false, Oo 136 (.pick (.tmp 133) (.const (.bool true)) (.tmp 135)), Mv 137 136, Og 138 (.move (.tmp 18)) 137 false, Og 139 (.binOp .neq 27 (.tmp 138) (.const (.int .i64 0)) 27) 137 false, Oo 140 (.pick (.tmp 137) (.const (.bool true)) (.tmp 139)), Mv 141 140, Og 142 (.move (.tmp 21)) 141 false, Og 143 (.binOp .neq 27 (.tmp 142) (.const (.int .i64 7)) 27) 141 false, Oo 144 (.pick (.tmp 141) (.const (.bool true)) (.tmp 143)), Mv 145 144, Og 146 (.move (.tmp 23)) 145 false, Og 147 (.binOp .neq 27 (.tmp 146) (.const (.int .i64 0)) 27) 145 false, Oo 148 (.pick (.tmp 145) (.const (.bool true)) (.tmp 147)), Mv 149 148, Og 150 (.move (.tmp 25)) 149 false, Og 151 (.binOp .neq 27 (.tmp 150) (.const (.int .i64 0)) 27) 149 false, Oo 152 (.pick (.tmp 149) (.const (.bool true)) (.tmp 151)), Mv 153 152, Og 154 (.move (.tmp 27)) 153 false, Og 155 (.binOp .neq 27 (.tmp 154) (.const (.int .i64 0)) 27) 153 false, Oo 156 (.pick (.tmp 153) (.const (.bool true)) (.tmp 155)), Mv 157 156, Og 158 (.move (.tmp 14)) 157 false, Og 159 (.call { callee := .builtin .len, args := #[.tmp 158], argTypes := #[57] }) 157 false, Og 160 (.binOp .neq 3 (.tmp 159) (.const (.int .i64 3)) 3) 157 false, Oo 161 (.pick (.tmp 157) (.const (.bool true)) (.tmp 160))]) (.cond (.tmp 161) (.seq (.reg false [Oo 0 (.assign (.const (.bool false)))]) .ret) .skip)) (.seq (.reg true [Mv 162 3, Oo 163 (.binOp .eql 29 (.tmp 162) (.const (.int .i64 3)) 29), Mv 164 163, Og 165 (.move (.tmp 5)) 164 true, Og 166 (.binOp .eql 29 (.tmp 165) (.const (.int .i64 2)) 29) 164 true, Oo 167 (.pick (.tmp 164) (.tmp 166) (.const (.bool false))), Mv 168 167, Og 169 (.move (.tmp 7)) 168 true, Og 170 (.binOp .eql 3 (.tmp 169) (.const (.int .i64 1)) 3) 168 true, Oo 171 (.pick (.tmp 168) (.tmp 170) (.const (.bool false))), Mv 172 171, Og 173 (.move (.tmp 8)) 172 true, Og 174 (.binOp .eql 3 (.tmp 173) (.const (.int .i64 2)) 3) 172 true, Oo 175 (.pick (.tmp 172) (.tmp 174) (.const (.bool false))), Mv 176 175, Og 177 (.move (.tmp 10)) 176 true, Og 178 (.buildSlice 24 1 #[(0, (.const (.int .i64 1)))]) 176 true, Og 179 (.call { callee := .value (.func 22), args := #[.tmp 177, .tmp 178], argTypes := #[24, 24] }) 176 true, Oo 180 (.pick (.tmp 176) (.tmp 179) (.const (.bool false))), Mv 181 180, Og 182 (.load 45 (.tmp 12)) 181 true, Og 183 (.call { callee := .value (.func 31), args := #[.const (.int .i64 74226), .const (.int .i64 91290)], argTypes := #[3, 3] }) 181 true, Og 184 (.binOp .eql 45 (.tmp 182) (.tmp 183) 45) 181 true, Oo 185 (.pick (.tmp 181) (.tmp 184) (.const (.bool false))), Mv 186 185, Og 187 (.move (.tmp 14)) 186 true, Og 188 (.indexAddr 57 (.tmp 187) (.const (.int .i64 0))) 186 true, Og 189 (.load 45 (.tmp 188)) 186 true, Og 190 (.call { callee := .value (.func 31), args := #[.const (.int .i64 200), .const (.int .i64 220)], argTypes := #[3, 3] }) 186 true, Og 191 (.binOp .eql 45 (.tmp 189) (.tmp 190) 45) 186 true, Oo 192 (.pick (.tmp 186) (.tmp 191) (.const (.bool false))), Mv 193 192, Og 194 (.move (.tmp 14)) 193 true, Og 195 (.indexAddr 57 (.tmp 194) (.const (.int .i64 2))) 193 true, Og 196 (.load 45 (.tmp 195)) 193 true, Og 197 (.call { callee := .value (.func 31), args := #[.const (.int .i64 0), .const (.int .i64 0)], argTypes := #[3, 3] }) 193 true, Og 198 (.binOp .eql 45 (.tmp 196) (.tmp 197) 45) 193 true, Oo 199 (.pick (.tmp 193) (.tmp 198) (.const (.bool false))), Mv 200 199, Og 201 (.move (.tmp 16)) 200 true, Og 202 (.binOp .eql 3 (.tmp 201) (.const (.int .i64 30)) 3) 200 true, Oo 203 (.pick (.tmp 200) (.tmp 202) (.const (.bool false))), Mv 204 203, Og 205 (.move (.tmp 17)) 204 true, Og 206 (.binOp .eql 3 (.tmp 205) (.const (.int .i64 0)) 3) 204 true, Oo 207 (.pick (.tmp 204) (.tmp 206) (.const (.bool false))), Mv 208 207, Og 209 (.move (.tmp 22)) 208 true, Og 210 (.binOp .eql 3 (.tmp 209) (.const (.int .i64 3)) 3) 208 true, Oo 211 (.pick (.tmp 208) (.tmp 210) (.const (.bool false))), Mv 212 211, Og 213 (.move (.tmp 24)) 212 true, Og 214 (.buildSlice 24 3 #[(0, (.const (.int .i64 1))), (1, (.const (.int .i64 0))), (2, (.const (.int .i64 2)))]) 212 true, Og 215 (.call { callee := .value (.func 22), args := #[.tmp 213, .tmp 214], argTypes := #[24, 24] }) 212 true, Oo 216 (.pick (.tmp 212) (.tmp 215) (.const (.bool false))), Mv 217 216, Og 218 (.move (.tmp 26)) 217 true, Og 219 (.buildSlice 24 2 #[(0, (.const (.int .i64 0))), (1, (.const (.int .i64 1)))]) 217 true, Og 220 (.call { callee := .value (.func 22), args := #[.tmp 218, .tmp 219], argTypes := #[24, 24] }) 217 true, Oo 221 (.pick (.tmp 217) (.tmp 220) (.const (.bool false))), Sg 0 221]) .ret)))))))))))))))⟩
theorem sf16 : sfOf Tryd.f16 = some s16 := by kernel_rfl
theorem hb16 : hasBody Tryd.prog 16 = true := by kernel_rfl
def s18 : SF := ⟨42, [.tmp 6], (.seq (.reg false [Oo 3 (.box 23 (.tmp 0)), Oo 6 (.assign (.const (.int .i64 0)))]) (.seq (.block 0 (.seq (.seq (.reg false [Fa 8 23 3 0, Ld 9 3 8, Oo 10 (.buildSlice 24 1 #[(0, (.tmp 9))]), Cl 11 59 #[.const (.int .i64 1), .const (.int .i64 20), .tmp 10] #[3, 3, 24], Oo 12 (.unOp .not 4 (.tmp 11)), Sg 7 12]) (.cond (.tmp 7) .skip (.seq (.reg false [Fa 13 23 3 1, Ld 14 3 13, Fa 15 23 3 2, Ld 16 3 15, Oo 17 (.buildSlice 24 2 #[(0, (.tmp 14)), (1, (.tmp 16))]), Cl 18 59 #[.const (.int .i64 0), .const (.int .i64 100000), .tmp 17] #[3, 3, 24], Oo 19 (.unOp .not 4 (.tmp 18)), Sg 7 19]) (.cond (.tmp 7) .skip (.reg false [Fa 20 23 3 0, Ld 21 3 20, Fa 22 23 3 3, Ld 23 3 22, Oo 24 (.buildSlice 24 1 #[(0, (.tmp 23))]), Cl 25 59 #[.const (.int .i64 0), .tmp 21, .tmp 24] #[3, 3, 24], Oo 26 (.unOp .not 4 (.tmp 25)), Sg 7 26]))))) (.cond (.tmp 7) (.seq (.reg false [Oo 6 (.assign (.const (.int .i64 2)))]) .ret) (.seq (.reg false [Mv 28 2, Oo 29 (.buildSlice 24 1 #[(0, (.tmp 28))]), Cl 30 59 #[.const (.int .i64 0), .const (.int .i64 1000), .tmp 29] #[3, 3, 24], Oo 31 (.unOp .not 4 (.tmp 30)), Sg 27 31]) (.cond (.tmp 27) (.seq (.reg false [Oo 6 (.assign (.const (.int .i64 3)))]) .ret) (.seq (.reg false [Mv 33 1, Ln 34 33 24, Fa 35 23 3 0, Ld 36 3 35, Oo 37 (.binOp .gtr 3 (.tmp 34) (.tmp 36) 3), Sg 32 37]) (.cond (.tmp 32) (.seq (.reg false [Oo 6 (.assign (.const (.int .i64 5)))]) .ret) (.seq (.reg false [Mv 39 1, Cl 40 59 #[.const (.int .i64 0), .const (.int .i64 100000), .tmp 39] #[3, 3, 24], Oo 41 (.unOp .not 4 (.tmp 40)), Sg 38 41]) (.cond (.tmp 38) (.seq (.reg false [Oo 6 (.assign (.const (.int .i64 4)))]) .ret) .skip))))))))) (.seq (.reg false [Oo 6 (.assign (.const (.int .i64 0)))]) .ret)))⟩
theorem sf18 : sfOf Tryd.f18 = some s18 := by kernel_rfl
theorem hb18 : hasBody Tryd.prog 18 = true := by kernel_rfl
def s19 : SF := ⟨21, [.tmp 6, .tmp 7], (.seq (.reg false [Oo 3 (.box 23 (.tmp 0)), Oo 6 (.assign (.const (.int .i64 0))), Oo 7 (.assign (.const (.int .i64 0)))]) (.seq (.seq (.reg false [Ld 9 23 3, Mv 10 1, Mv 11 2, Cl 12 18 #[.tmp 9, .tmp 10, .tmp 11] #[23, 24, 3], Sg 8 12]) (.seq (.reg false [Mv 13 8, Oo 14 (.binOp .neq 27 (.tmp 13) (.const (.int .i64 0)) 27)]) (.cond (.tmp 14) (.seq (.reg false [Mv 15 8, Oo 6 (.assign (.const (.int .i64 0))), Sg 7 15]) .ret) .skip))) (.seq (.reg false [Ld 16 23 3, Mv 17 1, Mv 18 2, Cl 19 60 #[.tmp 16, .tmp 17, .tmp 18] #[23, 24, 3], Cl 20 61 #[.tmp 19] #[123], Sg 6 20, Oo 7 (.assign (.const (.int .i64 0)))]) .ret)))⟩
theorem sf19 : sfOf Tryd.f19 = some s19 := by kernel_rfl
theorem hb19 : hasBody Tryd.prog 19 = true := by kernel_rfl
def s20 : SF := ⟨26, [.tmp 6, .tmp 7, .tmp 8], (.seq (.reg false [Oo 3 (.box 23 (.tmp 0)), Oo 6 (.assign (.const (.int .i64 0))), Oo 7 (.assign (.const (.int .i64 0))), Oo 8 (.assign (.const (.int .i64 0)))]) (.seq (.seq (.reg false [Ld 11 23 3, Mv 12 1, Mv 13 2, Cl 14 18 #[.tmp 11, .tmp 12, .tmp 13] #[23, 24, 3], Sg 9 14]) (.seq (.reg false [Mv 15 9, Oo 16 (.binOp .neq 27 (.tmp 15) (.const (.int .i64 0)) 27)]) (.cond (.tmp 16) (.seq (.reg false [Mv 17 9, Oo 6 (.assign (.const (.int .i64 0))), Oo 7 (.assign (.const (.int .i64 0))), Sg 8 17]) .ret) .skip))) (.seq (.reg false [Ld 18 23 3, Mv 19 1, Mv 20 2, Cl 21 60 #[.tmp 18, .tmp 19, .tmp 20] #[23, 24, 3], Oo 10 (.alloc 123), ⟨none, .store 123 (.tmp 10) (.tmp 21), none⟩]) (.seq (.reg true [Ld 22 123 10, Cl 23 62 #[.tmp 22, .const (.int .i64 1), .const (.int .i64 100000)] #[123, 29, 3], Ld 24 123 10, Cl 25 62 #[.tmp 24, .const (.int .i64 2), .const (.int .i64 0)] #[123, 29, 3], Sg 6 23, Sg 7 25, Oo 8 (.assign (.const (.int .i64 0)))]) .ret))))⟩
theorem sf20 : sfOf Tryd.f20 = some s20 := by kernel_rfl
theorem hb20 : hasBody Tryd.prog 20 = true := by kernel_rfl
def s22 : SF := ⟨26, [.tmp 4], (.seq (.reg false [Oo 4 (.assign (.const (.bool false)))]) (.seq (.seq (.reg false [Mv 6 0, Ln 7 6 24, Mv 8 1, Ln 9 8 24, Oo 10 (.binOp .neq 3 (.tmp 7) (.tmp 9) 3)]) (.cond (.tmp 10) (.seq (.reg false [Oo 4 (.assign (.const (.bool false)))]) .ret) .skip)) (.seq (.seq (.reg false [Oo 5 (.assign (.const (.int .i64 0)))]) (.block 0 (.loop (.seq (.seq (.reg false [Mv 11 5, Mv 12 0, Ln 13 12 24, Oo 14 (.binOp .lss 3 (.tmp 11) (.tmp 13) 3)]) (.cond (.tmp 14) .skip (.exit 0))) (.seq (.block 1 (.seq (.reg true [Mv 17 0, Mv 18 5, Ix 19 24 17 18, Ld 20 3 19, Mv 21 1, Mv 22 5, Ix 23 24 21 22, Ld 24 3 23, Oo 25 (.binOp .neq 3 (.tmp 20) (.tmp 24) 3)]) (.cond (.tmp 25) (.seq (.reg false [Oo 4 (.assign (.const (.bool false)))]) .ret) .skip))) (.reg false [Mv 15 5, Oo 16 (.binOp .add 3 (.tmp 15) (.const (.int .i64 1)) 3), Sg 5 16])))))) (.seq (.reg false [Oo 4 (.assign (.const (.bool true)))]) .ret))))⟩
theorem sf22 : sfOf Tryd.f22 = some s22 := by kernel_rfl
theorem hb22 : hasBody Tryd.prog 22 = true := by kernel_rfl
def s27 : SF := ⟨66, [.tmp 6, .tmp 7], (.seq (.reg false [Oo 6 (.assign (.const (.slice none 0 0))), Oo 7 (.assign (.const (.int .i64 0)))]) (.seq (.block 0 (.seq (.reg false [Mv 13 0, Ln 14 13 24, Oo 15 (.binOp .gtr 3 (.tmp 14) (.const (.int .i64 20)) 3), Sg 12 15]) (.cond (.tmp 12) (.seq (.reg false [Oo 6 (.assign (.const (.slice none 0 0))), Oo 7 (.assign (.const (.int .i64 5)))]) .ret) (.seq (.seq (.reg false [Mv 17 1, Oo 18 (.buildSlice 24 1 #[(0, (.tmp 17))]), Cl 19 59 #[.const (.int .i64 0), .const (.int .i64 1000), .tmp 18] #[3, 3, 24], Oo 20 (.unOp .not 4 (.tmp 19)), Sg 16 20]) (.cond (.tmp 16) .skip (.reg false [Mv 21 2, Oo 22 (.buildSlice 24 1 #[(0, (.tmp 21))]), Cl 23 59 #[.const (.int .i64 0), .const (.int .i64 100000), .tmp 22] #[3, 3, 24], Oo 24 (.unOp .not 4 (.tmp 23)), Sg 16 24]))) (.cond (.tmp 16) (.seq (.reg false [Oo 6 (.assign (.const (.slice none 0 0))), Oo 7 (.assign (.const (.int .i64 3)))]) .ret) (.seq (.reg false [Mv 26 0, Cl 27 59 #[.const (.int .i64 0), .const (.int .i64 100000), .tmp 26] #[3, 3, 24], Oo 28 (.unOp .not 4 (.tmp 27)), Sg 25 28]) (.cond (.tmp 25) (.seq (.reg false [Oo 6 (.assign (.const (.slice none 0 0))), Oo 7 (.assign (.const (.int .i64 4)))]) .ret) .skip))))))) (.seq (.seq (.reg false [Mv 29 0, Ln 30 29 24, Oo 31 (.move (.const (.int .i64 0)))]) (.block 1 (.loop (.seq (.reg false [Oo 32 (.binOp .lss 3 (.tmp 31) (.tmp 30) 3)]) (.seq (.cond (.tmp 32) .skip (.exit 1)) (.seq (.block 2 (.seq (.reg false [Mv 33 31, Ix 34 24 29 31, Ld 35 3 34, Sg 8 33, Sg 9 35]) (.seq (.reg false [Mv 36 1, Mv 37 9, Cl 38 65 #[.tmp 36, .tmp 37] #[119, 3], Oo 39 (.field 45 (.tmp 38) 1), Sg 10 39]) (.seq (.reg false [Mv 40 1, Mv 41 0, Mv 42 10, Mv 43 10, Mv 44 2, Oo 45 (.binOp .add 3 (.tmp 43) (.tmp 44) 3), Oo 46 (.build 45 #[(0, (.tmp 42)), (1, (.tmp 45))]), Cl 47 66 #[.tmp 40, .tmp 41, .tmp 46] #[119, 24, 45], Sg 11 47]) (.seq (.reg false [Mv 48 8, Oo 49 (.binOp .eql 3 (.tmp 48) (.const (.int .i64 0)) 3), Mv 50 49, Og 51 (.move (.tmp 11)) 50 false, Og 52 (.call { callee := .builtin .len, args := #[.tmp 51], argTypes := #[24] }) 50 false, Og 53 (.move (.tmp 6)) 50 false, Og 54 (.call { callee := .builtin .len, args := #[.tmp 53], argTypes := #[24] }) 50 false, Og 55 (.call { callee := .value (.func 68), args := #[.tmp 52, .tmp 54], argTypes := #[3, 3] }) 50 false, Og 56 (.move (.tmp 11)) 50 false, Og 57 (.move (.tmp 6)) 50 false, Og 58 (.call { callee := .value (.func 69), args := #[.tmp 56, .tmp 57], argTypes := #[24, 24] }) 50 false, Og 59 (.buildSlice 24 2 #[(0, (.tmp 55)), (1, (.tmp 58))]) 50 false, Og 60 (.call { callee := .value (.func 67), args := #[.tmp 59], argTypes := #[24] }) 50 false, Og 61 (.binOp .lss 3 (.tmp 60) (.const (.int .i64 0)) 3) 50 false, Oo 62 (.pick (.tmp 50) (.const (.bool true)) (.tmp 61))]) (.cond (.tmp 62) (.reg false [Mv 63 11, Sg 6 63]) .skip)))))) (.reg false [Oo 64 (.binOp .add 3 (.tmp 31) (.const (.int .i64 1)) 3), Mv 31 64]))))))) (.seq (.reg false [Mv 65 6, Sg 6 65, Oo 7 (.assign (.const (.int .i64 0)))]) .ret))))⟩
theorem sf27 : sfOf Tryd.f27 = some s27 := by kernel_rfl
theorem hb27 : hasBody Tryd.prog 27 = true := by kernel_rfl
def s29 : SF := ⟨48, [.cell 2 45, .tmp 3], (.seq (.reg false [Oo 1 (.box 47 (.tmp 0)), Oo 2 (.alloc 45), Oo 3 (.assign (.const (.int .i64 0)))]) (.seq (.seq (.reg false [Fa 5 47 1 0, Ld 6 45 5, Cl 7 72 #[.tmp 6, .const (.int .i64 0), .const (.int .i64 100000)] #[45, 3, 3], Oo 8 (.unOp .not 4 (.tmp 7)), Mv 9 8, Og 10 (.fieldAddr 47 (.tmp 1) 1) 9 false, Og 11 (.load 45 (.tmp 10)) 9 false, Og 12 (.call { callee := .value (.func 72), args := #[.tmp 11, .const (.int .i64 1), .const (.int .i64 10000)], argTypes := #[45, 3, 3] }) 9 false, Og 13 (.unOp .not 4 (.tmp 12)) 9 false, Oo 14 (.pick (.tmp 9) (.const (.bool true)) (.tmp 13)), Mv 15 14, Og 16 (.fieldAddr 47 (.tmp 1) 2) 15 false, Og 17 (.load 3 (.tmp 16)) 15 false, Og 18 (.buildSlice 24 1 #[(0, (.tmp 17))]) 15 false, Og 19 (.call { callee := .value (.func 59), args := #[.const (.int .i64 1), .const (.int .i64 20000), .tmp 18], argTypes := #[3, 3, 24] }) 15 false, Og 20 (.unOp .not 4 (.tmp 19)) 15 false, Oo 21 (.pick (.tmp 15) (.const (.bool true)) (.tmp 20)), Mv 22 21, Og 23 (.fieldAddr 47 (.tmp 1) 3) 22 false, Og 24 (.load 3 (.tmp 23)) 22 false, Og 25 (.buildSlice 24 1 #[(0, (.tmp 24))]) 22 false, Og 26 (.call { callee := .value (.func 59), args := #[.const (.int .i64 1), .const (.int .i64 1000), .tmp 25], argTypes := #[3, 3, 24] }) 22 false, Og 27 (.unOp .not 4 (.tmp 26)) 22 false, Oo 28 (.pick (.tmp 22) (.const (.bool true)) (.tmp 27))]) (.cond (.tmp 28) (.seq (.reg false [Ld 29 45 2, ⟨none, .store 45 (.tmp 2) (.tmp 29), none⟩, Oo 3 (.assign (.const (.int .i64 2)))]) .ret) .skip)) (.seq (.reg false [Oo 30 (.makeFunc (.func 73) #[] #[.tmp 1]), Sg 4 30]) (.seq (.reg true [Mv 31 4, Fa 32 47 1 0, Fa 33 45 32 0, Ld 34 3 33, Fa 35 47 1 1, Fa 36 45 35 0, Ld 37 3 36, Oo 38 (.call { callee := .value (.tmp 31), args := #[.tmp 34, .tmp 37], argTypes := #[3, 3] }), Mv 39 4, Fa 40 47 1 0, Fa 41 45 40 1, Ld 42 3 41, Fa 43 47 1 1, Fa 44 45 43 1, Ld 45 3 44, Oo 46 (.call { callee := .value (.tmp 39), args := #[.tmp 42, .tmp 45], argTypes := #[3, 3] }), Oo 47 (.build 45 #[(0, (.tmp 38)), (1, (.tmp 46))]), ⟨none, .store 45 (.tmp 2) (.tmp 47), none⟩, Oo 3 (.assign (.const (.int .i64 0)))]) .ret))))⟩
theorem sf29 : sfOf Tryd.f29 = some s29 := by kernel_rfl
theorem hb29 : hasBody Tryd.prog 29 = true := by kernel_rfl
def s31 : SF := ⟨8, [.cell 4 45], (.seq (.reg false [Oo 4 (.alloc 45)]) (.seq (.reg false [Mv 5 0, Mv 6 1, Oo 7 (.build 45 #[(0, (.tmp 5)), (1, (.tmp 6))]), ⟨none, .store 45 (.tmp 4) (.tmp 7), none⟩]) .ret))⟩
theorem sf31 : sfOf Tryd.f31 = some s31 := by kernel_rfl
theorem hb31 : hasBody Tryd.prog 31 = true := by kernel_rfl
def s33 : SF := ⟨6, [.tmp 2], (.seq (.reg false [Oo 2 (.assign (.const (.slice none 0 0)))]) (.seq (.reg false [Oo 3 (.buildSlice 53 0 #[]), Mv 4 0, Oo 5 (.call { callee := .builtin .append, args := #[.tmp 3, .tmp 4], argTypes := #[53, 53] }), Sg 2 5]) .ret))⟩
theorem sf33 : sfOf Tryd.f33 = some s33 := by kernel_rfl
theorem hb33 : hasBody Tryd.prog 33 = true := by kernel_rfl
def s34 : SF := ⟨6, [.tmp 2], (.seq (.reg false [Oo 2 (.assign (.const (.slice none 0 0)))]) (.seq (.reg false [Oo 3 (.buildSlice 54 0 #[]), Mv 4 0, Oo 5 (.call { callee := .builtin .append, args := #[.tmp 3, .tmp 4], argTypes := #[54, 54] }), Sg 2 5]) .ret))⟩
theorem sf34 : sfOf Tryd.f34 = some s34 := by kernel_rfl
theorem hb34 : hasBody Tryd.prog 34 = true := by kernel_rfl
def s35 : SF := ⟨25, [.tmp 2, .tmp 3], (.seq (.reg false [Oo 2 (.assign (.const (.slice none 0 0))), Oo 3 (.assign (.const (.int .i64 0)))]) (.seq (.seq (.reg false [Mv 8 0, Cl 9 76 #[.tmp 8, .const (.int .i64 50)] #[53, 3], Sg 4 9]) (.seq (.reg false [Mv 10 4, Oo 11 (.binOp .neq 27 (.tmp 10) (.const (.int .i64 0)) 27)]) (.cond (.tmp 11) (.seq (.reg false [Mv 12 4, Oo 2 (.assign (.const (.slice none 0 0))), Sg 3 12]) .ret) .skip))) (.seq (.reg false [Mv 13 0, Ln 14 13 53, Oo 15 (.makeSlice 57 (.tmp 14) (.tmp 14)), Oo 5 (.alloc 57), ⟨none, .store 57 (.tmp 5) (.tmp 15), none⟩]) (.seq (.seq (.reg false [Mv 16 0, Cl 17 77 #[.tmp 16] #[53]]) (.block 0 (.rng (.tmp 17) [18, 19] (.seq (.reg false [Sg 6 18]) (.reg false [Oo 7 (.alloc 45), ⟨none, .store 45 (.tmp 7) (.tmp 19), none⟩])) (.block 1 (.reg false [Ld 20 57 5, Mv 21 6, Ld 22 45 7, Ix 23 57 20 21, ⟨none, .store 45 (.tmp 23) (.tmp 22), none⟩]))))) (.seq (.reg false [Ld 24 57 5, Sg 2 24, Oo 3 (.assign (.const (.int .i64 0)))]) .ret)))))⟩
theorem sf35 : sfOf Tryd.f35 = some s35 := by kernel_rfl
theorem hb35 : hasBody Tryd.prog 35 = true := by kernel_rfl
def s36 : SF := ⟨53, [.tmp 6, .tmp 7, .tmp 8], (.seq (.reg false [Oo 6 (.assign (.const (.int .i64 0))), Oo 7 (.assign (.const (.int .i64 0))), Oo 8 (.assign (.const (.int .i64 0)))]) (.seq (.seq (.reg false [Mv 15 0, Cl 16 76 #[.tmp 15, .const (.int .i64 50)] #[53, 3], Sg 9 16]) (.seq (.reg false [Mv 17 9, Oo 18 (.binOp .neq 27 (.tmp 17) (.const (.int .i64 0)) 27)]) (.cond (.tmp 18) (.seq (.reg false [Mv 19 9, Oo 6 (.assign (.const (.int .i64 0))), Oo 7 (.assign (.const (.int .i64 0))), Sg 8 19]) .ret) .skip))) (.seq (.reg false [Mv 21 1, Mv 22 2, Cl 23 78 #[.tmp 21, .tmp 22] #[54, 3], Mv 20 23, Xt 24 20 0, Xt 25 20 1, Oo 10 (.alloc 138), ⟨none, .store 138 (.tmp 10) (.tmp 24), none⟩, Sg 8 25]) (.seq (.seq (.reg false [Mv 26 8, Oo 27 (.binOp .neq 27 (.tmp 26) (.const (.int .i64 0)) 27)]) (.cond (.tmp 27) (.seq (.reg false [Mv 28 8, Oo 6 (.assign (.const (.int .i64 0))), Oo 7 (.assign (.const (.int .i64 0))), Sg 8 28]) .ret) .skip)) (.seq (.seq (.reg false [Fa 29 138 10 0, Ld 30 54 29, Ln 31 30 54, Oo 32 (.move (.const (.int .i64 0)))]) (.block 0 (.loop (.seq (.reg false [Oo 33 (.binOp .lss 3 (.tmp 32) (.tmp 31) 3)]) (.seq (.cond (.tmp 33) .skip (.exit 0)) (.seq (.block 1 (.seq (.reg false [Ix 34 54 30 32, Ld 35 142 34, Oo 12 (.alloc 142), ⟨none, .store 142 (.tmp 12) (.tmp 35), none⟩]) (.seq (.seq (.reg false [Fa 36 142 12 0, Ld 37 3 36, Fa 38 138 10 1, Ld 39 3 38, Oo 40 (.binOp .gtr 3 (.tmp 37) (.tmp 39) 3)]) (.cond (.tmp 40) (.exit 0) .skip)) (.seq (.reg false [Mv 42 0, Fa 43 142 12 1, Ld 44 3 43, Cl 45 79 #[.tmp 42, .tmp 44] #[53, 3], Mv 41 45, Xt 46 41 0, Xt 47 41 1, Sg 13 46, Sg 14 47]) (.seq (.reg false [Mv 48 14]) (.cond (.tmp 48) (.seq (.reg false [Fa 49 142 12 0, Ld 50 3 49, Mv 51 13, Sg 6 50, Sg 7 51, Oo 8 (.assign (.const (.int .i64 0)))]) .ret) .skip)))))) (.reg false [Oo 52 (.binOp .add 3 (.tmp 32) (.const (.int .i64 1)) 3), Mv 32 52]))))))) (.seq (.reg false [Oo 6 (.assign (.const (.int .i64 0))), Oo 7 (.assign (.const (.int .i64 0))), Oo 8 (.assign (.const (.int .i64 7)))]) .ret))))))⟩
theorem sf36 : sfOf Tryd.f36 = some s36 := by kernel_rfl
theorem hb36 : hasBody Tryd.prog 36 = true := by kernel_rfl
def s43 : SF := ⟨42, [.tmp 6, .tmp 7], (.seq (.reg false [Oo 3 (.box 70 (.tmp 0)), Oo 6 (.assign (.const (.int .i64 0))), Oo 7 (.assign (.const (.int .i64 0)))]) (.seq (.seq (.reg false [Ld 11 70 3, Oo 12 (.buildSlice 53 1 #[(0, (.tmp 11))]), Cl 13 76 #[.tmp 12, .const (.int .i64 1)] #[53, 3], Sg 8 13]) (.seq (.reg false [Mv 14 8, Oo 15 (.binOp .neq 27 (.tmp 14) (.const (.int .i64 0)) 27)]) (.cond (.tmp 15) (.seq (.reg false [Mv 16 8, Oo 6 (.assign (.const (.int .i64 0))), Sg 7 16]) .ret) .skip))) (.seq (.reg false [Mv 18 1, Mv 19 2, Cl 20 78 #[.tmp 18, .tmp 19] #[54, 3], Mv 17 20, Xt 21 17 0, Xt 22 17 1, Oo 9 (.alloc 138), ⟨none, .store 138 (.tmp 9) (.tmp 21), none⟩, Sg 10 22]) (.seq (.block 0 (.seq (.reg false [Mv 24 10, Oo 25 (.binOp .neq 27 (.tmp 24) (.const (.int .i64 0)) 27), Sg 23 25]) (.cond (.tmp 23) (.seq (.reg false [Mv 26 10, Oo 6 (.assign (.const (.int .i64 0))), Sg 7 26]) .ret) (.seq (.reg false [Fa 28 70 3 1, Fa 29 45 28 1, Ld 30 3 29, Oo 31 (.binOp .eql 3 (.tmp 30) (.const (.int .i64 0)) 3), Sg 27 31]) (.cond (.tmp 27) (.seq (.reg false [Oo 6 (.assign (.const (.int .i64 50))), Oo 7 (.assign (.const (.int .i64 0)))]) .ret) .skip))))) (.seq (.reg true [Ld 32 70 3, Ld 33 138 9, Cl 34 85 #[.tmp 33] #[138], Cl 35 84 #[.tmp 32, .tmp 34] #[70, 3], Fa 36 70 3 1, Fa 37 45 36 1, Ld 38 3 37, Oo 39 (.binOp .quo 3 (.tmp 35) (.tmp 38) 3), Oo 40 (.binOp .add 3 (.const (.int .i64 1)) (.tmp 39) 3), Oo 41 (.call { callee := .builtin .min, args := #[.const (.int .i64 50), .tmp 40], argTypes := #[3, 3] }), Sg 6 41, Oo 7 (.assign (.const (.int .i64 0)))]) .ret)))))⟩
theorem sf43 : sfOf Tryd.f43 = some s43 := by kernel_rfl
theorem hb43 : hasBody Tryd.prog 43 = true := by kernel_rfl
def o45_0 : SO := ⟨some 38, .load 24 (.tmp 6), none⟩
def o45_1 : SO := ⟨some 39, .move (.tmp 10), none⟩
def o45_2 : SO := ⟨some 40, .buildSlice 24 1 #[(0, (.tmp 39))], none⟩
def o45_3 : SO := ⟨some 41, .call { callee := .builtin .append, args := #[.tmp 38, .tmp 40], argTypes := #[24, 24] }, none⟩
def o45_4 : SO := ⟨some 42, .load 154 (.tmp 9), none⟩
def o45_5 : SO := ⟨some 43, .move (.tmp 10), none⟩
def o45_6 : SO := ⟨some 44, .binOp .shl 154 (.const (.int .u64 1)) (.tmp 43) 3, none⟩
def o45_7 : SO := ⟨some 45, .binOp .andNot 154 (.tmp 42) (.tmp 44) 154, none⟩
def o45_8 : SO := ⟨none, .store 24 (.tmp 6) (.tmp 41), none⟩
def o45_9 : SO := ⟨none, .store 154 (.tmp 9) (.tmp 45), none⟩
def s45 : SF := ⟨47, [.cell 6 24, .tmp 7], (.seq (.reg false [⟨some 6, .alloc 24, none⟩, ⟨some 7, .assign (.const (.int .i64 0)), none⟩]) (.seq (.reg false [⟨some 12, .move (.tmp 0), none⟩, ⟨some 13, .move (.tmp 1), none⟩, ⟨some 14, .move (.tmp 2), none⟩, ⟨some 15, .call { callee := .value (.func 87), args := #[.tmp 12, .tmp 13, .tmp 14], argTypes := #[53, 54, 3] }, none⟩, ⟨some 11, .move (.tmp 15), none⟩, ⟨some 16, .extract (.tmp 11) 0, none⟩, ⟨some 17, .extract (.tmp 11) 1, none⟩, ⟨some 8, .alloc 151, none⟩, ⟨none, .store 151 (.tmp 8) (.tmp 16), none⟩, ⟨some 7, .assign (.tmp 17), none⟩]) (.seq (.seq (.reg false [⟨some 18, .move (.tmp 7), none⟩, ⟨some 19, .binOp .neq 27 (.tmp 18) (.const (.int .i64 0)) 27, none⟩]) (.cond (.tmp 19) (.seq (.reg false [⟨some 20, .move (.tmp 7), none⟩, ⟨none, .store 24 (.tmp 6) (.const (.slice none 0 0)), none⟩, ⟨some 7, .assign (.tmp 20), none⟩]) .ret) .skip)) (.seq (.reg false [⟨some 21, .move (.tmp 0), none⟩, ⟨some 22, .call { callee := .builtin .len, args := #[.tmp 21], argTypes := #[53] }, none⟩, ⟨some 23, .binOp .shl 154 (.const (.int .u64 1)) (.tmp 22) 3, none⟩, ⟨some 24, .binOp .sub 154 (.tmp 23) (.const (.int .u64 1)) 154, none⟩, ⟨some 9, .alloc 154, none⟩, ⟨none, .store 154 (.tmp 9) (.tmp 24), none⟩]) (.seq (.seq (.reg false [⟨some 25, .load 151 (.tmp 8), none⟩, ⟨some 26, .load 154 (.tmp 9), none⟩, ⟨some 27, .call { callee := .value (.func 88), args := #[.tmp 25, .tmp 26], argTypes := #[151, 154] }, none⟩, ⟨some 28, .unOp .not 4 (.tmp 27), none⟩]) (.cond (.tmp 28) (.seq (.reg false [⟨none, .store 24 (.tmp 6) (.const (.slice none 0 0)), none⟩, ⟨some 7, .assign (.const (.int .i64 9)), none⟩]) .ret) .skip)) (.seq (.block 0 (.loop (.seq (.seq (.reg false [⟨some 29, .load 154 (.tmp 9), none⟩, ⟨some 30, .binOp .neq 154 (.tmp 29) (.const (.int .u64 0)) 154, none⟩]) (.cond (.tmp 30) .skip (.exit 0))) (.block 1 (.seq (.reg false [⟨some 31, .load 154 (.tmp 9), none⟩, ⟨some 32, .makeFunc (.func 89) #[.tmp 31] #[], none⟩]) (.block 2 (.rng (.tmp 32) [33] (.reg false [⟨some 10, .assign (.tmp 33), none⟩]) (.block 3 (.seq (.reg false [⟨some 34, .load 151 (.tmp 8), none⟩, ⟨some 35, .move (.tmp 10), none⟩, ⟨some 36, .load 154 (.tmp 9), none⟩, ⟨some 37, .call { callee := .value (.func 90), args := #[.tmp 34, .tmp 35, .tmp 36], argTypes := #[151, 3, 154] }, none⟩]) (.cond (.tmp 37) (.seq (.ord (.op o45_0 (.op o45_1 (.op o45_2 (.alt (.op o45_3 (.alt (.op o45_4 (.alt (.op o45_5 (.alt (.op o45_6 (.alt (.op o45_7 (.op o45_8 (.op o45_9 .done))) (.op o45_8 (.op o45_7 (.op o45_9 .done))))) (.op o45_8 (.op o45_6 (.op o45_7 (.op o45_9 .done)))))) (.op o45_8 (.op o45_5 (.op o45_6 (.op o45_7 (.op o45_9 .done))))))) (.alt (.op o45_5 (.alt (.op o45_4 (.alt (.op o45_6 (.alt (.op o45_7 (.op o45_8 (.op o45_9 .done))) (.op o45_8 (.op o45_7 (.op o45_9 .done))))) (.op o45_8 (.op o45_6 (.op o45_7 (.op o45_9 .done)))))) (.alt (.op o45_6 (.alt (.op o45_4 (.alt (.op o45_7 (.op o45_8 (.op o45_9 .done))) (.op o45_8 (.op o45_7 (.op o45_9 .done))))) (.op o45_8 (.op o45_4 (.op o45_7 (.op o45_9 .done)))))) (.op o45_8 (.op o45_4 (.op o45_6 (.op o45_7 (.op o45_9 .done)))))))) (.op o45_8 (.op o45_4 (.op o45_5 (.op o45_6 (.op o45_7 (.op o45_9 .done))))))))) (.alt (.op o45_4 (.alt (.op o45_3 (.alt (.op o45_5 (.alt (.op o45_6 (.alt (.op o45_7 (.op o45_8 (.op o45_9 .done))) (.op o45_8 (.op o45_7 (.op o45_9 .done))))) (.op o45_8 (.op o45_6 (.op o45_7 (.op o45_9 .done)))))) (.op o45_8 (.op o45_5 (.op o45_6 (.op o45_7 (.op o45_9 .done))))))) (.op o45_5 (.alt (.op o45_3 (.alt (.op o45_6 (.alt (.op o45_7 (.op o45_8 (.op o45_9 .done))) (.op o45_8 (.op o45_7 (.op o45_9 .done))))) (.op o45_8 (.op o45_6 (.op o45_7 (.op o45_9 .done)))))) (.op o45_6 (.alt (.op o45_3 (.alt (.op o45_7 (.op o45_8 (.op o45_9 .done))) (.op o45_8 (.op o45_7 (.op o45_9 .done))))) (.op o45_7 (.op o45_3 (.op o45_8 (.op o45_9 .done)))))))))) (.op o45_5 (.alt (.op o45_3 (.alt (.op o45_4 (.alt (.op o45_6 (.alt (.op o45_7 (.op o45_8 (.op o45_9 .done))) (.op o45_8 (.op o45_7 (.op o45_9 .done))))) (.op o45_8 (.op o45_6 (.op o45_7 (.op o45_9 .done)))))) (.alt (.op o45_6 (.alt (.op o45_4 (.alt (.op o45_7 (.op o45_8 (.op o45_9 .done))) (.op o45_8 (.op o45_7 (.op o45_9 .done))))) (.op o45_8 (.op o45_4 (.op o45_7 (.op o45_9 .done)))))) (.op o45_8 (.op o45_4 (.op o45_6 (.op o45_7 (.op o45_9 .done)))))))) (.alt (.op o45_4 (.alt (.op o45_3 (.alt (.op o45_6 (.alt (.op o45_7 (.op o45_8 (.op o45_9 .done))) (.op o45_8 (.op o45_7 (.op o45_9 .done))))) (.op o45_8 (.op o45_6 (.op o45_7 (.op o45_9 .done)))))) (.op o45_6 (.alt (.op o45_3 (.alt (.op o45_7 (.op o45_8 (.op o45_9 .done))) (.op o45_8 (.op o45_7 (.op o45_9 .done))))) (.op o45_7 (.op o45_3 (.op o45_8 (.op o45_9 .done)))))))) (.op o45_6 (.alt (.op o45_3 (.alt (.op o45_4 (.alt (.op o45_7 (.op o45_8 (.op o45_9 .done))) (.op o45_8 (.op o45_7 (.op o45_9 .done))))) (.op o45_8 (.op o45_4 (.op o45_7 (.op o45_9 .done)))))) (.op o45_4 (.alt (.op o45_3 (.alt (.op o45_7 (.op o45_8 (.op o45_9 .done))) (.op o45_8 (.op o45_7 (.op o45_9 .done))))) (.op o45_7 (.op o45_3 (.op o45_8 (.op o45_9 .done))))))))))))))))) (.exit 2)) .skip)))))))))) (.seq (.reg false [⟨some 46, .load 24 (.tmp 6), none⟩, ⟨none, .store 24 (.tmp 6) (.tmp 46), none⟩, ⟨some 7, .assign (.const (.int .i64 0)), none⟩]) .ret)))))))⟩
theorem sf45 : sfOf Tryd.f45 = some s45 := by kernel_rfl
theorem hb45 : hasBody Tryd.prog 45 = true := by kernel_rfl
def s46 : SF := ⟨55, [.tmp 6, .tmp 7], (.seq (.reg false [Oo 6 (.assign (.const (.slice none 0 0))), Oo 7 (.assign (.const (.int .i64 0)))]) (.seq (.reg false [Mv 12 0, Mv 13 1, Mv 14 2, Cl 15 87 #[.tmp 12, .tmp 13, .tmp 14] #[53, 54, 3], Mv 11 15, Xt 16 11 0, Xt 17 11 1, Sg 8 16, Sg 7 17]) (.seq (.seq (.reg false [Mv 18 7, Oo 19 (.binOp .neq 27 (.tmp 18) (.const (.int .i64 0)) 27)]) (.cond (.tmp 19) (.seq (.reg false [Mv 20 7, Oo 6 (.assign (.const (.slice none 0 0))), Sg 7 20]) .ret) .skip)) (.seq (.seq (.reg false [Mv 21 0, Ln 22 21 53, Oo 23 (.binOp .shl 154 (.const (.int .u64 1)) (.tmp 22) 3), Oo 24 (.move (.const (.int .u64 0)))]) (.block 0 (.loop (.seq (.reg false [Oo 25 (.binOp .lss 154 (.tmp 24) (.tmp 23) 154)]) (.seq (.cond (.tmp 25) .skip (.exit 0)) (.seq (.block 1 (.seq (.reg false [Mv 26 24, Sg 9 26]) (.seq (.seq (.reg false [Mv 27 8, Mv 28 9, Cl 29 88 #[.tmp 27, .tmp 28] #[151, 154], Oo 30 (.unOp .not 4 (.tmp 29))]) (.cond (.tmp 30) (.exit 1) .skip)) (.seq (.reg false [Mv 31 9, Oo 32 (.makeFunc (.func 89) #[.tmp 31] #[]), Cl 33 91 #[.tmp 32] #[176], Sg 10 33]) (.seq (.reg false [Mv 34 10, Ln 35 34 24, Mv 36 6, Ln 37 36 24, Oo 38 (.binOp .gtr 3 (.tmp 35) (.tmp 37) 3), Mv 39 38, Og 40 (.move (.tmp 10)) 39 false, Og 41 (.call { callee := .builtin .len, args := #[.tmp 40], argTypes := #[24] }) 39 false, Og 42 (.move (.tmp 6)) 39 false, Og 43 (.call { callee := .builtin .len, args := #[.tmp 42], argTypes := #[24] }) 39 false, Og 44 (.binOp .eql 3 (.tmp 41) (.tmp 43) 3) 39 false, Og 45 (.move (.tmp 44)) 39 false, Og 46 (.move (.tmp 10)) 45 true, Og 47 (.move (.tmp 6)) 45 true, Og 48 (.call { callee := .value (.func 69), args := #[.tmp 46, .tmp 47], argTypes := #[24, 24] }) 45 true, Og 49 (.binOp .lss 3 (.tmp 48) (.const (.int .i64 0)) 3) 45 true, Og 50 (.pick (.tmp 45) (.tmp 49) (.const (.bool false))) 39 false, Oo 51 (.pick (.tmp 39) (.const (.bool true)) (.tmp 50))]) (.cond (.tmp 51) (.reg false [Mv 52 10, Sg 6 52]) .skip)))))) (.reg false [Oo 53 (.binOp .add 154 (.tmp 24) (.const (.int .u64 1)) 154), Mv 24 53]))))))) (.seq (.reg false [Mv 54 6, Sg 6 54, Oo 7 (.assign (.const (.int .i64 0)))]) .ret)))))⟩
theorem sf46 : sfOf Tryd.f46 = some s46 := by kernel_rfl
theorem hb46 : hasBody Tryd.prog 46 = true := by kernel_rfl
end Go.Dw.Seat
end
section
namespace Go.Dw.Seat
open Go Go.Dw Go.Proofs
def s52 : SF := ⟨108, [.tmp 4, .tmp 5], (.seq (.reg false [Oo 2 (.box 105 (.tmp 0)), Oo 4 (.assign (.const (.slice none 0 0))), Oo 5 (.assign (.const (.slice none 0 0)))]) (.seq (.reg false [Oo 12 (.buildSlice 53 0 #[]), Oo 13 (.build 142 #[(1, (.const (.int .i64 1000)))]), Oo 14 (.buildSlice 54 1 #[(0, (.tmp 13))]), Sg 6 12, Sg 7 14]) (.seq (.seq (.reg false [Oo 8 (.assign (.const (.int .i64 0)))]) (.block 0 (.loop (.seq (.seq (.reg false [Mv 15 8, Fa 16 105 2 0, Ld 17 103 16, Ln 18 17 103, Oo 19 (.binOp .lss 3 (.tmp 15) (.tmp 18) 3), Mv 20 19, Og 21 (.move (.tmp 8)) 20 true, Og 22 (.move (.tmp 1)) 20 true, Og 23 (.binOp .lss 3 (.tmp 21) (.tmp 22) 3) 20 true, Oo 24 (.pick (.tmp 20) (.tmp 23) (.const (.bool false)))]) (.cond (.tmp 24) .skip (.exit 0))) (.seq (.block 1 (.seq (.reg false [Fa 27 105 2 0, Ld 28 103 27, Mv 29 8, Ix 30 103 28 29, Ld 31 80 30, Oo 9 (.alloc 80), ⟨none, .store 80 (.tmp 9) (.tmp 31), none⟩]) (.reg false [Mv 32 6, Oo 33 (.indexAddr 80 (.tmp 9) (.const (.int .i64 0))), Ld 34 5 33, Oo 35 (.convert 5 3 (.tmp 34)), Oo 36 (.binOp .mul 3 (.const (.int .i64 4)) (.tmp 35) 3), Oo 37 (.indexAddr 80 (.tmp 9) (.const (.int .i64 0))), Ld 38 5 37, Oo 39 (.convert 5 3 (.tmp 38)), Oo 40 (.binOp .mul 3 (.const (.int .i64 4)) (.tmp 39) 3), Oo 41 (.indexAddr 80 (.tmp 9) (.const (.int .i64 1))), Ld 42 5 41, Oo 43 (.convert 5 3 (.tmp 42)), Oo 44 (.binOp .rem 3 (.tmp 43) (.const (.int .i64 50)) 3), Oo 45 (.binOp .add 3 (.tmp 40) (.tmp 44) 3), Oo 46 (.indexAddr 80 (.tmp 9) (.const (.int .i64 2))), Ld 47 5 46, Oo 48 (.convert 5 3 (.tmp 47)), Oo 49 (.indexAddr 80 (.tmp 9) (.const (.int .i64 2))), Ld 50 5 49, Oo 51 (.convert 5 3 (.tmp 50)), Oo 52 (.indexAddr 80 (.tmp 9) (.const (.int .i64 3))), Ld 53 5 52, Oo 54 (.convert 5 3 (.tmp 53)), Oo 55 (.binOp .rem 3 (.tmp 54) (.const (.int .i64 30)) 3), Oo 56 (.binOp .add 3 (.tmp 51) (.tmp 55) 3), Cl 57 57 #[.tmp 36, .tmp 45, .tmp 48, .tmp 56] #[3, 3, 3, 3], Oo 58 (.buildSlice 53 1 #[(0, (.tmp 57))]), Oo 59 (.call { callee := .builtin .append, args := #[.tmp 32, .tmp 58], argTypes := #[53, 53] }), Sg 6 59]))) (.reg false [Mv 25 8, Oo 26 (.binOp .add 3 (.tmp 25) (.const (.int .i64 1)) 3), Sg 8 26])))))) (.seq (.seq (.reg false [Oo 10 (.assign (.const (.int .i64 0)))]) (.block 2 (.loop (.seq (.seq (.reg false [Mv 60 10, Fa 61 105 2 1, Ld 62 81 61, Ln 63 62 81, Oo 64 (.binOp .lss 3 (.tmp 60) (.tmp 63) 3), Mv 65 64, Og 66 (.move (.tmp 10)) 65 true, Og 67 (.binOp .lss 3 (.tmp 66) (.const (.int .i64 6)) 3) 65 true, Oo 68 (.pick (.tmp 65) (.tmp 67) (.const (.bool false)))]) (.cond (.tmp 68) .skip (.exit 2))) (.seq (.block 3 (.seq (.reg false [Mv 71 7, Mv 72 7, Ln 73 72 54, Oo 74 (.binOp .sub 3 (.tmp 73) (.const (.int .i64 1)) 3), Ix 75 54 71 74, Ld 76 142 75, Oo 11 (.alloc 142), ⟨none, .store 142 (.tmp 11) (.tmp 76), none⟩]) (.reg true [Mv 77 7, Fa 78 142 11 0, Ld 79 3 78, Oo 80 (.binOp .add 3 (.tmp 79) (.const (.int .i64 1)) 3), Fa 81 105 2 1, Ld 82 81 81, Mv 83 10, Ix 84 81 82 83, Oo 85 (.indexAddr 100 (.tmp 84) (.const (.int .i64 0))), Ld 86 5 85, Oo 87 (.convert 5 3 (.tmp 86)), Oo 88 (.binOp .rem 3 (.tmp 87) (.const (.int .i64 60)) 3), Oo 89 (.binOp .add 3 (.tmp 80) (.tmp 88) 3), Fa 90 142 11 1, Ld 91 3 90, Fa 92 105 2 1, Ld 93 81 92, Mv 94 10, Ix 95 81 93 94, Oo 96 (.indexAddr 100 (.tmp 95) (.const (.int .i64 1))), Ld 97 5 96, Oo 98 (.convert 5 3 (.tmp 97)), Oo 99 (.binOp .quo 3 (.tmp 98) (.const (.int .i64 3)) 3), Oo 100 (.binOp .sub 3 (.const (.int .i64 255)) (.tmp 99) 3), Oo 101 (.binOp .mul 3 (.tmp 91) (.tmp 100) 3), Oo 102 (.binOp .quo 3 (.tmp 101) (.const (.int .i64 255)) 3), Oo 103 (.build 142 #[(0, (.tmp 89)), (1, (.tmp 102))]), Oo 104 (.buildSlice 54 1 #[(0, (.tmp 103))]), Oo 105 (.call { callee := .builtin .append, args := #[.tmp 77, .tmp 104], argTypes := #[54, 54] }), Sg 7 105]))) (.reg false [Mv 69 10, Oo 70 (.binOp .add 3 (.tmp 69) (.const (.int .i64 1)) 3), Sg 10 70])))))) (.seq (.reg false [Mv 106 6, Mv 107 7, Sg 4 106, Sg 5 107]) .ret)))))⟩
theorem sf52 : sfOf Tryd.f52 = some s52 := by kernel_rfl
theorem hb52 : hasBody Tryd.prog 52 = true := by kernel_rfl
def s53 : SF := ⟨16, [.tmp 4], (.seq (.reg false [Oo 4 (.assign (.const (.int .i64 0)))]) (.seq (.seq (.reg false [Mv 5 0, Ln 6 5 93, Oo 7 (.binOp .eql 3 (.tmp 6) (.const (.int .i64 0)) 3)]) (.cond (.tmp 7) (.seq (.reg false [Oo 4 (.assign (.const (.int .i64 0)))]) .ret) .skip)) (.seq (.reg false [Mv 8 0, Mv 9 1, Mv 10 0, Ln 11 10 93, Oo 12 (.binOp .rem 3 (.tmp 9) (.tmp 11) 3), Ix 13 93 8 12, Ld 14 5 13, Oo 15 (.convert 5 3 (.tmp 14)), Sg 4 15]) .ret)))⟩
theorem sf53 : sfOf Tryd.f53 = some s53 := by kernel_rfl
theorem hb53 : hasBody Tryd.prog 53 = true := by kernel_rfl
def s54 : SF := ⟨63, [.tmp 8, .tmp 9], (.seq (.reg false [Oo 8 (.assign (.const (.bool false))), Oo 9 (.assign (.const (.int .i64 0)))]) (.seq (.reg false [Oo 10 (.assign (.const (.int .i64 0)))]) (.seq (.seq (.reg false [Oo 11 (.assign (.const (.int .i64 0)))]) (.block 0 (.loop (.seq (.seq (.reg false [Mv 15 11, Mv 16 2, Ln 17 16 54, Oo 18 (.binOp .lss 3 (.tmp 15) (.tmp 17) 3)]) (.cond (.tmp 18) .skip (.exit 0))) (.seq (.block 1 (.seq (.reg false [Mv 21 2, Mv 22 11, Ix 23 54 21 22, Fa 24 142 23 0, Ld 25 3 24, Mv 26 3, Oo 27 (.binOp .leq 3 (.tmp 25) (.tmp 26) 3)]) (.cond (.tmp 27) (.reg false [Mv 28 2, Mv 29 11, Ix 30 54 28 29, Fa 31 142 30 1, Ld 32 3 31, Sg 10 32]) .skip))) (.reg false [Mv 19 11, Oo 20 (.binOp .add 3 (.tmp 19) (.const (.int .i64 1)) 3), Sg 11 20])))))) (.seq (.seq (.reg false [Oo 12 (.assign (.const (.int .i64 0)))]) (.block 2 (.loop (.seq (.seq (.reg false [Mv 33 12, Mv 34 0, Ln 35 34 24, Oo 36 (.binOp .lss 3 (.tmp 33) (.tmp 35) 3)]) (.cond (.tmp 36) .skip (.exit 2))) (.seq (.block 3 (.seq (.reg false [Oo 13 (.assign (.const (.int .i64 0)))]) (.seq (.seq (.reg false [Mv 39 12, Oo 40 (.binOp .add 3 (.tmp 39) (.const (.int .i64 1)) 3), Sg 14 40]) (.block 4 (.loop (.seq (.seq (.reg false [Mv 41 14, Mv 42 1, Ln 43 42 24, Oo 44 (.binOp .lss 3 (.tmp 41) (.tmp 43) 3)]) (.cond (.tmp 44) .skip (.exit 4))) (.seq (.block 5 (.reg false [Mv 47 13, Mv 48 1, Mv 49 14, Ix 50 24 48 49, Ld 51 3 50, Oo 52 (.binOp .add 3 (.tmp 47) (.tmp 51) 3), Sg 13 52])) (.reg false [Mv 45 14, Oo 46 (.binOp .add 3 (.tmp 45) (.const (.int .i64 1)) 3), Sg 14 46])))))) (.seq (.reg false [Mv 53 13, Mv 54 0, Mv 55 12, Ix 56 24 54 55, Ld 57 3 56, Mv 58 10, Oo 59 (.binOp .mul 3 (.tmp 57) (.tmp 58) 3), Oo 60 (.binOp .quo 3 (.tmp 59) (.const (.int .i64 1000)) 3), Oo 61 (.binOp .gtr 3 (.tmp 53) (.tmp 60) 3)]) (.cond (.tmp 61) (.seq (.reg false [Mv 62 12, Oo 8 (.assign (.const (.bool false))), Sg 9 62]) .ret) .skip))))) (.reg false [Mv 37 12, Oo 38 (.binOp .add 3 (.tmp 37) (.const (.int .i64 1)) 3), Sg 12 38])))))) (.seq (.reg false [Oo 8 (.assign (.const (.bool true))), Oo 9 (.assign (.const (.int .i64 0)))]) .ret)))))⟩
theorem sf54 : sfOf Tryd.f54 = some s54 := by kernel_rfl
theorem hb54 : hasBody Tryd.prog 54 = true := by kernel_rfl
def s57 : SF := ⟨16, [.cell 8 70], (.seq (.reg false [Oo 8 (.alloc 70)]) (.seq (.reg false [Mv 9 0, Mv 10 1, Cl 11 31 #[.tmp 9, .tmp 10] #[3, 3], Mv 12 2, Mv 13 3, Cl 14 31 #[.tmp 12, .tmp 13] #[3, 3], Oo 15 (.build 70 #[(0, (.tmp 11)), (1, (.tmp 14))]), ⟨none, .store 70 (.tmp 8) (.tmp 15), none⟩]) .ret))⟩
theorem sf57 : sfOf Tryd.f57 = some s57 := by kernel_rfl
theorem hb57 : hasBody Tryd.prog 57 = true := by kernel_rfl
def s58 : SF := ⟨5, [.tmp 0], (.seq (.reg false [Oo 0 (.assign (.const (.slice none 0 0)))]) (.seq (.reg false [Oo 1 (.build 142 #[(1, (.const (.int .i64 1000)))]), Oo 2 (.build 142 #[(0, (.const (.int .i64 10))), (1, (.const (.int .i64 800)))]), Oo 3 (.build 142 #[(0, (.const (.int .i64 30))), (1, (.const (.int .i64 600)))]), Oo 4 (.buildSlice 54 3 #[(0, (.tmp 1)), (1, (.tmp 2)), (2, (.tmp 3))]), Sg 0 4]) .ret))⟩
theorem sf58 : sfOf Tryd.f58 = some s58 := by kernel_rfl
theorem hb58 : hasBody Tryd.prog 58 = true := by kernel_rfl
def s59 : SF := ⟨11, [.tmp 6], (.seq (.reg false [Oo 3 (.box 3 (.tmp 0)), Oo 4 (.box 3 (.tmp 1)), Oo 6 (.assign (.const (.bool false)))]) (.seq (.reg false [Mv 7 2, Oo 8 (.makeFunc (.func 93) #[] #[.tmp 3, .tmp 4]), Cl 9 92 #[.tmp 7, .tmp 8] #[24, 160], Oo 10 (.unOp .not 4 (.tmp 9)), Sg 6 10]) .ret))⟩
theorem sf59 : sfOf Tryd.f59 = some s59 := by kernel_rfl
theorem hb59 : hasBody Tryd.prog 59 = true := by kernel_rfl
def s60 : SF := ⟨24, [.cell 6 123], (.seq (.reg false [Oo 3 (.box 23 (.tmp 0)), Oo 6 (.alloc 123)]) (.seq (.reg false [Ld 10 23 3, Mv 11 2, Oo 12 (.build 123 #[(0, (.tmp 10)), (1, (.tmp 11))]), Oo 7 (.alloc 123), ⟨none, .store 123 (.tmp 7) (.tmp 12), none⟩]) (.seq (.seq (.reg false [Mv 13 1, Ln 14 13 24, Oo 15 (.move (.const (.int .i64 0)))]) (.block 0 (.loop (.seq (.reg false [Oo 16 (.binOp .lss 3 (.tmp 15) (.tmp 14) 3)]) (.seq (.cond (.tmp 16) .skip (.exit 0)) (.seq (.block 1 (.seq (.reg false [Ix 17 24 13 15, Ld 18 3 17, Sg 9 18]) (.reg false [Ld 19 123 7, Mv 20 9, Cl 21 94 #[.tmp 19, .tmp 20] #[123, 3], ⟨none, .store 123 (.tmp 7) (.tmp 21), none⟩]))) (.reg false [Oo 22 (.binOp .add 3 (.tmp 15) (.const (.int .i64 1)) 3), Mv 15 22]))))))) (.seq (.reg false [Ld 23 123 7, ⟨none, .store 123 (.tmp 6) (.tmp 23), none⟩]) .ret))))⟩
theorem sf60 : sfOf Tryd.f60 = some s60 := by kernel_rfl
theorem hb60 : hasBody Tryd.prog 60 = true := by kernel_rfl
def s61 : SF := ⟨14, [.tmp 2], (.seq (.reg false [Oo 1 (.box 123 (.tmp 0)), Oo 2 (.assign (.const (.int .i64 0)))]) (.seq (.block 0 (.seq (.reg false [Ld 4 123 1, Fa 5 123 1 3, Ld 6 121 5, Cl 7 95 #[.tmp 4, .tmp 6, .const (.int .i64 0)] #[123, 121, 3], Sg 3 7]) (.cond (.tmp 3) (.seq (.reg false [Oo 2 (.assign (.const (.int .i64 1)))]) .ret) (.seq (.reg false [Ld 9 123 1, Fa 10 123 1 4, Ld 11 121 10, Cl 12 95 #[.tmp 9, .tmp 11, .const (.int .i64 100000)] #[123, 121, 3], Oo 13 (.unOp .not 4 (.tmp 12)), Sg 8 13]) (.cond (.tmp 8) (.seq (.reg false [Oo 2 (.assign (.const (.int .i64 2)))]) .ret) .skip))))) (.seq (.reg false [Oo 2 (.assign (.const (.int .i64 3)))]) .ret)))⟩
theorem sf61 : sfOf Tryd.f61 = some s61 := by kernel_rfl
theorem hb61 : hasBody Tryd.prog 61 = true := by kernel_rfl
def s62 : SF := ⟨24, [.tmp 6], (.seq (.reg false [Oo 3 (.box 123 (.tmp 0)), Oo 6 (.assign (.const (.int .i64 0)))]) (.seq (.reg false [Oo 7 (.assign (.const (.int .i64 0)))]) (.block 0 (.loop (.seq (.block 1 (.seq (.seq (.reg false [Ld 10 123 3, Cl 11 61 #[.tmp 10] #[123], Mv 12 1, Oo 13 (.binOp .eql 29 (.tmp 11) (.tmp 12) 29)]) (.cond (.tmp 13) (.seq (.reg false [Mv 14 7, Sg 6 14]) .ret) .skip)) (.seq (.seq (.reg false [Fa 15 123 3 2, Ld 16 3 15, Fa 17 123 3 0, Fa 18 23 17 0, Ld 19 3 18, Oo 20 (.binOp .eql 3 (.tmp 16) (.tmp 19) 3)]) (.cond (.tmp 20) (.seq (.reg false [Oo 6 (.assign (.const (.int .i64 (-1))))]) .ret) .skip)) (.reg false [Ld 21 123 3, Mv 22 2, Cl 23 94 #[.tmp 21, .tmp 22] #[123, 3], ⟨none, .store 123 (.tmp 3) (.tmp 23), none⟩])))) (.reg false [Mv 8 7, Oo 9 (.binOp .add 3 (.tmp 8) (.const (.int .i64 1)) 3), Sg 7 9]))))))⟩
theorem sf62 : sfOf Tryd.f62 = some s62 := by kernel_rfl
theorem hb62 : hasBody Tryd.prog 62 = true := by kernel_rfl
def s65 : SF := ⟨14, [.cell 4 45], (.seq (.reg false [Oo 4 (.alloc 45)]) (.seq (.reg false [Mv 5 1, Mv 6 0, Oo 7 (.binOp .sub 3 (.tmp 5) (.tmp 6) 3), Oo 8 (.call { callee := .builtin .max, args := #[.const (.int .i64 0), .tmp 7], argTypes := #[3, 3] }), Mv 9 1, Mv 10 0, Oo 11 (.binOp .add 3 (.tmp 9) (.tmp 10) 3), Oo 12 (.call { callee := .builtin .min, args := #[.const (.int .i64 100000), .tmp 11], argTypes := #[3, 3] }), Oo 13 (.build 45 #[(0, (.tmp 8)), (1, (.tmp 12))]), ⟨none, .store 45 (.tmp 4) (.tmp 13), none⟩]) .ret))⟩
theorem sf65 : sfOf Tryd.f65 = some s65 := by kernel_rfl
theorem hb65 : hasBody Tryd.prog 65 = true := by kernel_rfl
def s66 : SF := ⟨38, [.tmp 6], (.seq (.reg false [Oo 5 (.box 45 (.tmp 2)), Oo 6 (.assign (.const (.slice none 0 0)))]) (.seq (.seq (.reg false [Mv 10 1, Ln 11 10 24, Oo 12 (.move (.const (.int .i64 0)))]) (.block 0 (.loop (.seq (.reg false [Oo 13 (.binOp .lss 3 (.tmp 12) (.tmp 11) 3)]) (.seq (.cond (.tmp 13) .skip (.exit 0)) (.seq (.block 1 (.seq (.reg false [Mv 14 12, Ix 15 24 10 12, Ld 16 3 15, Sg 7 14, Sg 8 16]) (.seq (.reg false [Mv 17 0, Mv 18 8, Cl 19 65 #[.tmp 17, .tmp 18] #[119, 3], Oo 9 (.alloc 45), ⟨none, .store 45 (.tmp 9) (.tmp 19), none⟩]) (.seq (.reg false [Fa 20 45 9 1, Ld 21 3 20, Fa 22 45 5 0, Ld 23 3 22, Oo 24 (.binOp .lss 3 (.tmp 21) (.tmp 23) 3), Mv 25 24, Og 26 (.fieldAddr 45 (.tmp 9) 0) 25 false, Og 27 (.load 3 (.tmp 26)) 25 false, Og 28 (.fieldAddr 45 (.tmp 5) 1) 25 false, Og 29 (.load 3 (.tmp 28)) 25 false, Og 30 (.binOp .gtr 3 (.tmp 27) (.tmp 29) 3) 25 false, Oo 31 (.pick (.tmp 25) (.const (.bool true)) (.tmp 30))]) (.cond (.tmp 31) (.reg false [Mv 32 6, Mv 33 7, Oo 34 (.buildSlice 24 1 #[(0, (.tmp 33))]), Oo 35 (.call { callee := .builtin .append, args := #[.tmp 32, .tmp 34], argTypes := #[24, 24] }), Sg 6 35]) .skip))))) (.reg false [Oo 36 (.binOp .add 3 (.tmp 12) (.const (.int .i64 1)) 3), Mv 12 36]))))))) (.seq (.reg false [Mv 37 6, Sg 6 37]) .ret)))⟩
theorem sf66 : sfOf Tryd.f66 = some s66 := by kernel_rfl
theorem hb66 : hasBody Tryd.prog 66 = true := by kernel_rfl
def s67 : SF := ⟨18, [.tmp 2], (.seq (.reg false [Oo 2 (.assign (.const (.int .i64 0)))]) (.seq (.reg false [Oo 3 (.assign (.const (.int .i64 0)))]) (.seq (.seq (.reg false [Mv 6 0, Ln 7 6 24, Oo 8 (.move (.const (.int .i64 0)))]) (.block 0 (.loop (.seq (.reg false [Oo 9 (.binOp .lss 3 (.tmp 8) (.tmp 7) 3)]) (.seq (.cond (.tmp 9) .skip (.exit 0)) (.seq (.block 1 (.seq (.reg false [Ix 10 24 6 8, Ld 11 3 10, Sg 5 11]) (.seq (.reg false [Mv 12 5, Mv 13 3, Oo 14 (.binOp .neq 3 (.tmp 12) (.tmp 13) 3)]) (.cond (.tmp 14) (.seq (.reg false [Mv 15 5, Sg 2 15]) .ret) .skip)))) (.reg false [Oo 16 (.binOp .add 3 (.tmp 8) (.const (.int .i64 1)) 3), Mv 8 16]))))))) (.seq (.reg false [Mv 17 3, Sg 2 17]) .ret))))⟩
theorem sf67 : sfOf Tryd.f67 = some s67 := by kernel_rfl
theorem hb67 : hasBody Tryd.prog 67 = true := by kernel_rfl
def s68 : SF := ⟨20, [.tmp 4], (.seq (.reg false [Oo 4 (.assign (.const (.int .i64 0)))]) (.seq (.reg false [Mv 7 0, Cl 8 96 #[.tmp 7] #[3], Sg 5 8]) (.seq (.reg false [Mv 9 1, Cl 10 96 #[.tmp 9] #[3], Sg 6 10]) (.seq (.seq (.reg false [Mv 11 5]) (.cond (.tmp 11) (.seq (.seq (.reg false [Mv 12 6]) (.cond (.tmp 12) (.seq (.reg false [Oo 4 (.assign (.const (.int .i64 0)))]) .ret) .skip)) (.seq (.reg false [Oo 4 (.assign (.const (.int .i64 (-1))))]) .ret)) .skip)) (.seq (.seq (.reg false [Mv 13 6]) (.cond (.tmp 13) (.seq (.reg false [Oo 4 (.assign (.const (.int .i64 1)))]) .ret) .skip)) (.seq (.seq (.reg false [Mv 14 0, Mv 15 1, Oo 16 (.binOp .lss 3 (.tmp 14) (.tmp 15) 3)]) (.cond (.tmp 16) (.seq (.reg false [Oo 4 (.assign (.const (.int .i64 (-1))))]) .ret) .skip)) (.seq (.seq (.reg false [Mv 17 0, Mv 18 1, Oo 19 (.binOp .gtr 3 (.tmp 17) (.tmp 18) 3)]) (.cond (.tmp 19) (.seq (.reg false [Oo 4 (.assign (.const (.int .i64 1)))]) .ret) .skip)) (.seq (.reg false [Oo 4 (.assign (.const (.int .i64 0)))]) .ret))))))))⟩
theorem sf68 : sfOf Tryd.f68 = some s68 := by kernel_rfl
theorem hb68 : hasBody Tryd.prog 68 = true := by kernel_rfl
def s69 : SF := ⟨36, [.tmp 4], (.seq (.reg false [Oo 4 (.assign (.const (.int .i64 0)))]) (.seq (.seq (.reg false [Mv 9 0, Ln 10 9 24, Oo 11 (.move (.const (.int .i64 0)))]) (.block 0 (.loop (.seq (.reg false [Oo 12 (.binOp .lss 3 (.tmp 11) (.tmp 10) 3)]) (.seq (.cond (.tmp 12) .skip (.exit 0)) (.seq (.block 1 (.seq (.reg false [Mv 13 11, Ix 14 24 9 11, Ld 15 3 14, Sg 5 13, Sg 6 15]) (.seq (.seq (.reg false [Mv 16 5, Mv 17 1, Ln 18 17 24, Oo 19 (.binOp .geq 3 (.tmp 16) (.tmp 18) 3)]) (.cond (.tmp 19) (.seq (.reg false [Oo 4 (.assign (.const (.int .i64 1)))]) .ret) .skip)) (.seq (.reg false [Mv 20 1, Mv 21 5, Ix 22 24 20 21, Ld 23 3 22, Sg 7 23]) (.seq (.reg false [Mv 24 6, Mv 25 7, Cl 26 68 #[.tmp 24, .tmp 25] #[3, 3], Sg 8 26]) (.seq (.reg false [Mv 27 8, Oo 28 (.binOp .neq 3 (.tmp 27) (.const (.int .i64 0)) 3)]) (.cond (.tmp 28) (.seq (.reg false [Mv 29 8, Sg 4 29]) .ret) .skip))))))) (.reg false [Oo 30 (.binOp .add 3 (.tmp 11) (.const (.int .i64 1)) 3), Mv 11 30]))))))) (.seq (.seq (.reg false [Mv 31 0, Ln 32 31 24, Mv 33 1, Ln 34 33 24, Oo 35 (.binOp .lss 3 (.tmp 32) (.tmp 34) 3)]) (.cond (.tmp 35) (.seq (.reg false [Oo 4 (.assign (.const (.int .i64 (-1))))]) .ret) .skip)) (.seq (.reg false [Oo 4 (.assign (.const (.int .i64 0)))]) .ret))))⟩
theorem sf69 : sfOf Tryd.f69 = some s69 := by kernel_rfl
theorem hb69 : hasBody Tryd.prog 69 = true := by kernel_rfl
def s72 : SF := ⟨22, [.tmp 6], (.seq (.reg false [Oo 3 (.box 45 (.tmp 0)), Oo 6 (.assign (.const (.bool false)))]) (.seq (.reg false [Mv 7 1, Mv 8 2, Fa 9 45 3 0, Ld 10 3 9, Fa 11 45 3 1, Ld 12 3 11, Oo 13 (.buildSlice 24 2 #[(0, (.tmp 10)), (1, (.tmp 12))]), Cl 14 59 #[.tmp 7, .tmp 8, .tmp 13] #[3, 3, 24], Mv 15 14, Og 16 (.fieldAddr 45 (.tmp 3) 0) 15 true, Og 17 (.load 3 (.tmp 16)) 15 true, Og 18 (.fieldAddr 45 (.tmp 3) 1) 15 true, Og 19 (.load 3 (.tmp 18)) 15 true, Og 20 (.binOp .leq 3 (.tmp 17) (.tmp 19) 3) 15 true, Oo 21 (.pick (.tmp 15) (.tmp 20) (.const (.bool false))), Sg 6 21]) .ret))⟩
theorem sf72 : sfOf Tryd.f72 = some s72 := by kernel_rfl
theorem hb72 : hasBody Tryd.prog 72 = true := by kernel_rfl
def s73 : SF := ⟨17, [.tmp 5], (.seq (.reg false [Oo 5 (.assign (.const (.int .i64 0)))]) (.seq (.reg true [Mv 6 0, Mv 7 1, Fa 8 47 2 2, Ld 9 3 8, Oo 10 (.binOp .mul 3 (.tmp 7) (.tmp 9) 3), Cl 11 74 #[.tmp 10] #[3], Oo 12 (.binOp .mul 3 (.tmp 6) (.tmp 11) 3), Fa 13 47 2 3, Ld 14 3 13, Oo 15 (.binOp .mul 3 (.tmp 12) (.tmp 14) 3), Oo 16 (.binOp .quo 3 (.tmp 15) (.const (.int .i64 100000)) 3), Sg 5 16]) .ret))⟩
theorem sf73 : sfOf Tryd.f73 = some s73 := by kernel_rfl
theorem hb73 : hasBody Tryd.prog 73 = true := by kernel_rfl
def s74 : SF := ⟨7, [.tmp 2], (.seq (.reg false [Oo 1 (.box 3 (.tmp 0)), Oo 2 (.assign (.const (.int .i64 0)))]) (.seq (.reg false [Ld 3 3 1, Oo 4 (.binOp .add 3 (.tmp 3) (.const (.int .i64 1)) 3), Oo 5 (.makeFunc (.func 98) #[] #[.tmp 1]), Cl 6 97 #[.tmp 4, .tmp 5] #[3, 160], Sg 2 6]) .ret))⟩
theorem sf74 : sfOf Tryd.f74 = some s74 := by kernel_rfl
theorem hb74 : hasBody Tryd.prog 74 = true := by kernel_rfl
def s76 : SF := ⟨15, [.tmp 4], (.seq (.reg false [Oo 4 (.assign (.const (.int .i64 0)))]) (.seq (.reg false [Oo 5 (.assign (.func 99))]) (.seq (.block 0 (.seq (.reg false [Mv 7 0, Ln 8 7 53, Mv 9 1, Oo 10 (.binOp .gtr 3 (.tmp 8) (.tmp 9) 3), Sg 6 10]) (.cond (.tmp 6) (.seq (.reg false [Oo 4 (.assign (.const (.int .i64 5)))]) .ret) (.seq (.reg false [Mv 12 0, Mv 13 5, Cl 14 100 #[.tmp 12, .tmp 13] #[53, 164], Sg 11 14]) (.cond (.tmp 11) (.seq (.reg false [Oo 4 (.assign (.const (.int .i64 2)))]) .ret) .skip))))) (.seq (.reg false [Oo 4 (.assign (.const (.int .i64 0)))]) .ret))))⟩
theorem sf76 : sfOf Tryd.f76 = some s76 := by kernel_rfl
theorem hb76 : hasBody Tryd.prog 76 = true := by kernel_rfl
def s77 : SF := ⟨4, [.tmp 2], (.seq (.reg false [Oo 1 (.box 53 (.tmp 0)), Oo 2 (.assign (.const .nilFunc))]) (.seq (.reg false [Oo 3 (.makeFunc (.func 101) #[] #[.tmp 1]), Sg 2 3]) .ret))⟩
theorem sf77 : sfOf Tryd.f77 = some s77 := by kernel_rfl
theorem hb77 : hasBody Tryd.prog 77 = true := by kernel_rfl
def s78 : SF := ⟨76, [.cell 4 138, .tmp 5], (.seq (.reg false [Oo 4 (.alloc 138), Oo 5 (.assign (.const (.int .i64 0)))]) (.seq (.seq (.reg false [Mv 8 0, Ln 9 8 54, Oo 10 (.buildSlice 24 1 #[(0, (.tmp 9))]), Cl 11 59 #[.const (.int .i64 1), .const (.int .i64 10), .tmp 10] #[3, 3, 24], Oo 12 (.unOp .not 4 (.tmp 11)), Mv 13 12, Og 14 (.move (.tmp 0)) 13 false, Og 15 (.indexAddr 54 (.tmp 14) (.const (.int .i64 0))) 13 false, Og 16 (.fieldAddr 142 (.tmp 15) 0) 13 false, Og 17 (.load 3 (.tmp 16)) 13 false, Og 18 (.binOp .neq 3 (.tmp 17) (.const (.int .i64 0)) 3) 13 false, Oo 19 (.pick (.tmp 13) (.const (.bool true)) (.tmp 18))]) (.cond (.tmp 19) (.seq (.reg false [Ld 20 138 4, ⟨none, .store 138 (.tmp 4) (.tmp 20), none⟩, Oo 5 (.assign (.const (.int .i64 4)))]) .ret) .skip)) (.seq (.seq (.reg false [Mv 21 0, Ln 22 21 54, Oo 23 (.move (.const (.int .i64 0)))]) (.block 0 (.loop (.seq (.reg false [Oo 24 (.binOp .lss 3 (.tmp 23) (.tmp 22) 3)]) (.seq (.cond (.tmp 24) .skip (.exit 0)) (.seq (.block 1 (.seq (.reg false [Mv 25 23, Ix 26 54 21 23, Ld 27 142 26, Oo 7 (.alloc 142), Sg 6 25, ⟨none, .store 142 (.tmp 7) (.tmp 27), none⟩]) (.seq (.reg true [Fa 28 142 7 0, Ld 29 3 28, Oo 30 (.buildSlice 24 1 #[(0, (.tmp 29))]), Cl 31 59 #[.const (.int .i64 0), .const (.int .i64 10000), .tmp 30] #[3, 3, 24], Oo 32 (.unOp .not 4 (.tmp 31)), Mv 33 32, Og 34 (.fieldAddr 142 (.tmp 7) 1) 33 false, Og 35 (.load 3 (.tmp 34)) 33 false, Og 36 (.buildSlice 24 1 #[(0, (.tmp 35))]) 33 false, Og 37 (.call { callee := .value (.func 59), args := #[.const (.int .i64 0), .const (.int .i64 1000), .tmp 36], argTypes := #[3, 3, 24] }) 33 false, Og 38 (.unOp .not 4 (.tmp 37)) 33 false, Oo 39 (.pick (.tmp 33) (.const (.bool true)) (.tmp 38)), Mv 40 39, Og 41 (.move (.tmp 6)) 40 false, Og 42 (.binOp .gtr 3 (.tmp 41) (.const (.int .i64 0)) 3) 40 false, Og 43 (.move (.tmp 42)) 40 false, Og 44 (.fieldAddr 142 (.tmp 7) 0) 43 true, Og 45 (.load 3 (.tmp 44)) 43 true, Og 46 (.move (.tmp 0)) 43 true, Og 47 (.move (.tmp 6)) 43 true, Og 48 (.binOp .sub 3 (.tmp 47) (.const (.int .i64 1)) 3) 43 true, Og 49 (.indexAddr 54 (.tmp 46) (.tmp 48)) 43 true, Og 50 (.fieldAddr 142 (.tmp 49) 0) 43 true, Og 51 (.load 3 (.tmp 50)) 43 true, Og 52 (.binOp .leq 3 (.tmp 45) (.tmp 51) 3) 43 true, Og 53 (.move (.tmp 52)) 43 true, Og 54 (.fieldAddr 142 (.tmp 7) 1) 53 false, Og 55 (.load 3 (.tmp 54)) 53 false, Og 56 (.move (.tmp 0)) 53 false, Og 57 (.move (.tmp 6)) 53 false, Og 58 (.binOp .sub 3 (.tmp 57) (.const (.int .i64 1)) 3) 53 false, Og 59 (.indexAddr 54 (.tmp 56) (.tmp 58)) 53 false, Og 60 (.fieldAddr 142 (.tmp 59) 1) 53 false, Og 61 (.load 3 (.tmp 60)) 53 false, Og 62 (.binOp .gtr 3 (.tmp 55) (.tmp 61) 3) 53 false, Og 63 (.pick (.tmp 53) (.const (.bool true)) (.tmp 62)) 43 true, Og 64 (.pick (.tmp 43) (.tmp 63) (.const (.bool false))) 40 false, Oo 65 (.pick (.tmp 40) (.const (.bool true)) (.tmp 64))]) (.cond (.tmp 65) (.seq (.reg false [Ld 66 138 4, ⟨none, .store 138 (.tmp 4) (.tmp 66), none⟩, Oo 5 (.assign (.const (.int .i64 4)))]) .ret) .skip)))) (.reg false [Oo 67 (.binOp .add 3 (.tmp 23) (.const (.int .i64 1)) 3), Mv 23 67]))))))) (.seq (.seq (.reg false [Mv 68 1, Oo 69 (.buildSlice 24 1 #[(0, (.tmp 68))]), Cl 70 59 #[.const (.int .i64 0), .const (.int .i64 10000), .tmp 69] #[3, 3, 24], Oo 71 (.unOp .not 4 (.tmp 70))]) (.cond (.tmp 71) (.seq (.reg false [Ld 72 138 4, ⟨none, .store 138 (.tmp 4) (.tmp 72), none⟩, Oo 5 (.assign (.const (.int .i64 3)))]) .ret) .skip)) (.seq (.reg false [Mv 73 0, Mv 74 1, Oo 75 (.build 138 #[(0, (.tmp 73)), (1, (.tmp 74))]), ⟨none, .store 138 (.tmp 4) (.tmp 75), none⟩, Oo 5 (.assign (.const (.int .i64 0)))]) .ret)))))⟩
theorem sf78 : sfOf Tryd.f78 = some s78 := by kernel_rfl
theorem hb78 : hasBody Tryd.prog 78 = true := by kernel_rfl
def o79_0 : SO := ⟨some 22, .load 3 (.tmp 4), none⟩
def o79_1 : SO := ⟨some 23, .load 4 (.tmp 5), none⟩
def o79_2 : SO := ⟨none, .store 3 (.tmp 4) (.tmp 22), none⟩
def o79_3 : SO := ⟨none, .store 4 (.tmp 5) (.tmp 23), none⟩
def s79 : SF := ⟨24, [.cell 4 3, .cell 5 4], (.seq (.reg false [⟨some 2, .box 53 (.tmp 0), none⟩, ⟨some 3, .box 3 (.tmp 1), none⟩, ⟨some 4, .alloc 3, none⟩, ⟨some 5, .alloc 4, none⟩]) (.seq (.seq (.reg false [⟨some 8, .load 53 (.tmp 2), none⟩, ⟨some 9, .call { callee := .value (.func 77), args := #[.tmp 8], argTypes := #[53] }, none⟩]) (.block 0 (.rng (.tmp 9) [10, 11] (.seq (.reg false [⟨some 6, .assign (.tmp 10), none⟩]) (.reg false [⟨some 7, .alloc 45, none⟩, ⟨none, .store 45 (.tmp 7) (.tmp 11), none⟩])) (.block 1 (.seq (.reg true [⟨some 12, .fieldAddr 45 (.tmp 7) 1, none⟩, ⟨some 13, .load 3 (.tmp 12), none⟩, ⟨some 14, .load 53 (.tmp 2), none⟩, ⟨some 15, .move (.tmp 6), none⟩, ⟨some 16, .indexAddr 53 (.tmp 14) (.tmp 15), none⟩, ⟨some 17, .load 70 (.tmp 16), none⟩, ⟨some 18, .load 3 (.tmp 3), none⟩, ⟨some 19, .call { callee := .value (.func 84), args := #[.tmp 17, .tmp 18], argTypes := #[70, 3] }, none⟩, ⟨some 20, .binOp .gtr 3 (.tmp 13) (.tmp 19) 3, none⟩]) (.cond (.tmp 20) (.reg false [⟨some 21, .move (.tmp 6), none⟩, ⟨none, .store 3 (.tmp 4) (.tmp 21), none⟩, ⟨none, .store 4 (.tmp 5) (.const (.bool true)), none⟩]) .skip)))))) (.seq (.ord (.op o79_0 (.alt (.op o79_1 (.op o79_2 (.op o79_3 .done))) (.op o79_2 (.op o79_1 (.op o79_3 .done)))))) .ret)))⟩
theorem sf79 : sfOf Tryd.f79 = some s79 := by kernel_rfl
theorem hb79 : hasBody Tryd.prog 79 = true := by kernel_rfl
def s84 : SF := ⟨11, [.tmp 4], (.seq (.reg false [Oo 2 (.box 70 (.tmp 0)), Oo 4 (.assign (.const (.int .i64 0)))]) (.seq (.reg false [Fa 5 70 2 0, Fa 6 45 5 0, Ld 7 3 6, Mv 8 1, Oo 9 (.binOp .mul 3 (.tmp 7) (.tmp 8) 3), Oo 10 (.binOp .quo 3 (.tmp 9) (.const (.int .i64 1000)) 3), Sg 4 10]) .ret))⟩
theorem sf84 : sfOf Tryd.f84 = some s84 := by kernel_rfl
theorem hb84 : hasBody Tryd.prog 84 = true := by kernel_rfl
def s85 : SF := ⟨21, [.tmp 2], (.seq (.reg false [Oo 1 (.box 138 (.tmp 0)), Oo 2 (.assign (.const (.int .i64 0)))]) (.seq (.seq (.reg false [Fa 5 138 1 0, Ld 6 54 5, Ln 7 6 54, Oo 8 (.move (.const (.int .i64 0)))]) (.block 0 (.loop (.seq (.reg false [Oo 9 (.binOp .lss 3 (.tmp 8) (.tmp 7) 3)]) (.seq (.cond (.tmp 9) .skip (.exit 0)) (.seq (.block 1 (.seq (.reg false [Ix 10 54 6 8, Ld 11 142 10, Oo 4 (.alloc 142), ⟨none, .store 142 (.tmp 4) (.tmp 11), none⟩]) (.seq (.reg false [Fa 12 142 4 0, Ld 13 3 12, Fa 14 138 1 1, Ld 15 3 14, Oo 16 (.binOp .leq 3 (.tmp 13) (.tmp 15) 3)]) (.cond (.tmp 16) (.reg false [Fa 17 142 4 1, Ld 18 3 17, Sg 2 18]) .skip)))) (.reg false [Oo 19 (.binOp .add 3 (.tmp 8) (.const (.int .i64 1)) 3), Mv 8 19]))))))) (.seq (.reg false [Mv 20 2, Sg 2 20]) .ret)))⟩
theorem sf85 : sfOf Tryd.f85 = some s85 := by kernel_rfl
theorem hb85 : hasBody Tryd.prog 85 = true := by kernel_rfl
def s87 : SF := ⟨31, [.tmp 6, .tmp 7], (.seq (.reg false [Oo 6 (.assign (.const (.pointer none))), Oo 7 (.assign (.const (.int .i64 0)))]) (.seq (.seq (.reg false [Mv 11 0, Cl 12 76 #[.tmp 11, .const (.int .i64 10)] #[53, 3], Sg 8 12]) (.seq (.reg false [Mv 13 8, Oo 14 (.binOp .neq 27 (.tmp 13) (.const (.int .i64 0)) 27)]) (.cond (.tmp 14) (.seq (.reg false [Mv 15 8, Oo 6 (.assign (.const (.pointer none))), Sg 7 15]) .ret) .skip))) (.seq (.reg false [Mv 17 1, Mv 18 2, Cl 19 78 #[.tmp 17, .tmp 18] #[54, 3], Mv 16 19, Xt 20 16 0, Xt 21 16 1, Oo 9 (.alloc 138), ⟨none, .store 138 (.tmp 9) (.tmp 20), none⟩, Sg 10 21]) (.seq (.seq (.reg false [Mv 22 10, Oo 23 (.binOp .neq 27 (.tmp 22) (.const (.int .i64 0)) 27)]) (.cond (.tmp 23) (.seq (.reg false [Mv 24 10, Oo 6 (.assign (.const (.pointer none))), Sg 7 24]) .ret) .skip)) (.seq (.reg false [Mv 25 0, Ld 26 138 9, Cl 27 85 #[.tmp 26] #[138], Oo 28 (.makeMap 170 none), Oo 29 (.build 172 #[(0, (.tmp 25)), (1, (.tmp 27)), (2, (.tmp 28))]), Oo 30 (.box 172 (.tmp 29)), Sg 6 30, Oo 7 (.assign (.const (.int .i64 0)))]) .ret)))))⟩
theorem sf87 : sfOf Tryd.f87 = some s87 := by kernel_rfl
theorem hb87 : hasBody Tryd.prog 87 = true := by kernel_rfl
def o88_0 : SO := ⟨some 11, .load 151 (.tmp 2), none⟩
def o88_1 : SO := ⟨some 12, .nilCheck (.tmp 11), none⟩
def o88_2 : SO := ⟨some 13, .fieldAddr 172 (.tmp 12) 2, none⟩
def o88_3 : SO := ⟨some 14, .load 170 (.tmp 13), none⟩
def o88_4 : SO := ⟨some 15, .load 154 (.tmp 3), none⟩
def o88_5 : SO := ⟨some 16, .lookup 170 (.tmp 14) (.tmp 15) true, none⟩
def o88_6 : SO := ⟨some 10, .move (.tmp 16), none⟩
def o88_7 : SO := ⟨some 17, .extract (.tmp 10) 0, none⟩
def o88_8 : SO := ⟨some 5, .alloc 4, none⟩
def o88_9 : SO := ⟨some 18, .extract (.tmp 10) 1, none⟩
def o88_10 : SO := ⟨none, .store 4 (.tmp 5) (.tmp 17), none⟩
def o88_11 : SO := ⟨some 6, .assign (.tmp 18), none⟩
def s88 : SF := ⟨35, [.tmp 4], (.seq (.reg false [⟨some 2, .box 151 (.tmp 0), none⟩, ⟨some 3, .box 154 (.tmp 1), none⟩, ⟨some 4, .assign (.const (.bool false)), none⟩]) (.seq (.seq (.reg false [⟨some 8, .load 154 (.tmp 3), none⟩, ⟨some 9, .binOp .eql 154 (.tmp 8) (.const (.int .u64 0)) 154, none⟩]) (.cond (.tmp 9) (.seq (.reg false [⟨some 4, .assign (.const (.bool true)), none⟩]) .ret) .skip)) (.seq (.ord (.op o88_0 (.op o88_1 (.op o88_2 (.op o88_3 (.op o88_4 (.op o88_5 (.op o88_6 (.op o88_7 (.op o88_8 (.alt (.op o88_9 (.op o88_10 (.op o88_11 .done))) (.op o88_10 (.op o88_9 (.op o88_11 .done)))))))))))))) (.seq (.seq (.reg false [⟨some 19, .move (.tmp 6), none⟩]) (.cond (.tmp 19) (.seq (.reg false [⟨some 20, .load 4 (.tmp 5), none⟩, ⟨some 4, .assign (.tmp 20), none⟩]) .ret) .skip)) (.seq (.seq (.reg false [⟨some 21, .load 154 (.tmp 3), none⟩, ⟨some 22, .makeFunc (.func 89) #[.tmp 21] #[], none⟩]) (.block 0 (.rng (.tmp 22) [23] (.reg false [⟨some 7, .assign (.tmp 23), none⟩]) (.block 1 (.seq (.reg false [⟨some 24, .load 151 (.tmp 2), none⟩, ⟨some 25, .move (.tmp 7), none⟩, ⟨some 26, .load 154 (.tmp 3), none⟩, ⟨some 27, .call { callee := .value (.func 90), args := #[.tmp 24, .tmp 25, .tmp 26], argTypes := #[151, 3, 154] }, none⟩]) (.cond (.tmp 27) (.seq (.reg false [⟨none, .store 4 (.tmp 5) (.const (.bool true)), none⟩]) (.exit 0)) .skip)))))) (.seq (.reg true [⟨some 28, .load 151 (.tmp 2), none⟩, ⟨some 29, .nilCheck (.tmp 28), none⟩, ⟨some 30, .fieldAddr 172 (.tmp 29) 2, none⟩, ⟨some 31, .load 170 (.tmp 30), none⟩, ⟨some 32, .load 154 (.tmp 3), none⟩, ⟨some 33, .load 4 (.tmp 5), none⟩, ⟨none, .mapUpdate 170 (.tmp 31) (.tmp 32) (.tmp 33), none⟩]) (.seq (.reg false [⟨some 34, .load 4 (.tmp 5), none⟩, ⟨some 4, .assign (.tmp 34), none⟩]) .ret)))))))⟩
theorem sf88 : sfOf Tryd.f88 = some s88 := by kernel_rfl
theorem hb88 : hasBody Tryd.prog 88 = true := by kernel_rfl
def s89 : SF := ⟨15, [], (.block 0 (.loop (.seq (.seq (.reg false [Mv 4 0, Oo 5 (.binOp .neq 154 (.tmp 4) (.const (.int .u64 0)) 154)]) (.cond (.tmp 5) .skip (.exit 0))) (.seq (.block 1 (.seq (.reg false [Mv 10 1, Mv 11 0, Cl 12 103 #[.tmp 11] #[96], Oo 13 (.call { callee := .value (.tmp 10), args := #[.tmp 12], argTypes := #[3] }), Oo 14 (.unOp .not 4 (.tmp 13))]) (.cond (.tmp 14) .ret .skip))) (.reg false [Mv 6 0, Mv 7 0, Oo 8 (.binOp .sub 154 (.tmp 7) (.const (.int .u64 1)) 154), Oo 9 (.binOp .and 154 (.tmp 6) (.tmp 8) 154), Sg 0 9])))))⟩
theorem sf89 : sfOf Tryd.f89 = some s89 := by kernel_rfl
theorem hb89 : hasBody Tryd.prog 89 = true := by kernel_rfl
def s90 : SF := ⟨33, [.tmp 6], (.seq (.reg false [Oo 6 (.assign (.const (.bool false)))]) (.seq (.reg false [Mv 8 2, Mv 9 1, Oo 10 (.binOp .shl 154 (.const (.int .u64 1)) (.tmp 9) 3), Oo 11 (.binOp .andNot 154 (.tmp 8) (.tmp 10) 154), Sg 7 11]) (.seq (.regL [Mv 12 0, Oo 13 (.nilCheck (.tmp 12)), Fa 14 172 13 0, Ld 15 53 14, Mv 16 1, Ix 17 53 15 16, Ld 18 70 17, Mv 19 0, Oo 20 (.nilCheck (.tmp 19)), Fa 21 172 20 1, Ld 22 3 21, Cl 23 84 #[.tmp 18, .tmp 22] #[70, 3], Mv 24 0, Mv 25 7, Cl 26 104 #[.tmp 24, .tmp 25] #[151, 154], Oo 27 (.binOp .geq 3 (.tmp 23) (.tmp 26) 3), Mv 28 27, Og 29 (.move (.tmp 0)) 28 true, Og 30 (.move (.tmp 7)) 28 true] (Og 31 (.call { callee := .value (.func 88), args := #[.tmp 29, .tmp 30], argTypes := #[151, 154] }) 28 true) [Oo 32 (.pick (.tmp 28) (.tmp 31) (.const (.bool false))), Sg 6 32]) .ret)))⟩
theorem sf90 : sfOf Tryd.f90 = some s90 := by kernel_rfl
theorem hb90 : hasBody Tryd.prog 90 = true := by kernel_rfl
def s91 : SF := ⟨5, [.tmp 2], (.seq (.reg false [Oo 2 (.assign (.const (.slice none 0 0)))]) (.seq (.reg false [Mv 3 0, Cl 4 105 #[.const (.slice none 0 0), .tmp 3] #[24, 176], Sg 2 4]) .ret))⟩
theorem sf91 : sfOf Tryd.f91 = some s91 := by kernel_rfl
theorem hb91 : hasBody Tryd.prog 91 = true := by kernel_rfl
def s92 : SF := ⟨9, [.tmp 4], (.seq (.reg false [Oo 4 (.assign (.const (.bool false)))]) (.seq (.reg false [Mv 5 0, Mv 6 1, Cl 7 106 #[.tmp 5, .tmp 6] #[24, 160], Oo 8 (.binOp .geq 3 (.tmp 7) (.const (.int .i64 0)) 3), Sg 4 8]) .ret))⟩
theorem sf92 : sfOf Tryd.f92 = some s92 := by kernel_rfl
theorem hb92 : hasBody Tryd.prog 92 = true := by kernel_rfl
def s93 : SF := ⟨13, [.tmp 4], (.seq (.reg false [Oo 4 (.assign (.const (.bool false)))]) (.seq (.reg false [Mv 5 0, Ld 6 3 1, Oo 7 (.binOp .lss 3 (.tmp 5) (.tmp 6) 3), Mv 8 7, Og 9 (.move (.tmp 0)) 8 false, Og 10 (.load 3 (.tmp 2)) 8 false, Og 11 (.binOp .gtr 3 (.tmp 9) (.tmp 10) 3) 8 false, Oo 12 (.pick (.tmp 8) (.const (.bool true)) (.tmp 11)), Sg 4 12]) .ret))⟩
theorem sf93 : sfOf Tryd.f93 = some s93 := by kernel_rfl
theorem hb93 : hasBody Tryd.prog 93 = true := by kernel_rfl
def s94 : SF := ⟨33, [.cell 4 123], (.seq (.reg false [Oo 2 (.box 123 (.tmp 0)), Oo 4 (.alloc 123)]) (.seq (.reg false [Fa 6 123 2 1, Ld 7 119 6, Mv 8 1, Cl 9 65 #[.tmp 7, .tmp 8] #[119, 3], Oo 5 (.alloc 45), ⟨none, .store 45 (.tmp 5) (.tmp 9), none⟩]) (.seq (.reg false [Fa 10 123 2 2, Ld 11 3 10, Oo 12 (.binOp .add 3 (.tmp 11) (.const (.int .i64 1)) 3), Fa 13 123 2 2, ⟨none, .store 3 (.tmp 13) (.tmp 12), none⟩]) (.seq (.reg true [Fa 14 123 2 3, Ld 15 121 14, Fa 16 45 5 0, Ld 17 3 16, Fa 18 123 2 0, Fa 19 23 18 2, Ld 20 3 19, Cl 21 107 #[.tmp 15, .tmp 17, .tmp 20] #[121, 3, 3], Fa 22 123 2 4, Ld 23 121 22, Fa 24 45 5 1, Ld 25 3 24, Fa 26 123 2 0, Fa 27 23 26 2, Ld 28 3 27, Cl 29 107 #[.tmp 23, .tmp 25, .tmp 28] #[121, 3, 3], Fa 30 123 2 3, ⟨none, .store 121 (.tmp 30) (.tmp 21), none⟩, Fa 31 123 2 4, ⟨none, .store 121 (.tmp 31) (.tmp 29), none⟩]) (.seq (.reg false [Ld 32 123 2, ⟨none, .store 123 (.tmp 4) (.tmp 32), none⟩]) .ret)))))⟩
theorem sf94 : sfOf Tryd.f94 = some s94 := by kernel_rfl
theorem hb94 : hasBody Tryd.prog 94 = true := by kernel_rfl
def s95 : SF := ⟨40, [.tmp 6], (.seq (.reg false [Oo 3 (.box 123 (.tmp 0)), Oo 4 (.box 121 (.tmp 1)), Oo 6 (.assign (.const (.bool false)))]) (.seq (.seq (.reg false [Fa 7 123 3 0, Fa 8 23 7 0, Ld 9 3 8, Fa 10 123 3 2, Ld 11 3 10, Oo 12 (.binOp .sub 3 (.tmp 9) (.tmp 11) 3), Oo 13 (.move (.const (.int .i64 0)))]) (.block 0 (.loop (.seq (.reg false [Oo 14 (.binOp .lss 3 (.tmp 13) (.tmp 12) 3)]) (.seq (.cond (.tmp 14) .skip (.exit 0)) (.seq (.block 1 (.reg false [Ld 15 121 4, Mv 16 2, Fa 17 123 3 0, Fa 18 23 17 2, Ld 19 3 18, Cl 20 107 #[.tmp 15, .tmp 16, .tmp 19] #[121, 3, 3], ⟨none, .store 121 (.tmp 4) (.tmp 20), none⟩])) (.reg false [Oo 21 (.binOp .add 3 (.tmp 13) (.const (.int .i64 1)) 3), Mv 13 21]))))))) (.seq (.reg false [Fa 22 121 4 0, Ld 23 3 22, Fa 24 123 3 0, Fa 25 23 24 0, Ld 26 3 25, Fa 27 123 3 0, Fa 28 23 27 1, Ld 29 3 28, Oo 30 (.binOp .mul 3 (.tmp 26) (.tmp 29) 3), Oo 31 (.binOp .geq 3 (.tmp 23) (.tmp 30) 3), Mv 32 31, Og 33 (.fieldAddr 121 (.tmp 4) 1) 32 true, Og 34 (.load 3 (.tmp 33)) 32 true, Og 35 (.fieldAddr 123 (.tmp 3) 0) 32 true, Og 36 (.fieldAddr 23 (.tmp 35) 3) 32 true, Og 37 (.load 3 (.tmp 36)) 32 true, Og 38 (.binOp .leq 3 (.tmp 34) (.tmp 37) 3) 32 true, Oo 39 (.pick (.tmp 32) (.tmp 38) (.const (.bool false))), Sg 6 39]) .ret)))⟩
theorem sf95 : sfOf Tryd.f95 = some s95 := by kernel_rfl
theorem hb95 : hasBody Tryd.prog 95 = true := by kernel_rfl
def s96 : SF := ⟨6, [.tmp 2], (.seq (.reg false [Oo 2 (.assign (.const (.bool false)))]) (.seq (.reg false [Mv 3 0, Mv 4 0, Oo 5 (.binOp .neq 3 (.tmp 3) (.tmp 4) 3), Sg 2 5]) .ret))⟩
theorem sf96 : sfOf Tryd.f96 = some s96 := by kernel_rfl
theorem hb96 : hasBody Tryd.prog 96 = true := by kernel_rfl
def s97 : SF := ⟨26, [.tmp 4], (.seq (.reg false [Oo 4 (.assign (.const (.int .i64 0)))]) (.seq (.reg false [Mv 8 0, Oo 5 (.assign (.const (.int .i64 0))), Sg 6 8]) (.seq (.block 0 (.loop (.seq (.seq (.reg false [Mv 9 5, Mv 10 6, Oo 11 (.binOp .lss 3 (.tmp 9) (.tmp 10) 3)]) (.cond (.tmp 11) .skip (.exit 0))) (.block 1 (.seq (.reg false [Mv 12 5, Mv 13 6, Oo 14 (.binOp .add 3 (.tmp 12) (.tmp 13) 3), Oo 15 (.convert 3 96 (.tmp 14)), Oo 16 (.binOp .shr 96 (.tmp 15) (.const (.int .u64 1)) 96), Oo 17 (.convert 96 3 (.tmp 16)), Sg 7 17]) (.seq (.reg false [Mv 18 1, Mv 19 7, Oo 20 (.call { callee := .value (.tmp 18), args := #[.tmp 19], argTypes := #[3] }), Oo 21 (.unOp .not 4 (.tmp 20))]) (.cond (.tmp 21) (.reg false [Mv 22 7, Oo 23 (.binOp .add 3 (.tmp 22) (.const (.int .i64 1)) 3), Sg 5 23]) (.reg false [Mv 24 7, Sg 6 24])))))))) (.seq (.reg false [Mv 25 5, Sg 4 25]) .ret))))⟩
theorem sf97 : sfOf Tryd.f97 = some s97 := by kernel_rfl
theorem hb97 : hasBody Tryd.prog 97 = true := by kernel_rfl
def s98 : SF := ⟨11, [.tmp 3], (.seq (.reg false [Oo 3 (.assign (.const (.bool false)))]) (.seq (.reg false [Mv 4 0, Oo 5 (.binOp .add 3 (.tmp 4) (.const (.int .i64 1)) 3), Mv 6 0, Oo 7 (.binOp .add 3 (.tmp 6) (.const (.int .i64 1)) 3), Oo 8 (.binOp .mul 3 (.tmp 5) (.tmp 7) 3), Ld 9 3 1, Oo 10 (.binOp .gtr 3 (.tmp 8) (.tmp 9) 3), Sg 3 10]) .ret))⟩
theorem sf98 : sfOf Tryd.f98 = some s98 := by kernel_rfl
theorem hb98 : hasBody Tryd.prog 98 = true := by kernel_rfl
def s99 : SF := ⟨13, [.tmp 2], (.seq (.reg false [Oo 1 (.box 70 (.tmp 0)), Oo 2 (.assign (.const (.bool false)))]) (.seq (.reg false [Fa 3 70 1 0, Ld 4 45 3, Cl 5 72 #[.tmp 4, .const (.int .i64 0), .const (.int .i64 20000000)] #[45, 3, 3], Oo 6 (.unOp .not 4 (.tmp 5)), Mv 7 6, Og 8 (.fieldAddr 70 (.tmp 1) 1) 7 false, Og 9 (.load 45 (.tmp 8)) 7 false, Og 10 (.call { callee := .value (.func 72), args := #[.tmp 9, .const (.int .i64 0), .const (.int .i64 100000)], argTypes := #[45, 3, 3] }) 7 false, Og 11 (.unOp .not 4 (.tmp 10)) 7 false, Oo 12 (.pick (.tmp 7) (.const (.bool true)) (.tmp 11)), Sg 2 12]) .ret))⟩
theorem sf99 : sfOf Tryd.f99 = some s99 := by kernel_rfl
theorem hb99 : hasBody Tryd.prog 99 = true := by kernel_rfl
def s100 : SF := ⟨9, [.tmp 4], (.seq (.reg false [Oo 4 (.assign (.const (.bool false)))]) (.seq (.reg false [Mv 5 0, Mv 6 1, Cl 7 108 #[.tmp 5, .tmp 6] #[53, 164], Oo 8 (.binOp .geq 3 (.tmp 7) (.const (.int .i64 0)) 3), Sg 4 8]) .ret))⟩
theorem sf100 : sfOf Tryd.f100 = some s100 := by kernel_rfl
theorem hb100 : hasBody Tryd.prog 100 = true := by kernel_rfl
def s101 : SF := ⟨28, [], (.seq (.reg false [Oo 2 (.box 166 (.tmp 0))]) (.seq (.reg false [Oo 3 (.alloc 45)]) (.seq (.reg false [Ld 6 53 1, Cl 7 102 #[.tmp 6] #[53]]) (.block 0 (.rng (.tmp 7) [8, 9] (.seq (.reg false [Sg 4 8]) (.reg false [Oo 5 (.alloc 70), ⟨none, .store 70 (.tmp 5) (.tmp 9), none⟩])) (.block 1 (.seq (.seq (.reg false [Ld 10 166 2, Mv 11 4, Ld 12 45 3, Oo 13 (.call { callee := .value (.tmp 10), args := #[.tmp 11, .tmp 12], argTypes := #[3, 45] }), Oo 14 (.unOp .not 4 (.tmp 13))]) (.cond (.tmp 14) .ret .skip)) (.reg false [Fa 15 45 3 0, Ld 16 3 15, Fa 17 70 5 1, Fa 18 45 17 0, Ld 19 3 18, Oo 20 (.binOp .add 3 (.tmp 16) (.tmp 19) 3), Fa 21 45 3 1, Ld 22 3 21, Fa 23 70 5 1, Fa 24 45 23 1, Ld 25 3 24, Oo 26 (.binOp .add 3 (.tmp 22) (.tmp 25) 3), Oo 27 (.build 45 #[(0, (.tmp 20)), (1, (.tmp 26))]), ⟨none, .store 45 (.tmp 3) (.tmp 27), none⟩]))))))))⟩
theorem sf101 : sfOf Tryd.f101 = some s101 := by kernel_rfl
theorem hb101 : hasBody Tryd.prog 101 = true := by kernel_rfl
def s102 : SF := ⟨4, [.tmp 2], (.seq (.reg false [Oo 1 (.box 53 (.tmp 0)), Oo 2 (.assign (.const .nilFunc))]) (.seq (.reg false [Oo 3 (.makeFunc (.func 109) #[] #[.tmp 1]), Sg 2 3]) .ret))⟩
theorem sf102 : sfOf Tryd.f102 = some s102 := by kernel_rfl
theorem hb102 : hasBody Tryd.prog 102 = true := by kernel_rfl
def s103 : SF := ⟨8, [.tmp 2], (.seq (.reg false [Oo 2 (.assign (.const (.int .i64 0)))]) (.seq (.cond (.const (.bool false)) (.seq (.reg false [Mv 3 0, Oo 4 (.convert 96 183 (.tmp 3)), Cl 5 110 #[.tmp 4] #[183], Sg 2 5]) .ret) .skip) (.seq (.reg false [Mv 6 0, Cl 7 111 #[.tmp 6] #[185], Sg 2 7]) .ret)))⟩
theorem sf103 : sfOf Tryd.f103 = some s103 := by kernel_rfl
theorem hb103 : hasBody Tryd.prog 103 = true := by kernel_rfl
def s104 : SF := ⟨21, [.cell 4 3], (.seq (.reg false [Oo 2 (.box 151 (.tmp 0)), Oo 4 (.alloc 3)]) (.seq (.seq (.reg false [Mv 6 1, Oo 7 (.makeFunc (.func 89) #[.tmp 6] #[])]) (.block 0 (.rng (.tmp 7) [8] (.reg false [Sg 5 8]) (.block 1 (.reg true [Ld 9 3 4, Ld 10 151 2, Oo 11 (.nilCheck (.tmp 10)), Fa 12 172 11 0, Ld 13 53 12, Mv 14 5, Ix 15 53 13 14, Fa 16 70 15 1, Fa 17 45 16 1, Ld 18 3 17, Oo 19 (.binOp .add 3 (.tmp 9) (.tmp 18) 3), ⟨none, .store 3 (.tmp 4) (.tmp 19), none⟩]))))) (.seq (.reg false [Ld 20 3 4, ⟨none, .store 3 (.tmp 4) (.tmp 20), none⟩]) .ret)))⟩
theorem sf104 : sfOf Tryd.f104 = some s104 := by kernel_rfl
theorem hb104 : hasBody Tryd.prog 104 = true := by kernel_rfl
def s105 : SF := ⟨13, [.tmp 4], (.seq (.reg false [Oo 2 (.box 24 (.tmp 0)), Oo 4 (.assign (.const (.slice none 0 0)))]) (.seq (.seq (.reg false [Mv 6 1]) (.block 0 (.rng (.tmp 6) [7] (.reg false [Sg 5 7]) (.block 1 (.reg false [Ld 8 24 2, Mv 9 5, Oo 10 (.buildSlice 24 1 #[(0, (.tmp 9))]), Oo 11 (.call { callee := .builtin .append, args := #[.tmp 8, .tmp 10], argTypes := #[24, 24] }), ⟨none, .store 24 (.tmp 2) (.tmp 11), none⟩]))))) (.seq (.reg false [Ld 12 24 2, Sg 4 12]) .ret)))⟩
theorem sf105 : sfOf Tryd.f105 = some s105 := by kernel_rfl
theorem hb105 : hasBody Tryd.prog 105 = true := by kernel_rfl
def s106 : SF := ⟨19, [.tmp 4], (.seq (.reg false [Oo 4 (.assign (.const (.int .i64 0)))]) (.seq (.seq (.reg false [Mv 6 0, Ln 7 6 24, Oo 8 (.move (.const (.int .i64 0)))]) (.block 0 (.loop (.seq (.reg false [Oo 9 (.binOp .lss 3 (.tmp 8) (.tmp 7) 3)]) (.seq (.cond (.tmp 9) .skip (.exit 0)) (.seq (.block 1 (.seq (.reg false [Mv 10 8, Sg 5 10]) (.seq (.reg false [Mv 11 1, Mv 12 0, Mv 13 5, Ix 14 24 12 13, Ld 15 3 14, Oo 16 (.call { callee := .value (.tmp 11), args := #[.tmp 15], argTypes := #[3] })]) (.cond (.tmp 16) (.seq (.reg false [Mv 17 5, Sg 4 17]) .ret) .skip)))) (.reg false [Oo 18 (.binOp .add 3 (.tmp 8) (.const (.int .i64 1)) 3), Mv 8 18]))))))) (.seq (.reg false [Oo 4 (.assign (.const (.int .i64 (-1))))]) .ret)))⟩
theorem sf106 : sfOf Tryd.f106 = some s106 := by kernel_rfl
theorem hb106 : hasBody Tryd.prog 106 = true := by kernel_rfl
def s107 : SF := ⟨20, [.cell 6 121], (.seq (.reg false [Oo 3 (.box 121 (.tmp 0)), Oo 6 (.alloc 121)]) (.seq (.reg false [Fa 7 121 3 0, Ld 8 3 7, Mv 9 1, Oo 10 (.binOp .add 3 (.tmp 8) (.tmp 9) 3), Fa 11 121 3 0, ⟨none, .store 3 (.tmp 11) (.tmp 10), none⟩]) (.seq (.seq (.reg false [Mv 12 1, Mv 13 2, Oo 14 (.binOp .lss 3 (.tmp 12) (.tmp 13) 3)]) (.cond (.tmp 14) (.reg false [Fa 15 121 3 1, Ld 16 3 15, Oo 17 (.binOp .add 3 (.tmp 16) (.const (.int .i64 1)) 3), Fa 18 121 3 1, ⟨none, .store 3 (.tmp 18) (.tmp 17), none⟩]) .skip)) (.seq (.reg false [Ld 19 121 3, ⟨none, .store 121 (.tmp 6) (.tmp 19), none⟩]) .ret))))⟩
theorem sf107 : sfOf Tryd.f107 = some s107 := by kernel_rfl
theorem hb107 : hasBody Tryd.prog 107 = true := by kernel_rfl
def s108 : SF := ⟨19, [.tmp 4], (.seq (.reg false [Oo 4 (.assign (.const (.int .i64 0)))]) (.seq (.seq (.reg false [Mv 6 0, Ln 7 6 53, Oo 8 (.move (.const (.int .i64 0)))]) (.block 0 (.loop (.seq (.reg false [Oo 9 (.binOp .lss 3 (.tmp 8) (.tmp 7) 3)]) (.seq (.cond (.tmp 9) .skip (.exit 0)) (.seq (.block 1 (.seq (.reg false [Mv 10 8, Sg 5 10]) (.seq (.reg false [Mv 11 1, Mv 12 0, Mv 13 5, Ix 14 53 12 13, Ld 15 70 14, Oo 16 (.call { callee := .value (.tmp 11), args := #[.tmp 15], argTypes := #[70] })]) (.cond (.tmp 16) (.seq (.reg false [Mv 17 5, Sg 4 17]) .ret) .skip)))) (.reg false [Oo 18 (.binOp .add 3 (.tmp 8) (.const (.int .i64 1)) 3), Mv 8 18]))))))) (.seq (.reg false [Oo 4 (.assign (.const (.int .i64 (-1))))]) .ret)))⟩
theorem sf108 : sfOf Tryd.f108 = some s108 := by kernel_rfl
theorem hb108 : hasBody Tryd.prog 108 = true := by kernel_rfl
end Go.Dw.Seat
end
section
namespace Go.Dw.Seat
open Go Go.Dw Go.Proofs
def s109 : SF := ⟨19, [], (.seq (.reg false [Ld 4 53 1, Ln 5 4 53, Oo 6 (.binOp .sub 3 (.tmp 5) (.const (.int .i64 1)) 3), Sg 3 6]) (.block 0 (.loop (.seq (.seq (.reg false [Mv 7 3, Oo 8 (.binOp .geq 3 (.tmp 7) (.const (.int .i64 0)) 3)]) (.cond (.tmp 8) .skip (.exit 0))) (.seq (.block 1 (.seq (.reg false [Mv 11 0, Mv 12 3, Ld 13 53 1, Mv 14 3, Ix 15 53 13 14, Ld 16 70 15, Oo 17 (.call { callee := .value (.tmp 11), args := #[.tmp 12, .tmp 16], argTypes := #[3, 70] }), Oo 18 (.unOp .not 4 (.tmp 17))]) (.cond (.tmp 18) .ret .skip))) (.reg false [Mv 9 3, Oo 10 (.binOp .sub 3 (.tmp 9) (.const (.int .i64 1)) 3), Sg 3 10]))))))⟩
theorem sf109 : sfOf Tryd.f109 = some s109 := by kernel_rfl
theorem hb109 : hasBody Tryd.prog 109 = true := by kernel_rfl
def s111 : SF := ⟨14, [.tmp 2], (.seq (.reg false [Oo 2 (.assign (.const (.int .i64 0)))]) (.seq (.seq (.reg false [Mv 3 0, Oo 4 (.binOp .eql 185 (.tmp 3) (.const (.int .u64 0)) 185)]) (.cond (.tmp 4) (.seq (.reg false [Oo 2 (.assign (.const (.int .i64 64)))]) .ret) .skip)) (.seq (.reg false [Mv 5 0, Mv 6 0, Oo 7 (.unOp .neg 185 (.tmp 6)), Oo 8 (.binOp .and 185 (.tmp 5) (.tmp 7) 185), Oo 9 (.binOp .mul 185 (.tmp 8) (.const (.int .u64 285870213051353865)) 185), Oo 10 (.binOp .shr 185 (.tmp 9) (.const (.int .u64 58)) 96), Oo 11 (.indexAddr 187 (.global 1) (.tmp 10)), Ld 12 5 11, Oo 13 (.convert 5 3 (.tmp 12)), Sg 2 13]) .ret)))⟩
theorem sf111 : sfOf Tryd.f111 = some s111 := by kernel_rfl
theorem hb111 : hasBody Tryd.prog 111 = true := by kernel_rfl
end Go.Dw.Seat
end
section
set_option linter.unusedSimpArgs false
set_option maxRecDepth 100000
namespace Go.Dw.Seat
open Go Go.Dw Go.Proofs Go.IntWalk
theorem c122 (b : Bool) (l : List (Int)) (hl : l.length ≤ 2 ^ 36) (g : FuncId) (fs caps : List C) (p : Int → Bool) (hp : ∀ x ∈ l, DCall Tryd.prog g (fs.map D.c ++ [dI x] ++ caps.map D.c) [] (bD (p x)) []) : DCall Tryd.prog 106 [.c (.sl b 1 (rows eI l)), .c (.fn (.func g) fs caps)] [] (dI (idxI p l)) [] := by
  refine DCall.of Tryd.func106 sf106 hb106 (Nat.le_of_ble_eq_true rfl) (okRes_nil fun _ => rfl) ?_; simp only [s106, Mv, Sg, Ld, Fa, Xt, Ix, Ln, Cl, Oo, Og, idxs, Nat.reduceAdd]
  repeat' (first
    | (with_reducible first | refine DW.seq ?_ | refine DW.block ?_ | refine DW.skip ?_ | refine DW.exit ?_ | refine DW.ret ?_ | refine DW.reg ?_)
    | (simp (disch := omega) only [go_sem, Nat.reduceLT, Nat.reduceLeDiff, Nat.reduceAdd, Nat.reduceMul, Nat.reduceEqDiff, ↓reduceIte, reduceCtorEq, Nat.reduceBEq, Nat.reduceBNe, Nat.reducePow, Int.reduceLE, Int.reduceLT, Int.reduceNeg, Int.reduceToNat, Int.reduceEq, Int.reduceAdd, Int.reduceSub, Int.reduceMul, Int.reduceBEq, Int.reduceBNe, Blk.men, Blk.keysIn])
    | (exact retS_of rfl rfl rfl)
    | (refine DW.cond_tt rfl ?_)
    | (refine DW.cond_ff rfl ?_)
    | (refine DW.cond rfl ?_ ?_ <;> intro hc <;> (try simp only [go_sem] at hc))
    | (refine g_split ?_ ?_ <;> intro hc <;> (try simp only [hc]) <;> (try simp only [go_sem] at hc)))
  refine DW.loop (ι := { i : Nat // i ≤ l.length ∧ ∀ j u, j < i → l[j]? = some u → p u = false }) (fun i => ⟨19, [(8, dI i.1), (7, dI l.length), (1, .c (.fn (.func g) fs caps)), (0, .c (.sl b 1 (rows eI l)))], []⟩) (fun i => l.length - i.1) ⟨0, Nat.zero_le _, fun j u h => by omega⟩ ?_ ?_
  · refine Ent.to ?_ ?_ <;> simp (disch := omega) only [wkT_cons, wkX_cons, wkT_nil, wkX_nil, get, Nat.reduceEqDiff, ↓reduceIte, ex_some, wk_self, wk_top, wk_nil, wkB_self, and_self, dI, i64_in, and_true, true_and, Int.natCast_add, Int.natCast_one, Int.ofNat_zero, Int.natCast_zero]
  rintro ⟨i, hi, hij⟩
  rcases at_or l i hi with ⟨v, hv, hlt, hd⟩ | ⟨he, hd⟩
  · have hcall := hp v (List.mem_of_getElem? hv)
    repeat' (first
    | (with_reducible first | refine DW.seq ?_ | refine DW.block ?_ | refine DW.skip ?_ | refine DW.exit ?_ | refine DW.ret ?_ | refine DW.reg ?_)
    | (simp (disch := omega) only [go_sem, Nat.reduceLT, Nat.reduceLeDiff, Nat.reduceAdd, Nat.reduceMul, Nat.reduceEqDiff, ↓reduceIte, reduceCtorEq, Nat.reduceBEq, Nat.reduceBNe, Nat.reducePow, Int.reduceLE, Int.reduceLT, Int.reduceNeg, Int.reduceToNat, Int.reduceEq, Int.reduceAdd, Int.reduceSub, Int.reduceMul, Int.reduceBEq, Int.reduceBNe, Blk.men, Blk.keysIn, hd, hv, closeDs_fn, List.map_cons, List.map_nil])
    | (exact retS_of rfl rfl rfl)
    | (refine DW.cond_tt rfl ?_)
    | (refine DW.cond_ff rfl ?_)
    | (refine DW.cond rfl ?_ ?_ <;> intro hc <;> (try simp only [go_sem] at hc))
    | (refine g_split ?_ ?_ <;> intro hc <;> (try simp only [hc]) <;> (try simp only [go_sem] at hc)))
    refine call_c hcall (by decide) ?_
    simp (disch := omega) only [go_sem, Nat.reduceLT, Nat.reduceLeDiff, Nat.reduceAdd, Nat.reduceMul, Nat.reduceEqDiff, ↓reduceIte, reduceCtorEq, Nat.reduceBEq, Nat.reduceBNe, Nat.reducePow, Int.reduceLE, Int.reduceLT, Int.reduceNeg, Int.reduceToNat, Int.reduceEq, Int.reduceAdd, Int.reduceSub, Int.reduceMul, Int.reduceBEq, Int.reduceBNe, Blk.men, Blk.keysIn]
    refine DW.cond rfl ?_ ?_ <;> intro hc
    · repeat' (first
    | (with_reducible first | refine DW.seq ?_ | refine DW.block ?_ | refine DW.skip ?_ | refine DW.exit ?_ | refine DW.ret ?_ | refine DW.reg ?_)
    | (simp (disch := omega) only [go_sem, Nat.reduceLT, Nat.reduceLeDiff, Nat.reduceAdd, Nat.reduceMul, Nat.reduceEqDiff, ↓reduceIte, reduceCtorEq, Nat.reduceBEq, Nat.reduceBNe, Nat.reducePow, Int.reduceLE, Int.reduceLT, Int.reduceNeg, Int.reduceToNat, Int.reduceEq, Int.reduceAdd, Int.reduceSub, Int.reduceMul, Int.reduceBEq, Int.reduceBNe, Blk.men, Blk.keysIn])
    | (exact retS_of rfl rfl rfl)
    | (refine DW.cond_tt rfl ?_)
    | (refine DW.cond_ff rfl ?_)
    | (refine DW.cond rfl ?_ ?_ <;> intro hc <;> (try simp only [go_sem] at hc))
    | (refine g_split ?_ ?_ <;> intro hc <;> (try simp only [hc]) <;> (try simp only [go_sem] at hc)))
      refine retS_of rfl ?_ rfl; simp only [oneD, St.op, get, Nat.reduceEqDiff, ↓reduceIte, Option.getD_some, bD, dI]
      simp only [idxI, idxOf_some hij hv hc]
    · repeat' (first
    | (with_reducible first | refine DW.seq ?_ | refine DW.block ?_ | refine DW.skip ?_ | refine DW.exit ?_ | refine DW.ret ?_ | refine DW.reg ?_)
    | (simp (disch := omega) only [go_sem, Nat.reduceLT, Nat.reduceLeDiff, Nat.reduceAdd, Nat.reduceMul, Nat.reduceEqDiff, ↓reduceIte, reduceCtorEq, Nat.reduceBEq, Nat.reduceBNe, Nat.reducePow, Int.reduceLE, Int.reduceLT, Int.reduceNeg, Int.reduceToNat, Int.reduceEq, Int.reduceAdd, Int.reduceSub, Int.reduceMul, Int.reduceBEq, Int.reduceBNe, Blk.men, Blk.keysIn])
    | (exact retS_of rfl rfl rfl)
    | (refine DW.cond_tt rfl ?_)
    | (refine DW.cond_ff rfl ?_)
    | (refine DW.cond rfl ?_ ?_ <;> intro hc <;> (try simp only [go_sem] at hc))
    | (refine g_split ?_ ?_ <;> intro hc <;> (try simp only [hc]) <;> (try simp only [go_sem] at hc)))
      refine ⟨⟨i + 1, by omega, fun j u hj hu => by
        rcases Nat.lt_or_ge j i with h | h
        · exact hij j u h hu
        · have : j = i := by omega
          subst this
          rw [hv] at hu; cases hu; exact hc⟩, ?_, Ent.to ?_ ?_⟩ <;> first | (show _ < _; (try simp only); omega) | (simp (disch := omega) only [wkT_cons, wkX_cons, wkT_nil, wkX_nil, get, Nat.reduceEqDiff, ↓reduceIte, ex_some, wk_self, wk_top, wk_nil, wkB_self, and_self, dI, i64_in, and_true, true_and, Int.natCast_add, Int.natCast_one, Int.ofNat_zero, Int.natCast_zero])
  · repeat' (first
    | (with_reducible first | refine DW.seq ?_ | refine DW.block ?_ | refine DW.skip ?_ | refine DW.exit ?_ | refine DW.ret ?_ | refine DW.reg ?_)
    | (simp (disch := omega) only [go_sem, Nat.reduceLT, Nat.reduceLeDiff, Nat.reduceAdd, Nat.reduceMul, Nat.reduceEqDiff, ↓reduceIte, reduceCtorEq, Nat.reduceBEq, Nat.reduceBNe, Nat.reducePow, Int.reduceLE, Int.reduceLT, Int.reduceNeg, Int.reduceToNat, Int.reduceEq, Int.reduceAdd, Int.reduceSub, Int.reduceMul, Int.reduceBEq, Int.reduceBNe, Blk.men, Blk.keysIn, hd])
    | (exact retS_of rfl rfl rfl)
    | (refine DW.cond_tt rfl ?_)
    | (refine DW.cond_ff rfl ?_)
    | (refine DW.cond rfl ?_ ?_ <;> intro hc <;> (try simp only [go_sem] at hc))
    | (refine g_split ?_ ?_ <;> intro hc <;> (try simp only [hc]) <;> (try simp only [go_sem] at hc)))
    refine retS_of rfl ?_ rfl; simp only [oneD, St.op, get, Nat.reduceEqDiff, ↓reduceIte, Option.getD_some, bD, dI]
    simp only [idxI, idxOf_none (he ▸ hij)]
theorem c110 (b : Bool) (l : List (Int)) (hl : l.length ≤ 2 ^ 36) (g : FuncId) (fs caps : List C) (p : Int → Bool) (hp : ∀ x ∈ l, DCall Tryd.prog g (fs.map D.c ++ [dI x] ++ caps.map D.c) [] (bD (p x)) []) : DCall Tryd.prog 92 [.c (.sl b 1 (rows eI l)), .c (.fn (.func g) fs caps)] [] (bD (l.any p)) [] := by
  refine DCall.of Tryd.func92 sf92 hb92 (Nat.le_of_ble_eq_true rfl) (okRes_nil fun _ => rfl) ?_; simp only [s92, Mv, Sg, Ld, Fa, Xt, Ix, Ln, Cl, Oo, Og, idxs, Nat.reduceAdd]
  repeat' (first
    | (with_reducible first | refine DW.seq ?_ | refine DW.block ?_ | refine DW.skip ?_ | refine DW.exit ?_ | refine DW.ret ?_ | refine DW.reg ?_)
    | (simp (disch := omega) only [go_sem, Nat.reduceLT, Nat.reduceLeDiff, Nat.reduceAdd, Nat.reduceMul, Nat.reduceEqDiff, ↓reduceIte, reduceCtorEq, Nat.reduceBEq, Nat.reduceBNe, Nat.reducePow, Int.reduceLE, Int.reduceLT, Int.reduceNeg, Int.reduceToNat, Int.reduceEq, Int.reduceAdd, Int.reduceSub, Int.reduceMul, Int.reduceBEq, Int.reduceBNe, Blk.men, Blk.keysIn])
    | (exact retS_of rfl rfl rfl)
    | (refine DW.cond_tt rfl ?_)
    | (refine DW.cond_ff rfl ?_)
    | (refine DW.cond rfl ?_ ?_ <;> intro hc <;> (try simp only [go_sem] at hc))
    | (refine g_split ?_ ?_ <;> intro hc <;> (try simp only [hc]) <;> (try simp only [go_sem] at hc)))
  refine call_c (c122 b l hl g fs caps p hp) (by decide) ?_
  repeat' (first
    | (with_reducible first | refine DW.seq ?_ | refine DW.block ?_ | refine DW.skip ?_ | refine DW.exit ?_ | refine DW.ret ?_ | refine DW.reg ?_)
    | (simp (disch := omega) only [go_sem, Nat.reduceLT, Nat.reduceLeDiff, Nat.reduceAdd, Nat.reduceMul, Nat.reduceEqDiff, ↓reduceIte, reduceCtorEq, Nat.reduceBEq, Nat.reduceBNe, Nat.reducePow, Int.reduceLE, Int.reduceLT, Int.reduceNeg, Int.reduceToNat, Int.reduceEq, Int.reduceAdd, Int.reduceSub, Int.reduceMul, Int.reduceBEq, Int.reduceBNe, Blk.men, Blk.keysIn])
    | (exact retS_of rfl rfl rfl)
    | (refine DW.cond_tt rfl ?_)
    | (refine DW.cond_ff rfl ?_)
    | (refine DW.cond rfl ?_ ?_ <;> intro hc <;> (try simp only [go_sem] at hc))
    | (refine g_split ?_ ?_ <;> intro hc <;> (try simp only [hc]) <;> (try simp only [go_sem] at hc)))
  refine retS_of rfl ?_ rfl; simp only [oneD, St.op, get, Nat.reduceEqDiff, ↓reduceIte, Option.getD_some, bD, dI]
  rw [idxI_any]
def wthn (lo hi : Int) (l : List Int) : Bool := !(l.any fun n => decide (n < lo) || decide (hi < n))
theorem crW1 (n lo hi : Int) (p q : Bool) : DCall Tryd.prog 93 [dI n, .c (.ro p [.v (.int .i64 lo)] 0), .c (.ro q [.v (.int .i64 hi)] 0)] [] (bD (decide (n < lo) || decide (hi < n))) [] := by
  refine DCall.of Tryd.func93 sf93 hb93 (Nat.le_of_ble_eq_true rfl) (okRes_nil fun _ => rfl) ?_; simp only [s93, Mv, Sg, Ld, Fa, Xt, Ix, Ln, Cl, Oo, Og, idxs, Nat.reduceAdd]
  repeat' (first
    | (with_reducible first | refine DW.seq ?_ | refine DW.block ?_ | refine DW.skip ?_ | refine DW.exit ?_ | refine DW.ret ?_ | refine DW.reg ?_)
    | (simp (disch := omega) only [go_sem, Nat.reduceLT, Nat.reduceLeDiff, Nat.reduceAdd, Nat.reduceMul, Nat.reduceEqDiff, ↓reduceIte, reduceCtorEq, Nat.reduceBEq, Nat.reduceBNe, Nat.reducePow, Int.reduceLE, Int.reduceLT, Int.reduceNeg, Int.reduceToNat, Int.reduceEq, Int.reduceAdd, Int.reduceSub, Int.reduceMul, Int.reduceBEq, Int.reduceBNe, Blk.men, Blk.keysIn])
    | (exact retS_of rfl rfl rfl)
    | (refine DW.cond_tt rfl ?_)
    | (refine DW.cond_ff rfl ?_)
    | (refine DW.cond rfl ?_ ?_ <;> intro hc <;> (try simp only [go_sem] at hc))
    | (refine g_split ?_ ?_ <;> intro hc <;> (try simp only [hc]) <;> (try simp only [go_sem] at hc)))
theorem crWithin (b : Bool) (lo hi : Int) (l : List Int) (hl : l.length ≤ 2 ^ 36) : DCall Tryd.prog 59 [dI lo, dI hi, dIs b l] [] (bD (wthn lo hi l)) [] := by
  refine DCall.of Tryd.func59 sf59 hb59 (Nat.le_of_ble_eq_true rfl) (okRes_nil fun _ => rfl) ?_; simp only [s59, Mv, Sg, Ld, Fa, Xt, Ix, Ln, Cl, Oo, Og, idxs, Nat.reduceAdd]
  repeat' (first
    | (with_reducible first | refine DW.seq ?_ | refine DW.block ?_ | refine DW.skip ?_ | refine DW.exit ?_ | refine DW.ret ?_ | refine DW.reg ?_)
    | (simp (disch := omega) only [go_sem, Nat.reduceLT, Nat.reduceLeDiff, Nat.reduceAdd, Nat.reduceMul, Nat.reduceEqDiff, ↓reduceIte, reduceCtorEq, Nat.reduceBEq, Nat.reduceBNe, Nat.reducePow, Int.reduceLE, Int.reduceLT, Int.reduceNeg, Int.reduceToNat, Int.reduceEq, Int.reduceAdd, Int.reduceSub, Int.reduceMul, Int.reduceBEq, Int.reduceBNe, Blk.men, Blk.keysIn])
    | (exact retS_of rfl rfl rfl)
    | (refine DW.cond_tt rfl ?_)
    | (refine DW.cond_ff rfl ?_)
    | (refine DW.cond rfl ?_ ?_ <;> intro hc <;> (try simp only [go_sem] at hc))
    | (refine g_split ?_ ?_ <;> intro hc <;> (try simp only [hc]) <;> (try simp only [go_sem] at hc)))
  (refine call_c (c110 b l hl 93 [] [.ro true [.v (.int .i64 lo)] 0, .ro true [.v (.int .i64 hi)] 0] (fun n => decide (n < lo) || decide (hi < n)) (fun x _ => crW1 x lo hi true true)) (by decide) ?_; simp (disch := omega) only [go_sem, Nat.reduceLT, Nat.reduceLeDiff, Nat.reduceAdd, Nat.reduceMul, Nat.reduceEqDiff, ↓reduceIte, reduceCtorEq, Nat.reduceBEq, Nat.reduceBNe, Nat.reducePow, Int.reduceLE, Int.reduceLT, Int.reduceNeg, Int.reduceToNat, Int.reduceEq, Int.reduceAdd, Int.reduceSub, Int.reduceMul, Int.reduceBEq, Int.reduceBNe, Blk.men, Blk.keysIn])
  repeat' (first
    | (with_reducible first | refine DW.seq ?_ | refine DW.block ?_ | refine DW.skip ?_ | refine DW.exit ?_ | refine DW.ret ?_ | refine DW.reg ?_)
    | (simp (disch := omega) only [go_sem, Nat.reduceLT, Nat.reduceLeDiff, Nat.reduceAdd, Nat.reduceMul, Nat.reduceEqDiff, ↓reduceIte, reduceCtorEq, Nat.reduceBEq, Nat.reduceBNe, Nat.reducePow, Int.reduceLE, Int.reduceLT, Int.reduceNeg, Int.reduceToNat, Int.reduceEq, Int.reduceAdd, Int.reduceSub, Int.reduceMul, Int.reduceBEq, Int.reduceBNe, Blk.men, Blk.keysIn])
    | (exact retS_of rfl rfl rfl)
    | (refine DW.cond_tt rfl ?_)
    | (refine DW.cond_ff rfl ?_)
    | (refine DW.cond rfl ?_ ?_ <;> intro hc <;> (try simp only [go_sem] at hc))
    | (refine g_split ?_ ?_ <;> intro hc <;> (try simp only [hc]) <;> (try simp only [go_sem] at hc)))
theorem wthn_yes {lo hi : Int} {l : List Int} (h : ∀ v ∈ l, lo ≤ v ∧ v ≤ hi) : wthn lo hi l = true := by
  simp only [wthn, Bool.not_eq_true', List.any_eq_false, Bool.or_eq_true, decide_eq_true_eq]
  intro v hv
  have := h v hv
  omega
def spanOk (lo hi least most : Int) : Bool := wthn least most [lo, hi] && decide (lo ≤ hi)
theorem spanOk_yes {lo hi least most : Int} (h : least ≤ lo ∧ lo ≤ hi ∧ hi ≤ most) : spanOk lo hi least most = true := by
  unfold spanOk
  rw [wthn_yes (by simp; omega), decide_eq_true h.2.1]; rfl
theorem crSpanG (lo hi least most : Int) : DCall Tryd.prog 72 [.agg [dI lo, dI hi], dI least, dI most] [] (bD (spanOk lo hi least most)) [] := by
  have h1 := crWithin true least most [lo, hi] (by simp)
  unfold spanOk
  cases h : wthn least most [lo, hi] <;> rw [h] at h1 <;> simp only [Bool.true_and, Bool.false_and]
  · refine DCall.of Tryd.func72 sf72 hb72 (Nat.le_of_ble_eq_true rfl) (okRes_nil fun _ => rfl) ?_; simp only [s72, Mv, Sg, Ld, Fa, Xt, Ix, Ln, Cl, Oo, Og, idxs, Nat.reduceAdd]
    repeat' (first
    | (with_reducible first | refine DW.seq ?_ | refine DW.block ?_ | refine DW.skip ?_ | refine DW.exit ?_ | refine DW.ret ?_ | refine DW.reg ?_)
    | (simp (disch := omega) only [go_sem, Nat.reduceLT, Nat.reduceLeDiff, Nat.reduceAdd, Nat.reduceMul, Nat.reduceEqDiff, ↓reduceIte, reduceCtorEq, Nat.reduceBEq, Nat.reduceBNe, Nat.reducePow, Int.reduceLE, Int.reduceLT, Int.reduceNeg, Int.reduceToNat, Int.reduceEq, Int.reduceAdd, Int.reduceSub, Int.reduceMul, Int.reduceBEq, Int.reduceBNe, Blk.men, Blk.keysIn])
    | (exact retS_of rfl rfl rfl)
    | (refine DW.cond_tt rfl ?_)
    | (refine call_c (h1) (by decide) ?_)
    | (refine DW.cond_ff rfl ?_)
    | (refine DW.cond rfl ?_ ?_ <;> intro hc <;> (try simp only [go_sem] at hc))
    | (refine g_split ?_ ?_ <;> intro hc <;> (try simp only [hc]) <;> (try simp only [go_sem] at hc)))
  · refine DCall.of Tryd.func72 sf72 hb72 (Nat.le_of_ble_eq_true rfl) (okRes_nil fun _ => rfl) ?_; simp only [s72, Mv, Sg, Ld, Fa, Xt, Ix, Ln, Cl, Oo, Og, idxs, Nat.reduceAdd]
    repeat' (first
    | (with_reducible first | refine DW.seq ?_ | refine DW.block ?_ | refine DW.skip ?_ | refine DW.exit ?_ | refine DW.ret ?_ | refine DW.reg ?_)
    | (simp (disch := omega) only [go_sem, Nat.reduceLT, Nat.reduceLeDiff, Nat.reduceAdd, Nat.reduceMul, Nat.reduceEqDiff, ↓reduceIte, reduceCtorEq, Nat.reduceBEq, Nat.reduceBNe, Nat.reducePow, Int.reduceLE, Int.reduceLT, Int.reduceNeg, Int.reduceToNat, Int.reduceEq, Int.reduceAdd, Int.reduceSub, Int.reduceMul, Int.reduceBEq, Int.reduceBNe, Blk.men, Blk.keysIn])
    | (exact retS_of rfl rfl rfl)
    | (refine DW.cond_tt rfl ?_)
    | (refine call_c (h1) (by decide) ?_)
    | (refine DW.cond_ff rfl ?_)
    | (refine DW.cond rfl ?_ ?_ <;> intro hc <;> (try simp only [go_sem] at hc))
    | (refine g_split ?_ ?_ <;> intro hc <;> (try simp only [hc]) <;> (try simp only [go_sem] at hc)))
end Go.Dw.Seat
end
section
set_option linter.unusedSimpArgs false
set_option maxRecDepth 100000
namespace Go.Dw.Seat
open Go Go.Dw Go.Proofs Go.IntWalk
structure CR where
  tests : Int
  mean : Int
  low : Int
  bad : Int
abbrev dCR (r : CR) : D := .agg [dI r.tests, dI r.mean, dI r.low, dI r.bad]
structure CLot where
  off : Int
  made : Int
  ws : Int
  wb : Int
  bs : Int
  bb : Int
abbrev dLot (r : CR) (l : CLot) : D := .agg [dI r.tests, dI r.mean, dI r.low, dI r.bad, dI l.off, dI l.made, dI l.ws, dI l.wb, dI l.bs, dI l.bb]
attribute [go_sem] dCR dLot
structure CRok (r : CR) (rs : List Int) (off : Int) : Prop where
  tests : 1 ≤ r.tests ∧ r.tests ≤ 20
  mean : 0 ≤ r.mean ∧ r.mean ≤ 100000
  low : 0 ≤ r.low ∧ r.low ≤ 100000
  bad : 0 ≤ r.bad ∧ r.bad ≤ r.tests
  off : 0 ≤ off ∧ off ≤ 1000
  len : rs.length ≤ r.tests
  rs : ∀ x ∈ rs, 0 ≤ x ∧ x ≤ 100000
def ruleE (r : CR) (rs : List Int) (off : Int) : Int :=
  if wthn 1 20 [r.tests] = false ∨ wthn 0 100000 [r.mean, r.low] = false ∨ wthn 0 r.tests [r.bad] = false then 2
  else if wthn 0 1000 [off] = false then 3 else if r.tests < rs.length then 5 else if wthn 0 100000 rs = false then 4 else 0
theorem ruleE_yes {r : CR} {rs : List Int} {off : Int} (h : CRok r rs off) : ruleE r rs off = 0 := by
  unfold ruleE
  rw [wthn_yes (by have := h.tests; simpa using this), wthn_yes (by have h1 := h.mean; have h2 := h.low; simp; omega), wthn_yes (by have := h.bad; simpa using this), wthn_yes (by have := h.off; simpa using this), wthn_yes h.rs]
  rw [if_neg (by simp), if_neg (by simp), if_neg (by have := h.len; omega), if_neg (by simp)]
theorem crRuleG (b : Bool) (r : CR) (rs : List Int) (off : Int) (hl : rs.length ≤ 2 ^ 36) : DCall Tryd.prog 18 [dCR r, dIs b rs, dI off] [] (dI (ruleE r rs off)) [] := by
  have h1 := crWithin true 1 20 [r.tests] (by simp)
  have h2 := crWithin true 0 100000 [r.mean, r.low] (by simp)
  have h3 := crWithin true 0 r.tests [r.bad] (by simp)
  have h4 := crWithin true 0 1000 [off] (by simp)
  have h5 := crWithin b 0 100000 rs hl
  unfold ruleE
  cases e1 : wthn 1 20 [r.tests] with
  | false =>
    rw [e1] at h1
    rw [if_pos (by simp)]
    refine DCall.of Tryd.func18 sf18 hb18 (Nat.le_of_ble_eq_true rfl) (okRes_nil fun _ => rfl) ?_; simp only [s18, Mv, Sg, Ld, Fa, Xt, Ix, Ln, Cl, Oo, Og, idxs, Nat.reduceAdd]
    repeat' (first
    | (with_reducible first | refine DW.seq ?_ | refine DW.block ?_ | refine DW.skip ?_ | refine DW.exit ?_ | refine DW.ret ?_ | refine DW.reg ?_)
    | (simp (disch := omega) only [go_sem, Nat.reduceLT, Nat.reduceLeDiff, Nat.reduceAdd, Nat.reduceMul, Nat.reduceEqDiff, ↓reduceIte, reduceCtorEq, Nat.reduceBEq, Nat.reduceBNe, Nat.reducePow, Int.reduceLE, Int.reduceLT, Int.reduceNeg, Int.reduceToNat, Int.reduceEq, Int.reduceAdd, Int.reduceSub, Int.reduceMul, Int.reduceBEq, Int.reduceBNe, Blk.men, Blk.keysIn])
    | (exact retS_of rfl rfl rfl)
    | (refine DW.cond_tt rfl ?_)
    | (refine call_c (h1) (by decide) ?_)
    | (refine DW.cond_ff rfl ?_)
    | (refine DW.cond rfl ?_ ?_ <;> intro hc <;> (try simp only [go_sem] at hc))
    | (refine g_split ?_ ?_ <;> intro hc <;> (try simp only [hc]) <;> (try simp only [go_sem] at hc)))
  | true =>
  cases e2 : wthn 0 100000 [r.mean, r.low] with
  | false =>
    rw [e1] at h1
    rw [e2] at h2
    rw [if_pos (by simp)]
    refine DCall.of Tryd.func18 sf18 hb18 (Nat.le_of_ble_eq_true rfl) (okRes_nil fun _ => rfl) ?_; simp only [s18, Mv, Sg, Ld, Fa, Xt, Ix, Ln, Cl, Oo, Og, idxs, Nat.reduceAdd]
    repeat' (first
    | (with_reducible first | refine DW.seq ?_ | refine DW.block ?_ | refine DW.skip ?_ | refine DW.exit ?_ | refine DW.ret ?_ | refine DW.reg ?_)
    | (simp (disch := omega) only [go_sem, Nat.reduceLT, Nat.reduceLeDiff, Nat.reduceAdd, Nat.reduceMul, Nat.reduceEqDiff, ↓reduceIte, reduceCtorEq, Nat.reduceBEq, Nat.reduceBNe, Nat.reducePow, Int.reduceLE, Int.reduceLT, Int.reduceNeg, Int.reduceToNat, Int.reduceEq, Int.reduceAdd, Int.reduceSub, Int.reduceMul, Int.reduceBEq, Int.reduceBNe, Blk.men, Blk.keysIn])
    | (exact retS_of rfl rfl rfl)
    | (refine DW.cond_tt rfl ?_)
    | (refine call_c (h1) (by decide) ?_)
    | (refine call_c (h2) (by decide) ?_)
    | (refine DW.cond_ff rfl ?_)
    | (refine DW.cond rfl ?_ ?_ <;> intro hc <;> (try simp only [go_sem] at hc))
    | (refine g_split ?_ ?_ <;> intro hc <;> (try simp only [hc]) <;> (try simp only [go_sem] at hc)))
  | true =>
  cases e3 : wthn 0 r.tests [r.bad] with
  | false =>
    rw [e1] at h1
    rw [e2] at h2
    rw [e3] at h3
    rw [if_pos (by simp)]
    refine DCall.of Tryd.func18 sf18 hb18 (Nat.le_of_ble_eq_true rfl) (okRes_nil fun _ => rfl) ?_; simp only [s18, Mv, Sg, Ld, Fa, Xt, Ix, Ln, Cl, Oo, Og, idxs, Nat.reduceAdd]
    repeat' (first
    | (with_reducible first | refine DW.seq ?_ | refine DW.block ?_ | refine DW.skip ?_ | refine DW.exit ?_ | refine DW.ret ?_ | refine DW.reg ?_)
    | (simp (disch := omega) only [go_sem, Nat.reduceLT, Nat.reduceLeDiff, Nat.reduceAdd, Nat.reduceMul, Nat.reduceEqDiff, ↓reduceIte, reduceCtorEq, Nat.reduceBEq, Nat.reduceBNe, Nat.reducePow, Int.reduceLE, Int.reduceLT, Int.reduceNeg, Int.reduceToNat, Int.reduceEq, Int.reduceAdd, Int.reduceSub, Int.reduceMul, Int.reduceBEq, Int.reduceBNe, Blk.men, Blk.keysIn])
    | (exact retS_of rfl rfl rfl)
    | (refine DW.cond_tt rfl ?_)
    | (refine call_c (h1) (by decide) ?_)
    | (refine call_c (h2) (by decide) ?_)
    | (refine call_c (h3) (by decide) ?_)
    | (refine DW.cond_ff rfl ?_)
    | (refine DW.cond rfl ?_ ?_ <;> intro hc <;> (try simp only [go_sem] at hc))
    | (refine g_split ?_ ?_ <;> intro hc <;> (try simp only [hc]) <;> (try simp only [go_sem] at hc)))
  | true =>
  rw [e1] at h1
  rw [e2] at h2
  rw [e3] at h3
  rw [if_neg (by simp)]
  cases e4 : wthn 0 1000 [off] with
  | false =>
    rw [e4] at h4
    rw [if_pos rfl]
    refine DCall.of Tryd.func18 sf18 hb18 (Nat.le_of_ble_eq_true rfl) (okRes_nil fun _ => rfl) ?_; simp only [s18, Mv, Sg, Ld, Fa, Xt, Ix, Ln, Cl, Oo, Og, idxs, Nat.reduceAdd]
    repeat' (first
    | (with_reducible first | refine DW.seq ?_ | refine DW.block ?_ | refine DW.skip ?_ | refine DW.exit ?_ | refine DW.ret ?_ | refine DW.reg ?_)
    | (simp (disch := omega) only [go_sem, Nat.reduceLT, Nat.reduceLeDiff, Nat.reduceAdd, Nat.reduceMul, Nat.reduceEqDiff, ↓reduceIte, reduceCtorEq, Nat.reduceBEq, Nat.reduceBNe, Nat.reducePow, Int.reduceLE, Int.reduceLT, Int.reduceNeg, Int.reduceToNat, Int.reduceEq, Int.reduceAdd, Int.reduceSub, Int.reduceMul, Int.reduceBEq, Int.reduceBNe, Blk.men, Blk.keysIn])
    | (exact retS_of rfl rfl rfl)
    | (refine DW.cond_tt rfl ?_)
    | (refine call_c (h1) (by decide) ?_)
    | (refine call_c (h2) (by decide) ?_)
    | (refine call_c (h3) (by decide) ?_)
    | (refine call_c (h4) (by decide) ?_)
    | (refine DW.cond_ff rfl ?_)
    | (refine DW.cond rfl ?_ ?_ <;> intro hc <;> (try simp only [go_sem] at hc))
    | (refine g_split ?_ ?_ <;> intro hc <;> (try simp only [hc]) <;> (try simp only [go_sem] at hc)))
  | true =>
  rw [e4] at h4
  rw [if_neg (by decide)]
  by_cases hlen : r.tests < (rs.length : Int)
  · have hd : decide (r.tests < (rs.length : Int)) = true := decide_eq_true hlen
    rw [if_pos hlen]
    refine DCall.of Tryd.func18 sf18 hb18 (Nat.le_of_ble_eq_true rfl) (okRes_nil fun _ => rfl) ?_; simp only [s18, Mv, Sg, Ld, Fa, Xt, Ix, Ln, Cl, Oo, Og, idxs, Nat.reduceAdd]
    repeat' (first
    | (with_reducible first | refine DW.seq ?_ | refine DW.block ?_ | refine DW.skip ?_ | refine DW.exit ?_ | refine DW.ret ?_ | refine DW.reg ?_)
    | (simp (disch := omega) only [go_sem, Nat.reduceLT, Nat.reduceLeDiff, Nat.reduceAdd, Nat.reduceMul, Nat.reduceEqDiff, ↓reduceIte, reduceCtorEq, Nat.reduceBEq, Nat.reduceBNe, Nat.reducePow, Int.reduceLE, Int.reduceLT, Int.reduceNeg, Int.reduceToNat, Int.reduceEq, Int.reduceAdd, Int.reduceSub, Int.reduceMul, Int.reduceBEq, Int.reduceBNe, Blk.men, Blk.keysIn, hd])
    | (exact retS_of rfl rfl rfl)
    | (refine DW.cond_tt rfl ?_)
    | (refine call_c (h1) (by decide) ?_)
    | (refine call_c (h2) (by decide) ?_)
    | (refine call_c (h3) (by decide) ?_)
    | (refine call_c (h4) (by decide) ?_)
    | (refine DW.cond_ff rfl ?_)
    | (refine DW.cond rfl ?_ ?_ <;> intro hc <;> (try simp only [go_sem] at hc))
    | (refine g_split ?_ ?_ <;> intro hc <;> (try simp only [hc]) <;> (try simp only [go_sem] at hc)))
  have hd : decide (r.tests < (rs.length : Int)) = false := decide_eq_false hlen
  rw [if_neg hlen]
  cases e5 : wthn 0 100000 rs with
  | false =>
    rw [e5] at h5
    rw [if_pos rfl]
    refine DCall.of Tryd.func18 sf18 hb18 (Nat.le_of_ble_eq_true rfl) (okRes_nil fun _ => rfl) ?_; simp only [s18, Mv, Sg, Ld, Fa, Xt, Ix, Ln, Cl, Oo, Og, idxs, Nat.reduceAdd]
    repeat' (first
    | (with_reducible first | refine DW.seq ?_ | refine DW.block ?_ | refine DW.skip ?_ | refine DW.exit ?_ | refine DW.ret ?_ | refine DW.reg ?_)
    | (simp (disch := omega) only [go_sem, Nat.reduceLT, Nat.reduceLeDiff, Nat.reduceAdd, Nat.reduceMul, Nat.reduceEqDiff, ↓reduceIte, reduceCtorEq, Nat.reduceBEq, Nat.reduceBNe, Nat.reducePow, Int.reduceLE, Int.reduceLT, Int.reduceNeg, Int.reduceToNat, Int.reduceEq, Int.reduceAdd, Int.reduceSub, Int.reduceMul, Int.reduceBEq, Int.reduceBNe, Blk.men, Blk.keysIn, hd])
    | (exact retS_of rfl rfl rfl)
    | (refine DW.cond_tt rfl ?_)
    | (refine call_c (h1) (by decide) ?_)
    | (refine call_c (h2) (by decide) ?_)
    | (refine call_c (h3) (by decide) ?_)
    | (refine call_c (h4) (by decide) ?_)
    | (refine call_c (h5) (by decide) ?_)
    | (refine DW.cond_ff rfl ?_)
    | (refine DW.cond rfl ?_ ?_ <;> intro hc <;> (try simp only [go_sem] at hc))
    | (refine g_split ?_ ?_ <;> intro hc <;> (try simp only [hc]) <;> (try simp only [go_sem] at hc)))
  | true =>
    rw [e5] at h5
    rw [if_neg (by decide)]
    refine DCall.of Tryd.func18 sf18 hb18 (Nat.le_of_ble_eq_true rfl) (okRes_nil fun _ => rfl) ?_; simp only [s18, Mv, Sg, Ld, Fa, Xt, Ix, Ln, Cl, Oo, Og, idxs, Nat.reduceAdd]
    repeat' (first
    | (with_reducible first | refine DW.seq ?_ | refine DW.block ?_ | refine DW.skip ?_ | refine DW.exit ?_ | refine DW.ret ?_ | refine DW.reg ?_)
    | (simp (disch := omega) only [go_sem, Nat.reduceLT, Nat.reduceLeDiff, Nat.reduceAdd, Nat.reduceMul, Nat.reduceEqDiff, ↓reduceIte, reduceCtorEq, Nat.reduceBEq, Nat.reduceBNe, Nat.reducePow, Int.reduceLE, Int.reduceLT, Int.reduceNeg, Int.reduceToNat, Int.reduceEq, Int.reduceAdd, Int.reduceSub, Int.reduceMul, Int.reduceBEq, Int.reduceBNe, Blk.men, Blk.keysIn, hd])
    | (exact retS_of rfl rfl rfl)
    | (refine DW.cond_tt rfl ?_)
    | (refine call_c (h1) (by decide) ?_)
    | (refine call_c (h2) (by decide) ?_)
    | (refine call_c (h3) (by decide) ?_)
    | (refine call_c (h4) (by decide) ?_)
    | (refine call_c (h5) (by decide) ?_)
    | (refine DW.cond_ff rfl ?_)
    | (refine DW.cond rfl ?_ ?_ <;> intro hc <;> (try simp only [go_sem] at hc))
    | (refine g_split ?_ ?_ <;> intro hc <;> (try simp only [hc]) <;> (try simp only [go_sem] at hc)))
theorem crRule (b : Bool) (r : CR) (rs : List Int) (off : Int) (h : CRok r rs off) : DCall Tryd.prog 18 [dCR r, dIs b rs, dI off] [] (dI 0) [] := by
  have := crRuleG b r rs off (by have := h.len; have := h.tests; omega)
  rwa [ruleE_yes h] at this
def lowT (off x : Int) : Int := if 0 < x - off then x - off else 0
def highT (off x : Int) : Int := if x + off < 100000 then x + off else 100000
theorem crTruth (off x : Int) (h1 : 0 ≤ off ∧ off ≤ 1000) (h2 : 0 ≤ x ∧ x ≤ 100000) : DCall Tryd.prog 65 [dI off, dI x] [] (.agg [dI (lowT off x), dI (highT off x)]) [] := by
  refine DCall.of Tryd.func65 sf65 hb65 (Nat.le_of_ble_eq_true rfl) (okRes_nil fun _ => rfl) ?_; simp only [s65, Mv, Sg, Ld, Fa, Xt, Ix, Ln, Cl, Oo, Og, idxs, Nat.reduceAdd]
  repeat' (first
    | (with_reducible first | refine DW.seq ?_ | refine DW.block ?_ | refine DW.skip ?_ | refine DW.exit ?_ | refine DW.ret ?_ | refine DW.reg ?_)
    | (simp (disch := omega) only [go_sem, Nat.reduceLT, Nat.reduceLeDiff, Nat.reduceAdd, Nat.reduceMul, Nat.reduceEqDiff, ↓reduceIte, reduceCtorEq, Nat.reduceBEq, Nat.reduceBNe, Nat.reducePow, Int.reduceLE, Int.reduceLT, Int.reduceNeg, Int.reduceToNat, Int.reduceEq, Int.reduceAdd, Int.reduceSub, Int.reduceMul, Int.reduceBEq, Int.reduceBNe, Blk.men, Blk.keysIn])
    | (exact retS_of rfl rfl rfl)
    | (refine DW.cond_tt rfl ?_)
    | (refine DW.cond_ff rfl ?_)
    | (refine DW.cond rfl ?_ ?_ <;> intro hc <;> (try simp only [go_sem] at hc))
    | (refine g_split ?_ ?_ <;> intro hc <;> (try simp only [hc]) <;> (try simp only [go_sem] at hc)))
theorem crWith (s b t low : Int) (h1 : 0 ≤ s ∧ s ≤ 1099511627776) (h2 : 0 ≤ b ∧ b ≤ 1099511627776) (h3 : 0 ≤ t ∧ t ≤ 1099511627776) :
    DCall Tryd.prog 107 [.agg [dI s, dI b], dI t, dI low] [] (.agg [dI (s + t), dI (if t < low then b + 1 else b)]) [] := by
  by_cases h : t < low
  · have hd : decide (t < low) = true := decide_eq_true h
    rw [if_pos h]
    refine DCall.of Tryd.func107 sf107 hb107 (Nat.le_of_ble_eq_true rfl) (okRes_nil fun _ => rfl) ?_; simp only [s107, Mv, Sg, Ld, Fa, Xt, Ix, Ln, Cl, Oo, Og, idxs, Nat.reduceAdd]
    repeat' (first
    | (with_reducible first | refine DW.seq ?_ | refine DW.block ?_ | refine DW.skip ?_ | refine DW.exit ?_ | refine DW.ret ?_ | refine DW.reg ?_)
    | (simp (disch := omega) only [go_sem, Nat.reduceLT, Nat.reduceLeDiff, Nat.reduceAdd, Nat.reduceMul, Nat.reduceEqDiff, ↓reduceIte, reduceCtorEq, Nat.reduceBEq, Nat.reduceBNe, Nat.reducePow, Int.reduceLE, Int.reduceLT, Int.reduceNeg, Int.reduceToNat, Int.reduceEq, Int.reduceAdd, Int.reduceSub, Int.reduceMul, Int.reduceBEq, Int.reduceBNe, Blk.men, Blk.keysIn, hd])
    | (exact retS_of rfl rfl rfl)
    | (refine DW.cond_tt rfl ?_)
    | (refine DW.cond_ff rfl ?_)
    | (refine DW.cond rfl ?_ ?_ <;> intro hc <;> (try simp only [go_sem] at hc))
    | (refine g_split ?_ ?_ <;> intro hc <;> (try simp only [hc]) <;> (try simp only [go_sem] at hc)))
  · have hd : decide (t < low) = false := decide_eq_false h
    rw [if_neg h]
    refine DCall.of Tryd.func107 sf107 hb107 (Nat.le_of_ble_eq_true rfl) (okRes_nil fun _ => rfl) ?_; simp only [s107, Mv, Sg, Ld, Fa, Xt, Ix, Ln, Cl, Oo, Og, idxs, Nat.reduceAdd]
    repeat' (first
    | (with_reducible first | refine DW.seq ?_ | refine DW.block ?_ | refine DW.skip ?_ | refine DW.exit ?_ | refine DW.ret ?_ | refine DW.reg ?_)
    | (simp (disch := omega) only [go_sem, Nat.reduceLT, Nat.reduceLeDiff, Nat.reduceAdd, Nat.reduceMul, Nat.reduceEqDiff, ↓reduceIte, reduceCtorEq, Nat.reduceBEq, Nat.reduceBNe, Nat.reducePow, Int.reduceLE, Int.reduceLT, Int.reduceNeg, Int.reduceToNat, Int.reduceEq, Int.reduceAdd, Int.reduceSub, Int.reduceMul, Int.reduceBEq, Int.reduceBNe, Blk.men, Blk.keysIn, hd])
    | (exact retS_of rfl rfl rfl)
    | (refine DW.cond_tt rfl ?_)
    | (refine DW.cond_ff rfl ?_)
    | (refine DW.cond rfl ?_ ?_ <;> intro hc <;> (try simp only [go_sem] at hc))
    | (refine g_split ?_ ?_ <;> intro hc <;> (try simp only [hc]) <;> (try simp only [go_sem] at hc)))
def CLot.after (r : CR) (l : CLot) (x : Int) : CLot :=
  ⟨l.off, l.made + 1, l.ws + lowT l.off x, if lowT l.off x < r.low then l.wb + 1 else l.wb, l.bs + highT l.off x, if highT l.off x < r.low then l.bb + 1 else l.bb⟩
structure CLot.ok (l : CLot) : Prop where
  off : 0 ≤ l.off ∧ l.off ≤ 1000
  made : 0 ≤ l.made ∧ l.made ≤ 100
  ws : 0 ≤ l.ws ∧ l.ws ≤ 100000 * l.made
  wb : 0 ≤ l.wb ∧ l.wb ≤ l.made
  bs : 0 ≤ l.bs ∧ l.bs ≤ 100000 * l.made
  bb : 0 ≤ l.bb ∧ l.bb ≤ l.made
theorem lowT_in {off x : Int} (h1 : 0 ≤ off) (h2 : 0 ≤ x ∧ x ≤ 100000) : 0 ≤ lowT off x ∧ lowT off x ≤ 100000 := by
  unfold lowT; split <;> omega
theorem highT_in {off x : Int} (h1 : 0 ≤ off) (h2 : 0 ≤ x ∧ x ≤ 100000) : 0 ≤ highT off x ∧ highT off x ≤ 100000 := by
  unfold highT; split <;> omega
theorem CLot.ok_after {r : CR} {l : CLot} {x : Int} (h : l.ok) (hm : l.made < 100) (hx : 0 ≤ x ∧ x ≤ 100000) : (l.after r x).ok := by
  have h1 := lowT_in h.off.1 hx
  have h2 := highT_in h.off.1 hx
  have h3 := h.made
  have h4 := h.ws
  have h5 := h.wb
  have h6 := h.bs
  have h7 := h.bb
  refine ⟨h.off, ?_, ?_, ?_, ?_, ?_⟩ <;> simp only [CLot.after] <;> (try split) <;> omega
theorem crAfter (r : CR) (l : CLot) (x : Int) (h : l.ok) (hx : 0 ≤ x ∧ x ≤ 100000) : DCall Tryd.prog 94 [dLot r l, dI x] [] (dLot r (l.after r x)) [] := by
  have h1 := lowT_in h.off.1 hx
  have h2 := highT_in h.off.1 hx
  have h3 := h.made
  have h4 := h.ws
  have h5 := h.wb
  have h6 := h.bs
  have h7 := h.bb
  refine DCall.of Tryd.func94 sf94 hb94 (Nat.le_of_ble_eq_true rfl) (okRes_nil fun _ => rfl) ?_; simp only [s94, Mv, Sg, Ld, Fa, Xt, Ix, Ln, Cl, Oo, Og, idxs, Nat.reduceAdd]
  repeat' (first
    | (with_reducible first | refine DW.seq ?_ | refine DW.block ?_ | refine DW.skip ?_ | refine DW.exit ?_ | refine DW.ret ?_ | refine DW.reg ?_)
    | (refine DW.dreg rfl (WF.of ?_) ?_; first | rfl | skip)
    | (simp (disch := omega) only [go_sem, Nat.reduceLT, Nat.reduceLeDiff, Nat.reduceAdd, Nat.reduceMul, Nat.reduceEqDiff, ↓reduceIte, reduceCtorEq, Nat.reduceBEq, Nat.reduceBNe, Nat.reducePow, Int.reduceLE, Int.reduceLT, Int.reduceNeg, Int.reduceToNat, Int.reduceEq, Int.reduceAdd, Int.reduceSub, Int.reduceMul, Int.reduceBEq, Int.reduceBNe, Blk.men, Blk.keysIn])
    | (exact retS_of rfl rfl rfl)
    | (refine DW.cond_tt rfl ?_)
    | (refine call_c (crTruth l.off x h.off hx) (by decide) ?_)
    | (refine call_c (crWith l.ws l.wb (lowT l.off x) r.low (by omega) (by omega) (by omega)) (by decide) ?_)
    | (refine call_c (crWith l.bs l.bb (highT l.off x) r.low (by omega) (by omega) (by omega)) (by decide) ?_)
    | (refine DW.cond_ff rfl ?_)
    | (refine DW.cond rfl ?_ ?_ <;> intro hc <;> (try simp only [go_sem] at hc))
    | (refine g_split ?_ ?_ <;> intro hc <;> (try simp only [hc]) <;> (try simp only [go_sem] at hc)))
def CLot.new (off : Int) : CLot := ⟨off, 0, 0, 0, 0, 0⟩
def lotOf (r : CR) (off : Int) (rs : List Int) : CLot := rs.foldl (CLot.after r) (CLot.new off)
theorem lotOf_snoc (r : CR) (off : Int) (rs : List Int) (x : Int) : lotOf r off (rs ++ [x]) = (lotOf r off rs).after r x := by simp [lotOf, List.foldl_append]
theorem lotOf_take {r : CR} {off : Int} {rs : List Int} {i : Nat} {x : Int} (h : rs[i]? = some x) : lotOf r off (rs.take (i + 1)) = (lotOf r off (rs.take i)).after r x := by
  rw [List.take_add_one, h]; exact lotOf_snoc r off _ x
theorem fold_made (r : CR) : ∀ (rs : List Int) (l : CLot), (rs.foldl (CLot.after r) l).made = l.made + rs.length ∧ (rs.foldl (CLot.after r) l).off = l.off
  | [], l => by simp
  | x :: rs, l => by
    have ih := fold_made r rs (l.after r x)
    rw [List.foldl_cons, ih.1, ih.2]
    refine ⟨?_, rfl⟩
    show l.made + 1 + (rs.length : Int) = l.made + ((rs.length + 1 : Nat) : Int)
    omega
theorem lotOf_made (r : CR) (off : Int) (rs : List Int) : (lotOf r off rs).made = rs.length ∧ (lotOf r off rs).off = off := by
  have := fold_made r rs (CLot.new off)
  unfold lotOf
  rw [this.1, this.2]
  simp [CLot.new]
theorem fold_ok (r : CR) : ∀ (rs : List Int) (l : CLot), l.ok → l.made + rs.length ≤ 100 → (∀ x ∈ rs, 0 ≤ x ∧ x ≤ 100000) → (rs.foldl (CLot.after r) l).ok
  | [], l, h, _, _ => h
  | x :: rs, l, h, h1, h2 => by
    rw [List.foldl_cons]
    rw [List.length_cons] at h1
    refine fold_ok r rs _ (CLot.ok_after h (by omega) (h2 x (by simp))) ?_ (fun y hy => h2 y (by simp [hy]))
    simp only [CLot.after]; omega
theorem lotOf_ok {r : CR} {off : Int} (ho : 0 ≤ off ∧ off ≤ 1000) (rs : List Int) (h1 : rs.length ≤ 100) (h2 : ∀ x ∈ rs, 0 ≤ x ∧ x ≤ 100000) : (lotOf r off rs).ok :=
  fold_ok r rs (CLot.new off) ⟨ho, by simp [CLot.new], by simp [CLot.new], by simp [CLot.new], by simp [CLot.new], by simp [CLot.new]⟩ (by show (0 : Int) + (rs.length : Int) ≤ 100; omega) h2
theorem crNew (b : Bool) (r : CR) (rs : List Int) (off : Int) (h : CRok r rs off) : DCall Tryd.prog 60 [dCR r, dIs b rs, dI off] [] (dLot r (lotOf r off rs)) [] := by
  have hlen := h.len
  have ht := h.tests
  have hl20 : rs.length ≤ 20 := by omega
  refine DCall.of Tryd.func60 sf60 hb60 (Nat.le_of_ble_eq_true rfl) (okRes_nil fun _ => rfl) ?_; simp only [s60, Mv, Sg, Ld, Fa, Xt, Ix, Ln, Cl, Oo, Og, idxs, Nat.reduceAdd]
  repeat' (first
    | (with_reducible first | refine DW.seq ?_ | refine DW.block ?_ | refine DW.skip ?_ | refine DW.exit ?_ | refine DW.ret ?_ | refine DW.reg ?_)
    | (simp (disch := omega) only [go_sem, Nat.reduceLT, Nat.reduceLeDiff, Nat.reduceAdd, Nat.reduceMul, Nat.reduceEqDiff, ↓reduceIte, reduceCtorEq, Nat.reduceBEq, Nat.reduceBNe, Nat.reducePow, Int.reduceLE, Int.reduceLT, Int.reduceNeg, Int.reduceToNat, Int.reduceEq, Int.reduceAdd, Int.reduceSub, Int.reduceMul, Int.reduceBEq, Int.reduceBNe, Blk.men, Blk.keysIn])
    | (exact retS_of rfl rfl rfl)
    | (refine DW.cond_tt rfl ?_)
    | (refine DW.cond_ff rfl ?_)
    | (refine DW.cond rfl ?_ ?_ <;> intro hc <;> (try simp only [go_sem] at hc))
    | (refine g_split ?_ ?_ <;> intro hc <;> (try simp only [hc]) <;> (try simp only [go_sem] at hc)))
  refine DW.loop (ι := { i : Nat // i ≤ rs.length }) (fun i => ⟨24, [(15, dI i.1), (14, dI rs.length), (13, dIs b rs), (7, .box 7 0), (6, .box 6 0)], [(7, .box [dI r.tests, dI r.mean, dI r.low, dI r.bad, dI (lotOf r off (rs.take i.1)).off, dI (lotOf r off (rs.take i.1)).made, dI (lotOf r off (rs.take i.1)).ws, dI (lotOf r off (rs.take i.1)).wb, dI (lotOf r off (rs.take i.1)).bs, dI (lotOf r off (rs.take i.1)).bb]), (6, .box [dI 0, dI 0, dI 0, dI 0, dI 0, dI 0, dI 0, dI 0, dI 0, dI 0])]⟩) (fun i => rs.length - i.1) ⟨0, Nat.zero_le _⟩ ?_ ?_
  · refine Ent.to ?_ ?_ <;> simp (disch := omega) only [wkT_cons, wkX_cons, wkT_nil, wkX_nil, get, Nat.reduceEqDiff, ↓reduceIte, ex_some, wk_self, wk_top, wk_nil, wkB_self, and_self, dI, i64_in, and_true, true_and, Int.natCast_add, Int.natCast_one, Int.ofNat_zero, Int.natCast_zero, List.take_zero, lotOf, List.foldl_nil, CLot.new]
    all_goals exact .refl _
  rintro ⟨i, hi⟩
  rcases at_or rs i hi with ⟨x, hx, hlt, hd⟩ | ⟨hend, hd⟩
  · have hs := lotOf_take (r := r) (off := off) hx
    have hok := lotOf_ok (r := r) h.off (rs.take i) (by rw [List.length_take]; omega) (fun y hy => h.rs y (List.mem_of_mem_take hy))
    generalize lotOf r off (rs.take i) = l at *
    repeat' (first
    | (with_reducible first | refine DW.seq ?_ | refine DW.block ?_ | refine DW.skip ?_ | refine DW.exit ?_ | refine DW.ret ?_ | refine DW.reg ?_)
    | (simp (disch := omega) only [go_sem, Nat.reduceLT, Nat.reduceLeDiff, Nat.reduceAdd, Nat.reduceMul, Nat.reduceEqDiff, ↓reduceIte, reduceCtorEq, Nat.reduceBEq, Nat.reduceBNe, Nat.reducePow, Int.reduceLE, Int.reduceLT, Int.reduceNeg, Int.reduceToNat, Int.reduceEq, Int.reduceAdd, Int.reduceSub, Int.reduceMul, Int.reduceBEq, Int.reduceBNe, Blk.men, Blk.keysIn, hd, hx])
    | (exact retS_of rfl rfl rfl)
    | (refine DW.cond_tt rfl ?_)
    | (refine call_c (crAfter r l x hok (h.rs x (List.mem_of_getElem? hx))) (by decide) ?_)
    | (refine DW.cond_ff rfl ?_)
    | (refine DW.cond rfl ?_ ?_ <;> intro hc <;> (try simp only [go_sem] at hc))
    | (refine g_split ?_ ?_ <;> intro hc <;> (try simp only [hc]) <;> (try simp only [go_sem] at hc)))
    refine ⟨⟨i + 1, hlt⟩, ?_, Ent.to ?_ ?_⟩ <;> first | (show _ < _; (try simp only); omega) | (simp (disch := omega) only [wkT_cons, wkX_cons, wkT_nil, wkX_nil, get, Nat.reduceEqDiff, ↓reduceIte, ex_some, wk_self, wk_top, wk_nil, wkB_self, and_self, dI, i64_in, and_true, true_and, Int.natCast_add, Int.natCast_one, Int.ofNat_zero, Int.natCast_zero,  hs])
    all_goals exact .refl _
  · rw [List.take_of_length_le (by omega : rs.length ≤ i)]
    generalize lotOf r off rs = l at *
    repeat' (first
    | (with_reducible first | refine DW.seq ?_ | refine DW.block ?_ | refine DW.skip ?_ | refine DW.exit ?_ | refine DW.ret ?_ | refine DW.reg ?_)
    | (simp (disch := omega) only [go_sem, Nat.reduceLT, Nat.reduceLeDiff, Nat.reduceAdd, Nat.reduceMul, Nat.reduceEqDiff, ↓reduceIte, reduceCtorEq, Nat.reduceBEq, Nat.reduceBNe, Nat.reducePow, Int.reduceLE, Int.reduceLT, Int.reduceNeg, Int.reduceToNat, Int.reduceEq, Int.reduceAdd, Int.reduceSub, Int.reduceMul, Int.reduceBEq, Int.reduceBNe, Blk.men, Blk.keysIn, hd])
    | (exact retS_of rfl rfl rfl)
    | (refine DW.cond_tt rfl ?_)
    | (refine DW.cond_ff rfl ?_)
    | (refine DW.cond rfl ?_ ?_ <;> intro hc <;> (try simp only [go_sem] at hc))
    | (refine g_split ?_ ?_ <;> intro hc <;> (try simp only [hc]) <;> (try simp only [go_sem] at hc)))
end Go.Dw.Seat
end
section
set_option linter.unusedSimpArgs false
set_option maxRecDepth 100000
namespace Go.Dw.Seat
open Go Go.Dw Go.Proofs Go.IntWalk
def badOf (b rest low : Int) (i : Nat) : Int := if rest < low then b + (i : Nat) else b
def passI (r : CR) (made s b rest : Int) : Bool := decide (r.tests * r.mean ≤ s + ((r.tests - made).toNat : Int) * rest) && decide (badOf b rest r.low (r.tests - made).toNat ≤ r.bad)
theorem mulB0 {a b A B : Int} (ha : 0 ≤ a ∧ a ≤ A) (hb : 0 ≤ b ∧ b ≤ B) : 0 ≤ a * b ∧ a * b ≤ A * B := by
  refine ⟨Int.mul_nonneg ha.1 hb.1, ?_⟩
  exact Int.le_trans (Int.mul_le_mul_of_nonneg_right ha.2 hb.1) (Int.mul_le_mul_of_nonneg_left hb.2 (Int.le_trans ha.1 ha.2))
theorem crPasses (r : CR) (l : CLot) (s b rest : Int) (ht : 1 ≤ r.tests ∧ r.tests ≤ 20) (hm : 0 ≤ r.mean ∧ r.mean ≤ 100000) (hmade : 0 ≤ l.made ∧ l.made ≤ r.tests) (hs : 0 ≤ s ∧ s ≤ 100000000) (hb : 0 ≤ b ∧ b ≤ 100) (hr : 0 ≤ rest ∧ rest ≤ 100000) :
    DCall Tryd.prog 95 [dLot r l, .agg [dI s, dI b], dI rest] [] (bD (passI r l.made s b rest)) [] := by
  obtain ⟨k, hk⟩ : ∃ k : Nat, (r.tests - l.made).toNat = k := ⟨_, rfl⟩
  have hkI : r.tests - l.made = (k : Int) := by omega
  have hmul := mulB0 (a := r.tests) (b := r.mean) (A := 20) (B := 100000) (by omega) hm
  have hkr := mulB0 (a := (k : Int)) (b := rest) (A := 20) (B := 100000) (by omega) hr
  have hp : passI r l.made s b rest = (decide (r.tests * r.mean ≤ s + (k : Int) * rest) && decide (badOf b rest r.low k ≤ r.bad)) := by rw [passI, hk]
  rw [hp]
  generalize htm : r.tests * r.mean = tm at *
  refine DCall.of Tryd.func95 sf95 hb95 (Nat.le_of_ble_eq_true rfl) (okRes_nil fun _ => rfl) ?_; simp only [s95, Mv, Sg, Ld, Fa, Xt, Ix, Ln, Cl, Oo, Og, idxs, Nat.reduceAdd]
  repeat' (first
    | (with_reducible first | refine DW.seq ?_ | refine DW.block ?_ | refine DW.skip ?_ | refine DW.exit ?_ | refine DW.ret ?_ | refine DW.reg ?_)
    | (simp (disch := omega) only [go_sem, Nat.reduceLT, Nat.reduceLeDiff, Nat.reduceAdd, Nat.reduceMul, Nat.reduceEqDiff, ↓reduceIte, reduceCtorEq, Nat.reduceBEq, Nat.reduceBNe, Nat.reducePow, Int.reduceLE, Int.reduceLT, Int.reduceNeg, Int.reduceToNat, Int.reduceEq, Int.reduceAdd, Int.reduceSub, Int.reduceMul, Int.reduceBEq, Int.reduceBNe, Blk.men, Blk.keysIn, hkI])
    | (exact retS_of rfl rfl rfl)
    | (refine DW.cond_tt rfl ?_)
    | (refine DW.cond_ff rfl ?_)
    | (refine DW.cond rfl ?_ ?_ <;> intro hc <;> (try simp only [go_sem] at hc))
    | (refine g_split ?_ ?_ <;> intro hc <;> (try simp only [hc]) <;> (try simp only [go_sem] at hc)))
  refine DW.loop (ι := { i : Nat // i ≤ k }) (fun i => ⟨40, [(13, dI i.1), (12, dI k), (4, .box 4 0), (3, .box 3 0), (2, dI rest)], [(4, .box [dI (s + (i.1 : Int) * rest), dI (badOf b rest r.low i.1)]), (3, .box [dI r.tests, dI r.mean, dI r.low, dI r.bad, dI l.off, dI l.made, dI l.ws, dI l.wb, dI l.bs, dI l.bb])]⟩) (fun i => k - i.1) ⟨0, Nat.zero_le _⟩ ?_ ?_
  · refine Ent.to ?_ ?_ <;> simp (disch := omega) only [wkT_cons, wkX_cons, wkT_nil, wkX_nil, get, Nat.reduceEqDiff, ↓reduceIte, ex_some, wk_self, wk_top, wk_nil, wkB_self, and_self, dI, i64_in, and_true, true_and, Int.natCast_add, Int.natCast_one, Int.ofNat_zero, Int.natCast_zero, Int.zero_mul, Int.add_zero, badOf, ite_self]
    all_goals exact .refl _
  rintro ⟨i, hi⟩
  have hir := mulB0 (a := (i : Int)) (b := rest) (A := 20) (B := 100000) (by omega) hr
  have hbi : 0 ≤ badOf b rest r.low i ∧ badOf b rest r.low i ≤ 200 := by unfold badOf; split <;> omega
  have hnext : badOf b rest r.low (i + 1) = if rest < r.low then badOf b rest r.low i + 1 else badOf b rest r.low i := by unfold badOf; split <;> omega
  have hadd : s + ((i + 1 : Nat) : Int) * rest = s + (i : Int) * rest + rest := by rw [Int.natCast_add, Int.add_mul]; omega
  rcases Nat.lt_or_ge i k with hlt | hge
  · have hd : decide ((i : Int) < (k : Int)) = true := by rw [decide_eq_true_eq]; omega
    have hw := crWith (s + (i : Int) * rest) (badOf b rest r.low i) rest r.low (by omega) (by omega) (by omega)
    rw [← hnext, ← hadd] at hw
    generalize s + (i : Int) * rest = si at *
    generalize hj1 : s + ((i + 1 : Nat) : Int) * rest = sj at *
    generalize hj2 : badOf b rest r.low (i + 1) = bj at *
    rw [Int.natCast_add, Int.natCast_one] at hj1
    repeat' (first
    | (with_reducible first | refine DW.seq ?_ | refine DW.block ?_ | refine DW.skip ?_ | refine DW.exit ?_ | refine DW.ret ?_ | refine DW.reg ?_)
    | (simp (disch := omega) only [go_sem, Nat.reduceLT, Nat.reduceLeDiff, Nat.reduceAdd, Nat.reduceMul, Nat.reduceEqDiff, ↓reduceIte, reduceCtorEq, Nat.reduceBEq, Nat.reduceBNe, Nat.reducePow, Int.reduceLE, Int.reduceLT, Int.reduceNeg, Int.reduceToNat, Int.reduceEq, Int.reduceAdd, Int.reduceSub, Int.reduceMul, Int.reduceBEq, Int.reduceBNe, Blk.men, Blk.keysIn, hd])
    | (exact retS_of rfl rfl rfl)
    | (refine DW.cond_tt rfl ?_)
    | (refine call_c (hw) (by decide) ?_)
    | (refine DW.cond_ff rfl ?_)
    | (refine DW.cond rfl ?_ ?_ <;> intro hc <;> (try simp only [go_sem] at hc))
    | (refine g_split ?_ ?_ <;> intro hc <;> (try simp only [hc]) <;> (try simp only [go_sem] at hc)))
    refine ⟨⟨i + 1, hlt⟩, ?_, Ent.to ?_ ?_⟩ <;> first | (show _ < _; (try simp only); omega) | (simp (disch := omega) only [wkT_cons, wkX_cons, wkT_nil, wkX_nil, get, Nat.reduceEqDiff, ↓reduceIte, ex_some, wk_self, wk_top, wk_nil, wkB_self, and_self, dI, i64_in, and_true, true_and, Int.natCast_add, Int.natCast_one, Int.ofNat_zero, Int.natCast_zero,  hj1, hj2])
    all_goals exact .refl _
  · obtain rfl : i = k := by omega
    have hd : decide ((i : Int) < (i : Int)) = false := by rw [decide_eq_false_iff_not]; omega
    generalize s + (i : Int) * rest = si at *
    generalize badOf b rest r.low i = bi at *
    cases h1 : decide (tm ≤ si) <;> repeat' (first
    | (with_reducible first | refine DW.seq ?_ | refine DW.block ?_ | refine DW.skip ?_ | refine DW.exit ?_ | refine DW.ret ?_ | refine DW.reg ?_)
    | (simp (disch := omega) only [go_sem, Nat.reduceLT, Nat.reduceLeDiff, Nat.reduceAdd, Nat.reduceMul, Nat.reduceEqDiff, ↓reduceIte, reduceCtorEq, Nat.reduceBEq, Nat.reduceBNe, Nat.reducePow, Int.reduceLE, Int.reduceLT, Int.reduceNeg, Int.reduceToNat, Int.reduceEq, Int.reduceAdd, Int.reduceSub, Int.reduceMul, Int.reduceBEq, Int.reduceBNe, Blk.men, Blk.keysIn, hd, htm, h1, Bool.true_and, Bool.false_and])
    | (exact retS_of rfl rfl rfl)
    | (refine DW.cond_tt rfl ?_)
    | (refine DW.cond_ff rfl ?_)
    | (refine DW.cond rfl ?_ ?_ <;> intro hc <;> (try simp only [go_sem] at hc))
    | (refine g_split ?_ ?_ <;> intro hc <;> (try simp only [hc]) <;> (try simp only [go_sem] at hc)))
def stateI (r : CR) (l : CLot) : Int := if passI r l.made l.ws l.wb 0 then 1 else if passI r l.made l.bs l.bb 100000 then 3 else 2
theorem crState (r : CR) (l : CLot) (h : l.ok) (ht : 1 ≤ r.tests ∧ r.tests ≤ 20) (hm : 0 ≤ r.mean ∧ r.mean ≤ 100000) (hmade : l.made ≤ r.tests) : DCall Tryd.prog 61 [dLot r l] [] (dI (stateI r l)) [] := by
  have h3 := h.made
  have h4 := h.ws
  have h5 := h.wb
  have h6 := h.bs
  have h7 := h.bb
  have hw := crPasses r l l.ws l.wb 0 ht hm ⟨h3.1, hmade⟩ (by omega) (by omega) (by omega)
  have hb := crPasses r l l.bs l.bb 100000 ht hm ⟨h3.1, hmade⟩ (by omega) (by omega) (by omega)
  unfold stateI
  cases h1 : passI r l.made l.ws l.wb 0 with
  | true =>
    rw [h1] at hw
    refine DCall.of Tryd.func61 sf61 hb61 (Nat.le_of_ble_eq_true rfl) (okRes_nil fun _ => rfl) ?_; simp only [s61, Mv, Sg, Ld, Fa, Xt, Ix, Ln, Cl, Oo, Og, idxs, Nat.reduceAdd]
    repeat' (first
    | (with_reducible first | refine DW.seq ?_ | refine DW.block ?_ | refine DW.skip ?_ | refine DW.exit ?_ | refine DW.ret ?_ | refine DW.reg ?_)
    | (simp (disch := omega) only [go_sem, Nat.reduceLT, Nat.reduceLeDiff, Nat.reduceAdd, Nat.reduceMul, Nat.reduceEqDiff, ↓reduceIte, reduceCtorEq, Nat.reduceBEq, Nat.reduceBNe, Nat.reducePow, Int.reduceLE, Int.reduceLT, Int.reduceNeg, Int.reduceToNat, Int.reduceEq, Int.reduceAdd, Int.reduceSub, Int.reduceMul, Int.reduceBEq, Int.reduceBNe, Blk.men, Blk.keysIn])
    | (exact retS_of rfl rfl rfl)
    | (refine DW.cond_tt rfl ?_)
    | (refine call_c (hw) (by decide) ?_)
    | (refine DW.cond_ff rfl ?_)
    | (refine DW.cond rfl ?_ ?_ <;> intro hc <;> (try simp only [go_sem] at hc))
    | (refine g_split ?_ ?_ <;> intro hc <;> (try simp only [hc]) <;> (try simp only [go_sem] at hc)))
  | false =>
    rw [h1] at hw
    cases h2 : passI r l.made l.bs l.bb 100000 with
    | true =>
      rw [h2] at hb
      refine DCall.of Tryd.func61 sf61 hb61 (Nat.le_of_ble_eq_true rfl) (okRes_nil fun _ => rfl) ?_; simp only [s61, Mv, Sg, Ld, Fa, Xt, Ix, Ln, Cl, Oo, Og, idxs, Nat.reduceAdd]
      repeat' (first
    | (with_reducible first | refine DW.seq ?_ | refine DW.block ?_ | refine DW.skip ?_ | refine DW.exit ?_ | refine DW.ret ?_ | refine DW.reg ?_)
    | (simp (disch := omega) only [go_sem, Nat.reduceLT, Nat.reduceLeDiff, Nat.reduceAdd, Nat.reduceMul, Nat.reduceEqDiff, ↓reduceIte, reduceCtorEq, Nat.reduceBEq, Nat.reduceBNe, Nat.reducePow, Int.reduceLE, Int.reduceLT, Int.reduceNeg, Int.reduceToNat, Int.reduceEq, Int.reduceAdd, Int.reduceSub, Int.reduceMul, Int.reduceBEq, Int.reduceBNe, Blk.men, Blk.keysIn])
    | (exact retS_of rfl rfl rfl)
    | (refine DW.cond_tt rfl ?_)
    | (refine call_c (hw) (by decide) ?_)
    | (refine call_c (hb) (by decide) ?_)
    | (refine DW.cond_ff rfl ?_)
    | (refine DW.cond rfl ?_ ?_ <;> intro hc <;> (try simp only [go_sem] at hc))
    | (refine g_split ?_ ?_ <;> intro hc <;> (try simp only [hc]) <;> (try simp only [go_sem] at hc)))
    | false =>
      rw [h2] at hb
      refine DCall.of Tryd.func61 sf61 hb61 (Nat.le_of_ble_eq_true rfl) (okRes_nil fun _ => rfl) ?_; simp only [s61, Mv, Sg, Ld, Fa, Xt, Ix, Ln, Cl, Oo, Og, idxs, Nat.reduceAdd]
      repeat' (first
    | (with_reducible first | refine DW.seq ?_ | refine DW.block ?_ | refine DW.skip ?_ | refine DW.exit ?_ | refine DW.ret ?_ | refine DW.reg ?_)
    | (simp (disch := omega) only [go_sem, Nat.reduceLT, Nat.reduceLeDiff, Nat.reduceAdd, Nat.reduceMul, Nat.reduceEqDiff, ↓reduceIte, reduceCtorEq, Nat.reduceBEq, Nat.reduceBNe, Nat.reducePow, Int.reduceLE, Int.reduceLT, Int.reduceNeg, Int.reduceToNat, Int.reduceEq, Int.reduceAdd, Int.reduceSub, Int.reduceMul, Int.reduceBEq, Int.reduceBNe, Blk.men, Blk.keysIn])
    | (exact retS_of rfl rfl rfl)
    | (refine DW.cond_tt rfl ?_)
    | (refine call_c (hw) (by decide) ?_)
    | (refine call_c (hb) (by decide) ?_)
    | (refine DW.cond_ff rfl ?_)
    | (refine DW.cond rfl ?_ ?_ <;> intro hc <;> (try simp only [go_sem] at hc))
    | (refine g_split ?_ ?_ <;> intro hc <;> (try simp only [hc]) <;> (try simp only [go_sem] at hc)))
theorem crDecide (b : Bool) (r : CR) (rs : List Int) (off : Int) (h : CRok r rs off) : DCall Tryd.prog 19 [dCR r, dIs b rs, dI off] [] (.tup [dI (stateI r (lotOf r off rs)), dI 0]) [] := by
  have hlen := h.len
  have ht := h.tests
  have hm := (lotOf_made r off rs).1
  have hok := lotOf_ok (r := r) h.off rs (by omega) h.rs
  have h1 := crRule b r rs off h
  have h2 := crNew b r rs off h
  have h3 := crState r (lotOf r off rs) hok h.tests h.mean (by omega)
  refine DCall.of Tryd.func19 sf19 hb19 (Nat.le_of_ble_eq_true rfl) (okRes_nil fun _ => rfl) ?_; simp only [s19, Mv, Sg, Ld, Fa, Xt, Ix, Ln, Cl, Oo, Og, idxs, Nat.reduceAdd]
  repeat' (first
    | (with_reducible first | refine DW.seq ?_ | refine DW.block ?_ | refine DW.skip ?_ | refine DW.exit ?_ | refine DW.ret ?_ | refine DW.reg ?_)
    | (simp (disch := omega) only [go_sem, Nat.reduceLT, Nat.reduceLeDiff, Nat.reduceAdd, Nat.reduceMul, Nat.reduceEqDiff, ↓reduceIte, reduceCtorEq, Nat.reduceBEq, Nat.reduceBNe, Nat.reducePow, Int.reduceLE, Int.reduceLT, Int.reduceNeg, Int.reduceToNat, Int.reduceEq, Int.reduceAdd, Int.reduceSub, Int.reduceMul, Int.reduceBEq, Int.reduceBNe, Blk.men, Blk.keysIn])
    | (exact retS_of rfl rfl rfl)
    | (refine DW.cond_tt rfl ?_)
    | (refine call_c (h1) (by decide) ?_)
    | (refine call_c (h2) (by decide) ?_)
    | (refine call_c (h3) (by decide) ?_)
    | (refine DW.cond_ff rfl ?_)
    | (refine DW.cond rfl ?_ ?_ <;> intro hc <;> (try simp only [go_sem] at hc))
    | (refine g_split ?_ ?_ <;> intro hc <;> (try simp only [hc]) <;> (try simp only [go_sem] at hc)))
end Go.Dw.Seat
end
section
set_option linter.unusedSimpArgs false
set_option maxRecDepth 100000
namespace Go.Dw.Seat
open Go Go.Dw Go.Proofs Go.IntWalk
theorem crSpan (lo hi least most : Int) (h : least ≤ lo ∧ lo ≤ hi ∧ hi ≤ most) : DCall Tryd.prog 72 [.agg [dI lo, dI hi], dI least, dI most] [] (bD true) [] := by
  have := crSpanG lo hi least most
  rwa [spanOk_yes h] at this
theorem crIn (b : Bool) (lo hi : Int) (l : List Int) (hl : l.length ≤ 2 ^ 36) (h : ∀ v ∈ l, lo ≤ v ∧ v ≤ hi) : DCall Tryd.prog 59 [dI lo, dI hi, dIs b l] [] (bD true) [] := by
  have := crWithin b lo hi l hl
  rwa [wthn_yes h] at this
theorem closeDs_mapc' {σ : St} {mv : Option Nat} {caps : List C} : closeDs σ mv (caps.map D.c) = some (caps.map D.c) := by
  have := @closeDs_fn _ σ mv [] caps []
  simpa [closeDs] using this
theorem ud3 : Tryd.prog.underlying 3 = some (.int .i64) := by kernel_rfl
theorem ud96 : Tryd.prog.underlying 96 = some (.int .u64) := by kernel_rfl
theorem srSearch (n r : Int) (h : 0 ≤ r ∧ r ≤ n ∧ n ≤ 1099511627776) (g : FuncId) (caps : List C) (hp : ∀ k, 0 ≤ k → k < n → DCall Tryd.prog g (dI k :: caps.map D.c) [] (bD (decide (r ≤ k))) []) : DCall Tryd.prog 97 [dI n, .c (.fn (.func g) [] caps)] [] (dI r) [] := by
  refine DCall.of Tryd.func97 sf97 hb97 (Nat.le_of_ble_eq_true rfl) (okRes_nil fun _ => rfl) ?_; simp only [s97, Mv, Sg, Ld, Fa, Xt, Ix, Ln, Cl, Oo, Og, idxs, Nat.reduceAdd]
  repeat' (first
    | (with_reducible first | refine DW.seq ?_ | refine DW.block ?_ | refine DW.skip ?_ | refine DW.exit ?_ | refine DW.ret ?_ | refine DW.reg ?_)
    | (simp (disch := omega) only [go_sem, Nat.reduceLT, Nat.reduceLeDiff, Nat.reduceAdd, Nat.reduceMul, Nat.reduceEqDiff, ↓reduceIte, reduceCtorEq, Nat.reduceBEq, Nat.reduceBNe, Nat.reducePow, Int.reduceLE, Int.reduceLT, Int.reduceNeg, Int.reduceToNat, Int.reduceEq, Int.reduceAdd, Int.reduceSub, Int.reduceMul, Int.reduceBEq, Int.reduceBNe, Blk.men, Blk.keysIn])
    | (exact retS_of rfl rfl rfl)
    | (refine DW.cond_tt rfl ?_)
    | (refine DW.cond_ff rfl ?_)
    | (refine DW.cond rfl ?_ ?_ <;> intro hc <;> (try simp only [go_sem] at hc))
    | (refine g_split ?_ ?_ <;> intro hc <;> (try simp only [hc]) <;> (try simp only [go_sem] at hc)))
  refine DW.loop (ι := { s : Int × Int // 0 ≤ s.1 ∧ s.1 ≤ r ∧ r ≤ s.2 ∧ s.2 ≤ n }) (fun s => ⟨26, [(6, dI s.1.2), (5, dI s.1.1), (1, .c (.fn (.func g) [] caps))], []⟩) (fun s => (s.1.2 - s.1.1).toNat) ⟨(0, n), Int.le_refl _, h.1, h.2.1, Int.le_refl _⟩ ?_ ?_
  · refine Ent.to ?_ ?_ <;> simp (disch := omega) only [wkT_cons, wkX_cons, wkT_nil, wkX_nil, get, Nat.reduceEqDiff, ↓reduceIte, ex_some, wk_self, wk_top, wk_nil, wkB_self, and_self, dI, i64_in, and_true, true_and, Int.natCast_add, Int.natCast_one, Int.ofNat_zero, Int.natCast_zero]
  rintro ⟨⟨i, j⟩, i1, i2, i3, i4⟩
  dsimp only at i1 i2 i3 i4 ⊢
  rcases Int.lt_or_le i j with hij | hij
  · have hd : decide (i < j) = true := decide_eq_true hij
    have hcall := hp ((i + j) / 2) (by omega) (by omega)
    have hw1 : IntKind.u64.wrap (i + j) = i + j := IntWalk.u64_in _ (by omega)
    have hsh : shrI IntKind.u64 (i + j) 1 = (i + j) / 2 := by
      have : shrI IntKind.u64 (i + j) 1 = (i + j).fdiv 2 := rfl
      rw [this, Int.fdiv_eq_ediv_of_nonneg _ (by decide)]
    repeat' (first
    | (with_reducible first | refine DW.seq ?_ | refine DW.block ?_ | refine DW.skip ?_ | refine DW.exit ?_ | refine DW.ret ?_ | refine DW.reg ?_)
    | (simp (disch := omega) only [go_sem, Nat.reduceLT, Nat.reduceLeDiff, Nat.reduceAdd, Nat.reduceMul, Nat.reduceEqDiff, ↓reduceIte, reduceCtorEq, Nat.reduceBEq, Nat.reduceBNe, Nat.reducePow, Int.reduceLE, Int.reduceLT, Int.reduceNeg, Int.reduceToNat, Int.reduceEq, Int.reduceAdd, Int.reduceSub, Int.reduceMul, Int.reduceBEq, Int.reduceBNe, Blk.men, Blk.keysIn, hd, closeDs_mapc', ud3, ud96, hw1, hsh])
    | (exact retS_of rfl rfl rfl)
    | (refine DW.cond_tt rfl ?_)
    | (refine DW.cond_ff rfl ?_)
    | (refine DW.cond rfl ?_ ?_ <;> intro hc <;> (try simp only [go_sem] at hc))
    | (refine g_split ?_ ?_ <;> intro hc <;> (try simp only [hc]) <;> (try simp only [go_sem] at hc)))
    refine call_c hcall (by decide) ?_
    cases hr : decide (r ≤ (i + j) / 2) with
    | true =>
      have hr' : r ≤ (i + j) / 2 := of_decide_eq_true hr
      simp (disch := omega) only [go_sem, Nat.reduceLT, Nat.reduceLeDiff, Nat.reduceAdd, Nat.reduceMul, Nat.reduceEqDiff, ↓reduceIte, reduceCtorEq, Nat.reduceBEq, Nat.reduceBNe, Nat.reducePow, Int.reduceLE, Int.reduceLT, Int.reduceNeg, Int.reduceToNat, Int.reduceEq, Int.reduceAdd, Int.reduceSub, Int.reduceMul, Int.reduceBEq, Int.reduceBNe, Blk.men, Blk.keysIn]
      repeat' (first
    | (with_reducible first | refine DW.seq ?_ | refine DW.block ?_ | refine DW.skip ?_ | refine DW.exit ?_ | refine DW.ret ?_ | refine DW.reg ?_)
    | (simp (disch := omega) only [go_sem, Nat.reduceLT, Nat.reduceLeDiff, Nat.reduceAdd, Nat.reduceMul, Nat.reduceEqDiff, ↓reduceIte, reduceCtorEq, Nat.reduceBEq, Nat.reduceBNe, Nat.reducePow, Int.reduceLE, Int.reduceLT, Int.reduceNeg, Int.reduceToNat, Int.reduceEq, Int.reduceAdd, Int.reduceSub, Int.reduceMul, Int.reduceBEq, Int.reduceBNe, Blk.men, Blk.keysIn])
    | (exact retS_of rfl rfl rfl)
    | (refine DW.cond_tt rfl ?_)
    | (refine DW.cond_ff rfl ?_)
    | (refine DW.cond rfl ?_ ?_ <;> intro hc <;> (try simp only [go_sem] at hc))
    | (refine g_split ?_ ?_ <;> intro hc <;> (try simp only [hc]) <;> (try simp only [go_sem] at hc)))
      refine ⟨⟨(i, (i + j) / 2), i1, i2, hr', by dsimp only; omega⟩, ?_, Ent.to ?_ ?_⟩ <;> first | (show _ < _; (try simp only); omega) | (simp (disch := omega) only [wkT_cons, wkX_cons, wkT_nil, wkX_nil, get, Nat.reduceEqDiff, ↓reduceIte, ex_some, wk_self, wk_top, wk_nil, wkB_self, and_self, dI, i64_in, and_true, true_and, Int.natCast_add, Int.natCast_one, Int.ofNat_zero, Int.natCast_zero])
    | false =>
      have hr' : ¬ r ≤ (i + j) / 2 := of_decide_eq_false hr
      simp (disch := omega) only [go_sem, Nat.reduceLT, Nat.reduceLeDiff, Nat.reduceAdd, Nat.reduceMul, Nat.reduceEqDiff, ↓reduceIte, reduceCtorEq, Nat.reduceBEq, Nat.reduceBNe, Nat.reducePow, Int.reduceLE, Int.reduceLT, Int.reduceNeg, Int.reduceToNat, Int.reduceEq, Int.reduceAdd, Int.reduceSub, Int.reduceMul, Int.reduceBEq, Int.reduceBNe, Blk.men, Blk.keysIn]
      repeat' (first
    | (with_reducible first | refine DW.seq ?_ | refine DW.block ?_ | refine DW.skip ?_ | refine DW.exit ?_ | refine DW.ret ?_ | refine DW.reg ?_)
    | (simp (disch := omega) only [go_sem, Nat.reduceLT, Nat.reduceLeDiff, Nat.reduceAdd, Nat.reduceMul, Nat.reduceEqDiff, ↓reduceIte, reduceCtorEq, Nat.reduceBEq, Nat.reduceBNe, Nat.reducePow, Int.reduceLE, Int.reduceLT, Int.reduceNeg, Int.reduceToNat, Int.reduceEq, Int.reduceAdd, Int.reduceSub, Int.reduceMul, Int.reduceBEq, Int.reduceBNe, Blk.men, Blk.keysIn])
    | (exact retS_of rfl rfl rfl)
    | (refine DW.cond_tt rfl ?_)
    | (refine DW.cond_ff rfl ?_)
    | (refine DW.cond rfl ?_ ?_ <;> intro hc <;> (try simp only [go_sem] at hc))
    | (refine g_split ?_ ?_ <;> intro hc <;> (try simp only [hc]) <;> (try simp only [go_sem] at hc)))
      refine ⟨⟨((i + j) / 2 + 1, j), by dsimp only; omega, by dsimp only; omega, i3, i4⟩, ?_, Ent.to ?_ ?_⟩ <;> first | (show _ < _; (try simp only); omega) | (simp (disch := omega) only [wkT_cons, wkX_cons, wkT_nil, wkX_nil, get, Nat.reduceEqDiff, ↓reduceIte, ex_some, wk_self, wk_top, wk_nil, wkB_self, and_self, dI, i64_in, and_true, true_and, Int.natCast_add, Int.natCast_one, Int.ofNat_zero, Int.natCast_zero])
  · obtain rfl : i = r := by omega
    have hd : decide (i < j) = false := by rw [decide_eq_false_iff_not]; omega
    repeat' (first
    | (with_reducible first | refine DW.seq ?_ | refine DW.block ?_ | refine DW.skip ?_ | refine DW.exit ?_ | refine DW.ret ?_ | refine DW.reg ?_)
    | (simp (disch := omega) only [go_sem, Nat.reduceLT, Nat.reduceLeDiff, Nat.reduceAdd, Nat.reduceMul, Nat.reduceEqDiff, ↓reduceIte, reduceCtorEq, Nat.reduceBEq, Nat.reduceBNe, Nat.reducePow, Int.reduceLE, Int.reduceLT, Int.reduceNeg, Int.reduceToNat, Int.reduceEq, Int.reduceAdd, Int.reduceSub, Int.reduceMul, Int.reduceBEq, Int.reduceBNe, Blk.men, Blk.keysIn, hd])
    | (exact retS_of rfl rfl rfl)
    | (refine DW.cond_tt rfl ?_)
    | (refine DW.cond_ff rfl ?_)
    | (refine DW.cond rfl ?_ ?_ <;> intro hc <;> (try simp only [go_sem] at hc))
    | (refine g_split ?_ ?_ <;> intro hc <;> (try simp only [hc]) <;> (try simp only [go_sem] at hc)))
structure IsRoot (n r : Int) : Prop where
  pos : 0 ≤ r
  low : r * r ≤ n
  high : n < (r + 1) * (r + 1)
theorem sq_mono {a b : Int} (ha : 0 ≤ a) (h : a ≤ b) : a * a ≤ b * b := Int.mul_le_mul h h ha (by omega)
theorem IsRoot.le {n r k : Int} (h : IsRoot n r) (hk : 0 ≤ k) : (n < (k + 1) * (k + 1)) ↔ r ≤ k := by
  constructor
  · intro h1
    rcases Int.lt_or_le k r with h2 | h2
    · have := sq_mono (a := k + 1) (b := r) (by omega) (by omega)
      have := h.low
      omega
    · exact h2
  · intro h1
    have := sq_mono (a := r + 1) (b := k + 1) (by have := h.pos; omega) (by omega)
    have := h.high
    omega
theorem IsRoot.self {n r : Int} (h : IsRoot n r) : r ≤ n := by
  have h1 := h.low
  have h2 := h.pos
  rcases Int.lt_or_le r 1 with h3 | h3
  · have : r = 0 := by omega
    subst this; omega
  · have := Int.mul_le_mul_of_nonneg_left h3 h2
    omega
theorem IsRoot.mono {n n' r r' : Int} (h : IsRoot n r) (h' : IsRoot n' r') (hn : n ≤ n') : r ≤ r' :=
  (h.le h'.pos).1 (by have := h'.high; omega)
theorem IsRoot.lt {n r : Int} (h : IsRoot n r) (hn : n ≤ 200000000) : r ≤ 14142 := by
  rcases Int.lt_or_le 14142 r with h1 | h1
  · have := sq_mono (a := 14143) (b := r) (by decide) (by omega)
    have := h.low
    omega
  · exact h1
theorem crRoot1 (b : Bool) (n k : Int) (hk : 0 ≤ k ∧ k ≤ 1000000000) : DCall Tryd.prog 98 [dI k, .c (.ro b [.v (.int .i64 n)] 0)] [] (bD (decide (n < (k + 1) * (k + 1)))) [] := by
  have hm := mulB0 (a := k + 1) (b := k + 1) (A := 1000000001) (B := 1000000001) (by omega) (by omega)
  refine DCall.of Tryd.func98 sf98 hb98 (Nat.le_of_ble_eq_true rfl) (okRes_nil fun _ => rfl) ?_; simp only [s98, Mv, Sg, Ld, Fa, Xt, Ix, Ln, Cl, Oo, Og, idxs, Nat.reduceAdd]
  repeat' (first
    | (with_reducible first | refine DW.seq ?_ | refine DW.block ?_ | refine DW.skip ?_ | refine DW.exit ?_ | refine DW.ret ?_ | refine DW.reg ?_)
    | (simp (disch := omega) only [go_sem, Nat.reduceLT, Nat.reduceLeDiff, Nat.reduceAdd, Nat.reduceMul, Nat.reduceEqDiff, ↓reduceIte, reduceCtorEq, Nat.reduceBEq, Nat.reduceBNe, Nat.reducePow, Int.reduceLE, Int.reduceLT, Int.reduceNeg, Int.reduceToNat, Int.reduceEq, Int.reduceAdd, Int.reduceSub, Int.reduceMul, Int.reduceBEq, Int.reduceBNe, Blk.men, Blk.keysIn])
    | (exact retS_of rfl rfl rfl)
    | (refine DW.cond_tt rfl ?_)
    | (refine DW.cond_ff rfl ?_)
    | (refine DW.cond rfl ?_ ?_ <;> intro hc <;> (try simp only [go_sem] at hc))
    | (refine g_split ?_ ?_ <;> intro hc <;> (try simp only [hc]) <;> (try simp only [go_sem] at hc)))
theorem crRoot (n r : Int) (h : IsRoot n r) (hn : n ≤ 200000000) : DCall Tryd.prog 74 [dI n] [] (dI r) [] := by
  have hs := h.self
  have hp := h.pos
  have h1 := srSearch (n + 1) r ⟨h.pos, by omega, by omega⟩ 98 [.ro true [.v (.int .i64 n)] 0] (fun k hk hkn => by
    have := crRoot1 true n k ⟨hk, by omega⟩
    rwa [decide_eq_decide.2 (h.le hk)] at this)
  refine DCall.of Tryd.func74 sf74 hb74 (Nat.le_of_ble_eq_true rfl) (okRes_nil fun _ => rfl) ?_; simp only [s74, Mv, Sg, Ld, Fa, Xt, Ix, Ln, Cl, Oo, Og, idxs, Nat.reduceAdd]
  repeat' (first
    | (with_reducible first | refine DW.seq ?_ | refine DW.block ?_ | refine DW.skip ?_ | refine DW.exit ?_ | refine DW.ret ?_ | refine DW.reg ?_)
    | (simp (disch := omega) only [go_sem, Nat.reduceLT, Nat.reduceLeDiff, Nat.reduceAdd, Nat.reduceMul, Nat.reduceEqDiff, ↓reduceIte, reduceCtorEq, Nat.reduceBEq, Nat.reduceBNe, Nat.reducePow, Int.reduceLE, Int.reduceLT, Int.reduceNeg, Int.reduceToNat, Int.reduceEq, Int.reduceAdd, Int.reduceSub, Int.reduceMul, Int.reduceBEq, Int.reduceBNe, Blk.men, Blk.keysIn])
    | (exact retS_of rfl rfl rfl)
    | (refine DW.cond_tt rfl ?_)
    | (refine call_c (h1) (by decide) ?_)
    | (refine DW.cond_ff rfl ?_)
    | (refine DW.cond rfl ?_ ?_ <;> intro hc <;> (try simp only [go_sem] at hc))
    | (refine g_split ?_ ?_ <;> intro hc <;> (try simp only [hc]) <;> (try simp only [go_sem] at hc)))
theorem crStrong1 (b : Bool) (x0 x1 x2 x3 around rule e c r : Int) (he : 0 ≤ e ∧ e ≤ 100000) (hc : 1 ≤ c ∧ c ≤ 10000) (ha : 1 ≤ around ∧ around ≤ 20000) (hu : 1 ≤ rule ∧ rule ≤ 1000) (hr : IsRoot (c * around) r) :
    DCall Tryd.prog 73 [dI e, dI c, .c (.ro b [.v (.int .i64 x0), .v (.int .i64 x1), .v (.int .i64 x2), .v (.int .i64 x3), .v (.int .i64 around), .v (.int .i64 rule)] 0)] [] (dI ((e * r * rule).tdiv 100000)) [] := by
  have m1 := mulB0 (a := c) (b := around) (A := 10000) (B := 20000) (by omega) (by omega)
  have hr1 := hr.lt (by omega)
  have m2 := mulB0 (a := e) (b := r) (A := 100000) (B := 14142) he ⟨hr.pos, hr1⟩
  have m3 := mulB0 (a := e * r) (b := rule) (A := 1414200000) (B := 1000) (by omega) (by omega)
  have hroot := crRoot (c * around) r hr (by omega)
  have hq : 0 ≤ (e * r * rule).tdiv 100000 ∧ (e * r * rule).tdiv 100000 ≤ 1414200000000 := by
    rw [Int.tdiv_eq_ediv_of_nonneg (by omega)]; omega
  refine DCall.of Tryd.func73 sf73 hb73 (Nat.le_of_ble_eq_true rfl) (okRes_nil fun _ => rfl) ?_; simp only [s73, Mv, Sg, Ld, Fa, Xt, Ix, Ln, Cl, Oo, Og, idxs, Nat.reduceAdd]
  repeat' (first
    | (with_reducible first | refine DW.seq ?_ | refine DW.block ?_ | refine DW.skip ?_ | refine DW.exit ?_ | refine DW.ret ?_ | refine DW.reg ?_)
    | (refine DW.dreg rfl (WF.of ?_) ?_; first | rfl | skip)
    | (simp (disch := omega) only [go_sem, Nat.reduceLT, Nat.reduceLeDiff, Nat.reduceAdd, Nat.reduceMul, Nat.reduceEqDiff, ↓reduceIte, reduceCtorEq, Nat.reduceBEq, Nat.reduceBNe, Nat.reducePow, Int.reduceLE, Int.reduceLT, Int.reduceNeg, Int.reduceToNat, Int.reduceEq, Int.reduceAdd, Int.reduceSub, Int.reduceMul, Int.reduceBEq, Int.reduceBNe, Blk.men, Blk.keysIn])
    | (exact retS_of rfl rfl rfl)
    | (refine DW.cond_tt rfl ?_)
    | (refine call_c (hroot) (by decide) ?_)
    | (refine DW.cond_ff rfl ?_)
    | (refine DW.cond rfl ?_ ?_ <;> intro hc <;> (try simp only [go_sem] at hc))
    | (refine g_split ?_ ?_ <;> intro hc <;> (try simp only [hc]) <;> (try simp only [go_sem] at hc)))
structure CBox where
  el : Int
  eh : Int
  cl : Int
  ch : Int
  around : Int
  rule : Int
structure CBox.ok (b : CBox) : Prop where
  edge : 0 ≤ b.el ∧ b.el ≤ b.eh ∧ b.eh ≤ 100000
  cal : 1 ≤ b.cl ∧ b.cl ≤ b.ch ∧ b.ch ≤ 10000
  around : 1 ≤ b.around ∧ b.around ≤ 20000
  rule : 1 ≤ b.rule ∧ b.rule ≤ 1000
abbrev dCBox (b : CBox) : D := .agg [dI b.el, dI b.eh, dI b.cl, dI b.ch, dI b.around, dI b.rule]
attribute [go_sem] dCBox
theorem crStrength (b : CBox) (h : b.ok) (rl rh : Int) (hl : IsRoot (b.cl * b.around) rl) (hh : IsRoot (b.ch * b.around) rh) :
    DCall Tryd.prog 29 [dCBox b] [] (.tup [.agg [dI ((b.el * rl * b.rule).tdiv 100000), dI ((b.eh * rh * b.rule).tdiv 100000)], dI 0]) [] := by
  have h1 := crSpan b.el b.eh 0 100000 h.edge
  have h2 := crSpan b.cl b.ch 1 10000 h.cal
  have h3 := crIn true 1 20000 [b.around] (by simp) (by simpa using h.around)
  have h4 := crIn true 1 1000 [b.rule] (by simp) (by simpa using h.rule)
  have e := h.edge
  have c := h.cal
  have h5 := crStrong1 true b.el b.eh b.cl b.ch b.around b.rule b.el b.cl rl (by omega) (by omega) h.around h.rule hl
  have h6 := crStrong1 true b.el b.eh b.cl b.ch b.around b.rule b.eh b.ch rh (by omega) (by omega) h.around h.rule hh
  refine DCall.of Tryd.func29 sf29 hb29 (Nat.le_of_ble_eq_true rfl) (okRes_nil fun _ => rfl) ?_; simp only [s29, Mv, Sg, Ld, Fa, Xt, Ix, Ln, Cl, Oo, Og, idxs, Nat.reduceAdd]
  repeat' (first
    | (with_reducible first | refine DW.seq ?_ | refine DW.block ?_ | refine DW.skip ?_ | refine DW.exit ?_ | refine DW.ret ?_ | refine DW.reg ?_)
    | (refine DW.dreg rfl (WF.of ?_) ?_; first | rfl | skip)
    | (simp (disch := omega) only [go_sem, Nat.reduceLT, Nat.reduceLeDiff, Nat.reduceAdd, Nat.reduceMul, Nat.reduceEqDiff, ↓reduceIte, reduceCtorEq, Nat.reduceBEq, Nat.reduceBNe, Nat.reducePow, Int.reduceLE, Int.reduceLT, Int.reduceNeg, Int.reduceToNat, Int.reduceEq, Int.reduceAdd, Int.reduceSub, Int.reduceMul, Int.reduceBEq, Int.reduceBNe, Blk.men, Blk.keysIn])
    | (exact retS_of rfl rfl rfl)
    | (refine DW.cond_tt rfl ?_)
    | (refine call_c (h1) (by decide) ?_)
    | (refine call_c (h2) (by decide) ?_)
    | (refine call_c (h3) (by decide) ?_)
    | (refine call_c (h4) (by decide) ?_)
    | (refine call_c (h5) (by decide) ?_)
    | (refine call_c (h6) (by decide) ?_)
    | (refine DW.cond_ff rfl ?_)
    | (refine DW.cond rfl ?_ ?_ <;> intro hc <;> (try simp only [go_sem] at hc))
    | (refine g_split ?_ ?_ <;> intro hc <;> (try simp only [hc]) <;> (try simp only [go_sem] at hc)))
end Go.Dw.Seat
end
