/- Helpers of a proof. -/
import Derived.Test.YtmkkedldhafjfaaDoorW39
import Derived.Test.YtmkkedldhafjfaaDoorProg
set_option linter.unusedVariables false
set_option linter.unusedSimpArgs false
section
namespace Go.Dw.Seat
open Go Go.Dw Go.Proofs
def tab64 : List Value := [0, 1, 56, 2, 57, 49, 28, 3, 61, 58, 42, 50, 38, 29, 17, 4, 62, 47, 59, 36, 45, 43, 51, 22, 53, 39, 33, 30, 24, 18, 12, 5, 63, 55, 48, 27, 60, 41, 37, 16, 46, 35, 44, 21, 52, 32, 23, 11, 54, 26, 40, 15, 34, 20, 31, 10, 25, 14, 19, 9, 13, 8, 7, 6].map (fun n => Value.int .u8 n)
instance laysI : Lays := ⟨[(1, tab64)]⟩
theorem lays_l : (Lays.l : List (Nat × List Value)) = [(1, tab64)] := rfl
attribute [go_sem] lays_l
theorem el0 : elemI Tryd.prog 0 = none := by kernel_rfl
theorem ty1 : tyI Tryd.prog 1 = some ⟨false, 1, [.nilFunc], 8⟩ := by kernel_rfl
theorem el1 : elemI Tryd.prog 1 = none := by kernel_rfl
theorem ty2 : tyI Tryd.prog 2 = some ⟨false, 1, [(.int .i64 0)], 8⟩ := by kernel_rfl
theorem el2 : elemI Tryd.prog 2 = none := by kernel_rfl
theorem it2 : intI Tryd.prog 2 = some .i64 := by kernel_rfl
theorem ty3 : tyI Tryd.prog 3 = some ⟨false, 1, [(.int .i64 0)], 8⟩ := by kernel_rfl
theorem el3 : elemI Tryd.prog 3 = none := by kernel_rfl
theorem it3 : intI Tryd.prog 3 = some .i64 := by kernel_rfl
theorem ty4 : tyI Tryd.prog 4 = some ⟨false, 1, [(.bool false)], 1⟩ := by kernel_rfl
theorem el4 : elemI Tryd.prog 4 = none := by kernel_rfl
theorem bl4 : blI Tryd.prog 4 = true := by kernel_rfl
theorem ty5 : tyI Tryd.prog 5 = some ⟨false, 1, [(.int .u8 0)], 1⟩ := by kernel_rfl
theorem el5 : elemI Tryd.prog 5 = none := by kernel_rfl
theorem it5 : intI Tryd.prog 5 = some .u8 := by kernel_rfl
theorem ty6 : tyI Tryd.prog 6 = some ⟨false, 1, [(.int .u8 0)], 1⟩ := by kernel_rfl
theorem el6 : elemI Tryd.prog 6 = none := by kernel_rfl
theorem it6 : intI Tryd.prog 6 = some .u8 := by kernel_rfl
theorem ty7 : tyI Tryd.prog 7 = some ⟨true, 4, [(.int .i64 0), (.int .i64 0), (.bool false), (.int .u8 0)], 24⟩ := by kernel_rfl
theorem el7 : elemI Tryd.prog 7 = none := by kernel_rfl
theorem eq7 : eqTy Tryd.prog 7 = some (.st [(0, 1, .it), (1, 1, .it), (2, 1, .bl), (3, 1, .it)]) := by kernel_rfl
theorem pl7 : placesI Tryd.prog 7 = some [(0, 1), (1, 1), (2, 1), (3, 1)] := by kernel_rfl
theorem fi7_0 : fieldI Tryd.prog 7 0 = some (0, 1, false) := by kernel_rfl
theorem fi7_1 : fieldI Tryd.prog 7 1 = some (1, 1, false) := by kernel_rfl
theorem fi7_2 : fieldI Tryd.prog 7 2 = some (2, 1, false) := by kernel_rfl
theorem fi7_3 : fieldI Tryd.prog 7 3 = some (3, 1, false) := by kernel_rfl
theorem ty8 : tyI Tryd.prog 8 = some ⟨true, 4, [(.int .i64 0), (.int .i64 0), (.bool false), (.int .u8 0)], 24⟩ := by kernel_rfl
theorem el8 : elemI Tryd.prog 8 = none := by kernel_rfl
theorem eq8 : eqTy Tryd.prog 8 = some (.st [(0, 1, .it), (1, 1, .it), (2, 1, .bl), (3, 1, .it)]) := by kernel_rfl
theorem pl8 : placesI Tryd.prog 8 = some [(0, 1), (1, 1), (2, 1), (3, 1)] := by kernel_rfl
theorem fi8_0 : fieldI Tryd.prog 8 0 = some (0, 1, false) := by kernel_rfl
theorem fi8_1 : fieldI Tryd.prog 8 1 = some (1, 1, false) := by kernel_rfl
theorem fi8_2 : fieldI Tryd.prog 8 2 = some (2, 1, false) := by kernel_rfl
theorem fi8_3 : fieldI Tryd.prog 8 3 = some (3, 1, false) := by kernel_rfl
theorem ty9 : tyI Tryd.prog 9 = some ⟨false, 1, [(.string ⟨#[]⟩)], 16⟩ := by kernel_rfl
theorem el9 : elemI Tryd.prog 9 = none := by kernel_rfl
theorem ty10 : tyI Tryd.prog 10 = some ⟨false, 1, [(.string ⟨#[]⟩)], 16⟩ := by kernel_rfl
theorem el10 : elemI Tryd.prog 10 = none := by kernel_rfl
theorem ty11 : tyI Tryd.prog 11 = some ⟨false, 1, [(.string ⟨#[]⟩)], 16⟩ := by kernel_rfl
theorem el11 : elemI Tryd.prog 11 = none := by kernel_rfl
theorem ty12 : tyI Tryd.prog 12 = some ⟨false, 1, [(.int .u64 0)], 8⟩ := by kernel_rfl
theorem el12 : elemI Tryd.prog 12 = none := by kernel_rfl
theorem it12 : intI Tryd.prog 12 = some .u64 := by kernel_rfl
theorem ty13 : tyI Tryd.prog 13 = some ⟨true, 2, [(.string ⟨#[]⟩), (.int .u64 0)], 24⟩ := by kernel_rfl
theorem el13 : elemI Tryd.prog 13 = none := by kernel_rfl
theorem pl13 : placesI Tryd.prog 13 = some [(0, 1), (1, 1)] := by kernel_rfl
theorem fi13_0 : fieldI Tryd.prog 13 0 = some (0, 1, false) := by kernel_rfl
theorem fi13_1 : fieldI Tryd.prog 13 1 = some (1, 1, false) := by kernel_rfl
theorem ty14 : tyI Tryd.prog 14 = some ⟨true, 2, [(.string ⟨#[]⟩), (.int .u64 0)], 24⟩ := by kernel_rfl
theorem el14 : elemI Tryd.prog 14 = none := by kernel_rfl
theorem pl14 : placesI Tryd.prog 14 = some [(0, 1), (1, 1)] := by kernel_rfl
theorem fi14_0 : fieldI Tryd.prog 14 0 = some (0, 1, false) := by kernel_rfl
theorem fi14_1 : fieldI Tryd.prog 14 1 = some (1, 1, false) := by kernel_rfl
theorem ty15 : tyI Tryd.prog 15 = some ⟨false, 1, [(.pointer none)], 8⟩ := by kernel_rfl
theorem el15 : elemI Tryd.prog 15 = none := by kernel_rfl
theorem ty16 : tyI Tryd.prog 16 = some ⟨false, 1, [(.pointer none)], 8⟩ := by kernel_rfl
theorem el16 : elemI Tryd.prog 16 = none := by kernel_rfl
theorem ty17 : tyI Tryd.prog 17 = some ⟨false, 1, [(.pointer none)], 8⟩ := by kernel_rfl
theorem el17 : elemI Tryd.prog 17 = none := by kernel_rfl
theorem ty18 : tyI Tryd.prog 18 = some ⟨true, 1, [(.pointer none)], 8⟩ := by kernel_rfl
theorem el18 : elemI Tryd.prog 18 = none := by kernel_rfl
theorem pl18 : placesI Tryd.prog 18 = some [(0, 1)] := by kernel_rfl
theorem fi18_0 : fieldI Tryd.prog 18 0 = some (0, 1, false) := by kernel_rfl
theorem ty19 : tyI Tryd.prog 19 = some ⟨true, 1, [(.pointer none)], 8⟩ := by kernel_rfl
theorem el19 : elemI Tryd.prog 19 = none := by kernel_rfl
theorem pl19 : placesI Tryd.prog 19 = some [(0, 1)] := by kernel_rfl
theorem fi19_0 : fieldI Tryd.prog 19 0 = some (0, 1, false) := by kernel_rfl
theorem ty20 : tyI Tryd.prog 20 = some ⟨false, 1, [.nilIface], 16⟩ := by kernel_rfl
theorem el20 : elemI Tryd.prog 20 = none := by kernel_rfl
theorem ty21 : tyI Tryd.prog 21 = some ⟨false, 1, [(.int .i32 0)], 4⟩ := by kernel_rfl
theorem el21 : elemI Tryd.prog 21 = none := by kernel_rfl
theorem it21 : intI Tryd.prog 21 = some .i32 := by kernel_rfl
theorem ty22 : tyI Tryd.prog 22 = some ⟨true, 4, [(.int .i64 0), (.int .i64 0), (.int .i64 0), (.int .i64 0)], 32⟩ := by kernel_rfl
theorem el22 : elemI Tryd.prog 22 = none := by kernel_rfl
theorem eq22 : eqTy Tryd.prog 22 = some (.st [(0, 1, .it), (1, 1, .it), (2, 1, .it), (3, 1, .it)]) := by kernel_rfl
theorem pl22 : placesI Tryd.prog 22 = some [(0, 1), (1, 1), (2, 1), (3, 1)] := by kernel_rfl
theorem fi22_0 : fieldI Tryd.prog 22 0 = some (0, 1, false) := by kernel_rfl
theorem fi22_1 : fieldI Tryd.prog 22 1 = some (1, 1, false) := by kernel_rfl
theorem fi22_2 : fieldI Tryd.prog 22 2 = some (2, 1, false) := by kernel_rfl
theorem fi22_3 : fieldI Tryd.prog 22 3 = some (3, 1, false) := by kernel_rfl
theorem ty23 : tyI Tryd.prog 23 = some ⟨true, 4, [(.int .i64 0), (.int .i64 0), (.int .i64 0), (.int .i64 0)], 32⟩ := by kernel_rfl
theorem el23 : elemI Tryd.prog 23 = none := by kernel_rfl
theorem eq23 : eqTy Tryd.prog 23 = some (.st [(0, 1, .it), (1, 1, .it), (2, 1, .it), (3, 1, .it)]) := by kernel_rfl
theorem pl23 : placesI Tryd.prog 23 = some [(0, 1), (1, 1), (2, 1), (3, 1)] := by kernel_rfl
theorem fi23_0 : fieldI Tryd.prog 23 0 = some (0, 1, false) := by kernel_rfl
theorem fi23_1 : fieldI Tryd.prog 23 1 = some (1, 1, false) := by kernel_rfl
theorem fi23_2 : fieldI Tryd.prog 23 2 = some (2, 1, false) := by kernel_rfl
theorem fi23_3 : fieldI Tryd.prog 23 3 = some (3, 1, false) := by kernel_rfl
theorem ty24 : tyI Tryd.prog 24 = some ⟨false, 1, [(.slice none 0 0)], 24⟩ := by kernel_rfl
theorem el24 : elemI Tryd.prog 24 = some 3 := by kernel_rfl
theorem ty25 : tyI Tryd.prog 25 = some ⟨false, 1, [.nilFunc], 8⟩ := by kernel_rfl
theorem el25 : elemI Tryd.prog 25 = none := by kernel_rfl
theorem ty26 : tyI Tryd.prog 26 = some ⟨false, 1, [.nilFunc], 8⟩ := by kernel_rfl
theorem el26 : elemI Tryd.prog 26 = none := by kernel_rfl
theorem ty27 : tyI Tryd.prog 27 = some ⟨false, 1, [(.int .i64 0)], 8⟩ := by kernel_rfl
theorem el27 : elemI Tryd.prog 27 = none := by kernel_rfl
theorem it27 : intI Tryd.prog 27 = some .i64 := by kernel_rfl
theorem ty28 : tyI Tryd.prog 28 = some ⟨false, 1, [.nilFunc], 8⟩ := by kernel_rfl
theorem el28 : elemI Tryd.prog 28 = none := by kernel_rfl
theorem ty29 : tyI Tryd.prog 29 = some ⟨false, 1, [(.int .i64 0)], 8⟩ := by kernel_rfl
theorem el29 : elemI Tryd.prog 29 = none := by kernel_rfl
theorem it29 : intI Tryd.prog 29 = some .i64 := by kernel_rfl
theorem el30 : elemI Tryd.prog 30 = none := by kernel_rfl
theorem ty31 : tyI Tryd.prog 31 = some ⟨false, 1, [.nilFunc], 8⟩ := by kernel_rfl
theorem el31 : elemI Tryd.prog 31 = none := by kernel_rfl
theorem el32 : elemI Tryd.prog 32 = none := by kernel_rfl
theorem ty33 : tyI Tryd.prog 33 = some ⟨false, 1, [.nilFunc], 8⟩ := by kernel_rfl
theorem el33 : elemI Tryd.prog 33 = none := by kernel_rfl
theorem ty34 : tyI Tryd.prog 34 = some ⟨false, 1, [.nilFunc], 8⟩ := by kernel_rfl
theorem el34 : elemI Tryd.prog 34 = none := by kernel_rfl
theorem ty35 : tyI Tryd.prog 35 = some ⟨false, 1, [.nilFunc], 8⟩ := by kernel_rfl
theorem el35 : elemI Tryd.prog 35 = none := by kernel_rfl
theorem ty36 : tyI Tryd.prog 36 = some ⟨false, 1, [.nilFunc], 8⟩ := by kernel_rfl
theorem el36 : elemI Tryd.prog 36 = none := by kernel_rfl
theorem ty37 : tyI Tryd.prog 37 = some ⟨false, 1, [.nilFunc], 8⟩ := by kernel_rfl
theorem el37 : elemI Tryd.prog 37 = none := by kernel_rfl
theorem ty38 : tyI Tryd.prog 38 = some ⟨false, 1, [.nilFunc], 8⟩ := by kernel_rfl
theorem el38 : elemI Tryd.prog 38 = none := by kernel_rfl
theorem ty39 : tyI Tryd.prog 39 = some ⟨false, 1, [.nilFunc], 8⟩ := by kernel_rfl
theorem el39 : elemI Tryd.prog 39 = none := by kernel_rfl
theorem el40 : elemI Tryd.prog 40 = none := by kernel_rfl
theorem ty41 : tyI Tryd.prog 41 = some ⟨false, 1, [.nilFunc], 8⟩ := by kernel_rfl
theorem el41 : elemI Tryd.prog 41 = none := by kernel_rfl
theorem ty42 : tyI Tryd.prog 42 = some ⟨false, 1, [.nilFunc], 8⟩ := by kernel_rfl
theorem el42 : elemI Tryd.prog 42 = none := by kernel_rfl
theorem ty43 : tyI Tryd.prog 43 = some ⟨false, 1, [.nilFunc], 8⟩ := by kernel_rfl
theorem el43 : elemI Tryd.prog 43 = none := by kernel_rfl
theorem ty44 : tyI Tryd.prog 44 = some ⟨true, 2, [(.int .i64 0), (.int .i64 0)], 16⟩ := by kernel_rfl
theorem el44 : elemI Tryd.prog 44 = none := by kernel_rfl
theorem eq44 : eqTy Tryd.prog 44 = some (.st [(0, 1, .it), (1, 1, .it)]) := by kernel_rfl
theorem pl44 : placesI Tryd.prog 44 = some [(0, 1), (1, 1)] := by kernel_rfl
theorem fi44_0 : fieldI Tryd.prog 44 0 = some (0, 1, false) := by kernel_rfl
theorem fi44_1 : fieldI Tryd.prog 44 1 = some (1, 1, false) := by kernel_rfl
theorem ty45 : tyI Tryd.prog 45 = some ⟨true, 2, [(.int .i64 0), (.int .i64 0)], 16⟩ := by kernel_rfl
theorem el45 : elemI Tryd.prog 45 = none := by kernel_rfl
theorem eq45 : eqTy Tryd.prog 45 = some (.st [(0, 1, .it), (1, 1, .it)]) := by kernel_rfl
theorem pl45 : placesI Tryd.prog 45 = some [(0, 1), (1, 1)] := by kernel_rfl
theorem fi45_0 : fieldI Tryd.prog 45 0 = some (0, 1, false) := by kernel_rfl
theorem fi45_1 : fieldI Tryd.prog 45 1 = some (1, 1, false) := by kernel_rfl
theorem ty46 : tyI Tryd.prog 46 = some ⟨true, 6, [(.int .i64 0), (.int .i64 0), (.int .i64 0), (.int .i64 0), (.int .i64 0), (.int .i64 0)], 48⟩ := by kernel_rfl
theorem el46 : elemI Tryd.prog 46 = none := by kernel_rfl
theorem eq46 : eqTy Tryd.prog 46 = some (.st [(0, 2, (.st [(0, 1, .it), (1, 1, .it)])), (2, 2, (.st [(0, 1, .it), (1, 1, .it)])), (4, 1, .it), (5, 1, .it)]) := by kernel_rfl
theorem pl46 : placesI Tryd.prog 46 = some [(0, 2), (2, 2), (4, 1), (5, 1)] := by kernel_rfl
theorem fi46_0 : fieldI Tryd.prog 46 0 = some (0, 2, true) := by kernel_rfl
theorem fi46_1 : fieldI Tryd.prog 46 1 = some (2, 2, true) := by kernel_rfl
theorem fi46_2 : fieldI Tryd.prog 46 2 = some (4, 1, false) := by kernel_rfl
theorem fi46_3 : fieldI Tryd.prog 46 3 = some (5, 1, false) := by kernel_rfl
theorem ty47 : tyI Tryd.prog 47 = some ⟨true, 6, [(.int .i64 0), (.int .i64 0), (.int .i64 0), (.int .i64 0), (.int .i64 0), (.int .i64 0)], 48⟩ := by kernel_rfl
theorem el47 : elemI Tryd.prog 47 = none := by kernel_rfl
theorem eq47 : eqTy Tryd.prog 47 = some (.st [(0, 2, (.st [(0, 1, .it), (1, 1, .it)])), (2, 2, (.st [(0, 1, .it), (1, 1, .it)])), (4, 1, .it), (5, 1, .it)]) := by kernel_rfl
theorem pl47 : placesI Tryd.prog 47 = some [(0, 2), (2, 2), (4, 1), (5, 1)] := by kernel_rfl
theorem fi47_0 : fieldI Tryd.prog 47 0 = some (0, 2, true) := by kernel_rfl
theorem fi47_1 : fieldI Tryd.prog 47 1 = some (2, 2, true) := by kernel_rfl
theorem fi47_2 : fieldI Tryd.prog 47 2 = some (4, 1, false) := by kernel_rfl
theorem fi47_3 : fieldI Tryd.prog 47 3 = some (5, 1, false) := by kernel_rfl
theorem el48 : elemI Tryd.prog 48 = none := by kernel_rfl
theorem ty49 : tyI Tryd.prog 49 = some ⟨false, 1, [.nilFunc], 8⟩ := by kernel_rfl
theorem el49 : elemI Tryd.prog 49 = none := by kernel_rfl
theorem ty50 : tyI Tryd.prog 50 = some ⟨false, 1, [.nilFunc], 8⟩ := by kernel_rfl
theorem el50 : elemI Tryd.prog 50 = none := by kernel_rfl
theorem ty51 : tyI Tryd.prog 51 = some ⟨false, 1, [.nilFunc], 8⟩ := by kernel_rfl
theorem el51 : elemI Tryd.prog 51 = none := by kernel_rfl
theorem ty52 : tyI Tryd.prog 52 = some ⟨false, 1, [.nilFunc], 8⟩ := by kernel_rfl
theorem el52 : elemI Tryd.prog 52 = none := by kernel_rfl
theorem ty53 : tyI Tryd.prog 53 = some ⟨false, 1, [(.slice none 0 0)], 24⟩ := by kernel_rfl
theorem el53 : elemI Tryd.prog 53 = some 70 := by kernel_rfl
theorem ty54 : tyI Tryd.prog 54 = some ⟨false, 1, [(.slice none 0 0)], 24⟩ := by kernel_rfl
theorem el54 : elemI Tryd.prog 54 = some 142 := by kernel_rfl
theorem ty55 : tyI Tryd.prog 55 = some ⟨false, 1, [.nilFunc], 8⟩ := by kernel_rfl
theorem el55 : elemI Tryd.prog 55 = none := by kernel_rfl
theorem ty56 : tyI Tryd.prog 56 = some ⟨false, 1, [.nilFunc], 8⟩ := by kernel_rfl
theorem el56 : elemI Tryd.prog 56 = none := by kernel_rfl
theorem ty57 : tyI Tryd.prog 57 = some ⟨false, 1, [(.slice none 0 0)], 24⟩ := by kernel_rfl
theorem el57 : elemI Tryd.prog 57 = some 45 := by kernel_rfl
theorem el58 : elemI Tryd.prog 58 = none := by kernel_rfl
theorem ty59 : tyI Tryd.prog 59 = some ⟨false, 1, [.nilFunc], 8⟩ := by kernel_rfl
theorem el59 : elemI Tryd.prog 59 = none := by kernel_rfl
theorem ty60 : tyI Tryd.prog 60 = some ⟨false, 1, [.nilFunc], 8⟩ := by kernel_rfl
theorem el60 : elemI Tryd.prog 60 = none := by kernel_rfl
theorem ty61 : tyI Tryd.prog 61 = some ⟨false, 1, [.nilFunc], 8⟩ := by kernel_rfl
theorem el61 : elemI Tryd.prog 61 = none := by kernel_rfl
theorem ty62 : tyI Tryd.prog 62 = some ⟨false, 1, [.nilFunc], 8⟩ := by kernel_rfl
theorem el62 : elemI Tryd.prog 62 = none := by kernel_rfl
theorem ty63 : tyI Tryd.prog 63 = some ⟨false, 1, [.nilFunc], 8⟩ := by kernel_rfl
theorem el63 : elemI Tryd.prog 63 = none := by kernel_rfl
theorem ty64 : tyI Tryd.prog 64 = some ⟨false, 1, [.nilFunc], 8⟩ := by kernel_rfl
theorem el64 : elemI Tryd.prog 64 = none := by kernel_rfl
theorem ty65 : tyI Tryd.prog 65 = some ⟨false, 1, [.nilFunc], 8⟩ := by kernel_rfl
theorem el65 : elemI Tryd.prog 65 = none := by kernel_rfl
theorem el66 : elemI Tryd.prog 66 = none := by kernel_rfl
theorem ty67 : tyI Tryd.prog 67 = some ⟨false, 1, [.nilFunc], 8⟩ := by kernel_rfl
theorem el67 : elemI Tryd.prog 67 = none := by kernel_rfl
theorem ty68 : tyI Tryd.prog 68 = some ⟨false, 1, [.nilFunc], 8⟩ := by kernel_rfl
theorem el68 : elemI Tryd.prog 68 = none := by kernel_rfl
theorem ty69 : tyI Tryd.prog 69 = some ⟨true, 4, [(.int .i64 0), (.int .i64 0), (.int .i64 0), (.int .i64 0)], 32⟩ := by kernel_rfl
theorem el69 : elemI Tryd.prog 69 = none := by kernel_rfl
theorem eq69 : eqTy Tryd.prog 69 = some (.st [(0, 2, (.st [(0, 1, .it), (1, 1, .it)])), (2, 2, (.st [(0, 1, .it), (1, 1, .it)]))]) := by kernel_rfl
theorem pl69 : placesI Tryd.prog 69 = some [(0, 2), (2, 2)] := by kernel_rfl
theorem fi69_0 : fieldI Tryd.prog 69 0 = some (0, 2, true) := by kernel_rfl
theorem fi69_1 : fieldI Tryd.prog 69 1 = some (2, 2, true) := by kernel_rfl
theorem ty70 : tyI Tryd.prog 70 = some ⟨true, 4, [(.int .i64 0), (.int .i64 0), (.int .i64 0), (.int .i64 0)], 32⟩ := by kernel_rfl
theorem el70 : elemI Tryd.prog 70 = none := by kernel_rfl
theorem eq70 : eqTy Tryd.prog 70 = some (.st [(0, 2, (.st [(0, 1, .it), (1, 1, .it)])), (2, 2, (.st [(0, 1, .it), (1, 1, .it)]))]) := by kernel_rfl
theorem pl70 : placesI Tryd.prog 70 = some [(0, 2), (2, 2)] := by kernel_rfl
theorem fi70_0 : fieldI Tryd.prog 70 0 = some (0, 2, true) := by kernel_rfl
theorem fi70_1 : fieldI Tryd.prog 70 1 = some (2, 2, true) := by kernel_rfl
theorem el71 : elemI Tryd.prog 71 = none := by kernel_rfl
theorem ty72 : tyI Tryd.prog 72 = some ⟨false, 1, [.nilFunc], 8⟩ := by kernel_rfl
theorem el72 : elemI Tryd.prog 72 = none := by kernel_rfl
theorem ty73 : tyI Tryd.prog 73 = some ⟨false, 1, [.nilFunc], 8⟩ := by kernel_rfl
theorem el73 : elemI Tryd.prog 73 = none := by kernel_rfl
theorem ty74 : tyI Tryd.prog 74 = some ⟨false, 1, [.nilFunc], 8⟩ := by kernel_rfl
theorem el74 : elemI Tryd.prog 74 = none := by kernel_rfl
theorem ty75 : tyI Tryd.prog 75 = some ⟨false, 1, [.nilFunc], 8⟩ := by kernel_rfl
theorem el75 : elemI Tryd.prog 75 = none := by kernel_rfl
theorem ty76 : tyI Tryd.prog 76 = some ⟨false, 1, [.nilFunc], 8⟩ := by kernel_rfl
theorem el76 : elemI Tryd.prog 76 = none := by kernel_rfl
theorem el77 : elemI Tryd.prog 77 = none := by kernel_rfl
theorem ty78 : tyI Tryd.prog 78 = some ⟨false, 1, [.nilFunc], 8⟩ := by kernel_rfl
theorem el78 : elemI Tryd.prog 78 = none := by kernel_rfl
theorem ty79 : tyI Tryd.prog 79 = some ⟨false, 1, [(.slice none 0 0)], 24⟩ := by kernel_rfl
theorem el79 : elemI Tryd.prog 79 = some 4 := by kernel_rfl
theorem ty80 : tyI Tryd.prog 80 = some ⟨true, 4, [(.int .u8 0), (.int .u8 0), (.int .u8 0), (.int .u8 0)], 4⟩ := by kernel_rfl
theorem el80 : elemI Tryd.prog 80 = none := by kernel_rfl
theorem ar80 : arrI Tryd.prog 80 = some (4, 5) := by kernel_rfl
theorem pl80 : placesI Tryd.prog 80 = some [(0, 1), (1, 1), (2, 1), (3, 1)] := by kernel_rfl
theorem ty81 : tyI Tryd.prog 81 = some ⟨false, 1, [(.slice none 0 0)], 24⟩ := by kernel_rfl
theorem el81 : elemI Tryd.prog 81 = some 100 := by kernel_rfl
theorem ty82 : tyI Tryd.prog 82 = some ⟨true, 6, [(.int .u8 0), (.int .u8 0), (.int .u8 0), (.int .u8 0), (.int .u8 0), (.slice none 0 0)], 32⟩ := by kernel_rfl
theorem el82 : elemI Tryd.prog 82 = none := by kernel_rfl
theorem pl82 : placesI Tryd.prog 82 = some [(0, 4), (4, 1), (5, 1)] := by kernel_rfl
theorem fi82_0 : fieldI Tryd.prog 82 0 = some (0, 4, true) := by kernel_rfl
theorem fi82_1 : fieldI Tryd.prog 82 1 = some (4, 1, false) := by kernel_rfl
theorem fi82_2 : fieldI Tryd.prog 82 2 = some (5, 1, false) := by kernel_rfl
theorem ty83 : tyI Tryd.prog 83 = some ⟨true, 6, [(.int .u8 0), (.int .u8 0), (.int .u8 0), (.int .u8 0), (.int .u8 0), (.slice none 0 0)], 32⟩ := by kernel_rfl
theorem el83 : elemI Tryd.prog 83 = none := by kernel_rfl
theorem pl83 : placesI Tryd.prog 83 = some [(0, 4), (4, 1), (5, 1)] := by kernel_rfl
theorem fi83_0 : fieldI Tryd.prog 83 0 = some (0, 4, true) := by kernel_rfl
theorem fi83_1 : fieldI Tryd.prog 83 1 = some (4, 1, false) := by kernel_rfl
theorem fi83_2 : fieldI Tryd.prog 83 2 = some (5, 1, false) := by kernel_rfl
theorem el84 : elemI Tryd.prog 84 = none := by kernel_rfl
theorem ty85 : tyI Tryd.prog 85 = some ⟨false, 1, [.nilFunc], 8⟩ := by kernel_rfl
theorem el85 : elemI Tryd.prog 85 = none := by kernel_rfl
theorem ty86 : tyI Tryd.prog 86 = some ⟨false, 1, [.nilFunc], 8⟩ := by kernel_rfl
theorem el86 : elemI Tryd.prog 86 = none := by kernel_rfl
theorem ty87 : tyI Tryd.prog 87 = some ⟨false, 1, [.nilFunc], 8⟩ := by kernel_rfl
theorem el87 : elemI Tryd.prog 87 = none := by kernel_rfl
theorem ty88 : tyI Tryd.prog 88 = some ⟨false, 1, [(.slice none 0 0)], 24⟩ := by kernel_rfl
theorem el88 : elemI Tryd.prog 88 = some 91 := by kernel_rfl
theorem ty89 : tyI Tryd.prog 89 = some ⟨true, 2, [(.int .i64 0), (.int .i64 0)], 16⟩ := by kernel_rfl
theorem el89 : elemI Tryd.prog 89 = none := by kernel_rfl
theorem ar89 : arrI Tryd.prog 89 = some (2, 3) := by kernel_rfl
theorem pl89 : placesI Tryd.prog 89 = some [(0, 1), (1, 1)] := by kernel_rfl
theorem ty90 : tyI Tryd.prog 90 = some ⟨true, 2, [(.int .i64 0), (.int .i64 0)], 16⟩ := by kernel_rfl
theorem el90 : elemI Tryd.prog 90 = none := by kernel_rfl
theorem ar90 : arrI Tryd.prog 90 = some (2, 29) := by kernel_rfl
theorem pl90 : placesI Tryd.prog 90 = some [(0, 1), (1, 1)] := by kernel_rfl
theorem ty91 : tyI Tryd.prog 91 = some ⟨false, 1, [(.int .u16 0)], 2⟩ := by kernel_rfl
theorem el91 : elemI Tryd.prog 91 = none := by kernel_rfl
theorem it91 : intI Tryd.prog 91 = some .u16 := by kernel_rfl
theorem ty92 : tyI Tryd.prog 92 = some ⟨false, 1, [.nilFunc], 8⟩ := by kernel_rfl
theorem el92 : elemI Tryd.prog 92 = none := by kernel_rfl
theorem ty93 : tyI Tryd.prog 93 = some ⟨false, 1, [(.slice none 0 0)], 24⟩ := by kernel_rfl
theorem el93 : elemI Tryd.prog 93 = some 5 := by kernel_rfl
theorem ty94 : tyI Tryd.prog 94 = some ⟨true, 3, [(.int .u8 0), (.int .u8 0), (.int .u8 0)], 3⟩ := by kernel_rfl
theorem el94 : elemI Tryd.prog 94 = none := by kernel_rfl
theorem ar94 : arrI Tryd.prog 94 = some (3, 5) := by kernel_rfl
theorem pl94 : placesI Tryd.prog 94 = some [(0, 1), (1, 1), (2, 1)] := by kernel_rfl
theorem ty95 : tyI Tryd.prog 95 = some ⟨false, 1, [(.map none)], 8⟩ := by kernel_rfl
theorem el95 : elemI Tryd.prog 95 = none := by kernel_rfl
theorem mp95 : mapI Tryd.prog 95 = some ((.c (.v (.bool false))), (.int .i64)) := by kernel_rfl
theorem ty96 : tyI Tryd.prog 96 = some ⟨false, 1, [(.int .u64 0)], 8⟩ := by kernel_rfl
theorem el96 : elemI Tryd.prog 96 = none := by kernel_rfl
theorem it96 : intI Tryd.prog 96 = some .u64 := by kernel_rfl
theorem ty97 : tyI Tryd.prog 97 = some ⟨false, 1, [.nilFunc], 8⟩ := by kernel_rfl
theorem el97 : elemI Tryd.prog 97 = none := by kernel_rfl
theorem ty98 : tyI Tryd.prog 98 = some ⟨false, 1, [.nilFunc], 8⟩ := by kernel_rfl
theorem el98 : elemI Tryd.prog 98 = none := by kernel_rfl
theorem ty99 : tyI Tryd.prog 99 = some ⟨true, 6, [(.int .u16 0), (.int .u16 0), (.int .u16 0), (.int .u16 0), (.int .u16 0), (.int .u16 0)], 12⟩ := by kernel_rfl
theorem el99 : elemI Tryd.prog 99 = none := by kernel_rfl
theorem ar99 : arrI Tryd.prog 99 = some (6, 91) := by kernel_rfl
theorem pl99 : placesI Tryd.prog 99 = some [(0, 1), (1, 1), (2, 1), (3, 1), (4, 1), (5, 1)] := by kernel_rfl
theorem ty100 : tyI Tryd.prog 100 = some ⟨true, 2, [(.int .u8 0), (.int .u8 0)], 2⟩ := by kernel_rfl
theorem el100 : elemI Tryd.prog 100 = none := by kernel_rfl
theorem ar100 : arrI Tryd.prog 100 = some (2, 5) := by kernel_rfl
theorem pl100 : placesI Tryd.prog 100 = some [(0, 1), (1, 1)] := by kernel_rfl
theorem ty101 : tyI Tryd.prog 101 = some ⟨true, 3, [(.int .i64 0), (.int .i64 0), (.int .i64 0)], 24⟩ := by kernel_rfl
theorem el101 : elemI Tryd.prog 101 = none := by kernel_rfl
theorem ar101 : arrI Tryd.prog 101 = some (3, 3) := by kernel_rfl
theorem pl101 : placesI Tryd.prog 101 = some [(0, 1), (1, 1), (2, 1)] := by kernel_rfl
theorem ty102 : tyI Tryd.prog 102 = some ⟨false, 1, [.nilFunc], 8⟩ := by kernel_rfl
theorem el102 : elemI Tryd.prog 102 = none := by kernel_rfl
theorem ty103 : tyI Tryd.prog 103 = some ⟨false, 1, [(.slice none 0 0)], 24⟩ := by kernel_rfl
theorem el103 : elemI Tryd.prog 103 = some 80 := by kernel_rfl
theorem ty104 : tyI Tryd.prog 104 = some ⟨true, 2, [(.slice none 0 0), (.slice none 0 0)], 48⟩ := by kernel_rfl
theorem el104 : elemI Tryd.prog 104 = none := by kernel_rfl
theorem pl104 : placesI Tryd.prog 104 = some [(0, 1), (1, 1)] := by kernel_rfl
theorem fi104_0 : fieldI Tryd.prog 104 0 = some (0, 1, false) := by kernel_rfl
theorem fi104_1 : fieldI Tryd.prog 104 1 = some (1, 1, false) := by kernel_rfl
theorem ty105 : tyI Tryd.prog 105 = some ⟨true, 2, [(.slice none 0 0), (.slice none 0 0)], 48⟩ := by kernel_rfl
theorem el105 : elemI Tryd.prog 105 = none := by kernel_rfl
theorem pl105 : placesI Tryd.prog 105 = some [(0, 1), (1, 1)] := by kernel_rfl
theorem fi105_0 : fieldI Tryd.prog 105 0 = some (0, 1, false) := by kernel_rfl
theorem fi105_1 : fieldI Tryd.prog 105 1 = some (1, 1, false) := by kernel_rfl
theorem el106 : elemI Tryd.prog 106 = none := by kernel_rfl
theorem ty107 : tyI Tryd.prog 107 = some ⟨false, 1, [.nilFunc], 8⟩ := by kernel_rfl
theorem el107 : elemI Tryd.prog 107 = none := by kernel_rfl
theorem ty108 : tyI Tryd.prog 108 = some ⟨false, 1, [.nilFunc], 8⟩ := by kernel_rfl
theorem el108 : elemI Tryd.prog 108 = none := by kernel_rfl
theorem el109 : elemI Tryd.prog 109 = none := by kernel_rfl
theorem ty110 : tyI Tryd.prog 110 = some ⟨false, 1, [.nilFunc], 8⟩ := by kernel_rfl
theorem el110 : elemI Tryd.prog 110 = none := by kernel_rfl
theorem ty111 : tyI Tryd.prog 111 = some ⟨false, 1, [.nilFunc], 8⟩ := by kernel_rfl
theorem el111 : elemI Tryd.prog 111 = none := by kernel_rfl
theorem el112 : elemI Tryd.prog 112 = none := by kernel_rfl
theorem ty113 : tyI Tryd.prog 113 = some ⟨false, 1, [.nilFunc], 8⟩ := by kernel_rfl
theorem el113 : elemI Tryd.prog 113 = none := by kernel_rfl
theorem ty114 : tyI Tryd.prog 114 = some ⟨false, 1, [.nilFunc], 8⟩ := by kernel_rfl
theorem el114 : elemI Tryd.prog 114 = none := by kernel_rfl
theorem ty115 : tyI Tryd.prog 115 = some ⟨false, 1, [(.pointer none)], 8⟩ := by kernel_rfl
theorem el115 : elemI Tryd.prog 115 = none := by kernel_rfl
theorem ty116 : tyI Tryd.prog 116 = some ⟨false, 1, [.nilFunc], 8⟩ := by kernel_rfl
theorem el116 : elemI Tryd.prog 116 = none := by kernel_rfl
theorem ty117 : tyI Tryd.prog 117 = some ⟨false, 1, [.nilFunc], 8⟩ := by kernel_rfl
theorem el117 : elemI Tryd.prog 117 = none := by kernel_rfl
theorem ty118 : tyI Tryd.prog 118 = some ⟨false, 1, [.nilFunc], 8⟩ := by kernel_rfl
theorem el118 : elemI Tryd.prog 118 = none := by kernel_rfl
theorem ty119 : tyI Tryd.prog 119 = some ⟨false, 1, [(.int .i64 0)], 8⟩ := by kernel_rfl
theorem el119 : elemI Tryd.prog 119 = none := by kernel_rfl
theorem it119 : intI Tryd.prog 119 = some .i64 := by kernel_rfl
theorem ty120 : tyI Tryd.prog 120 = some ⟨true, 2, [(.int .i64 0), (.int .i64 0)], 16⟩ := by kernel_rfl
theorem el120 : elemI Tryd.prog 120 = none := by kernel_rfl
theorem eq120 : eqTy Tryd.prog 120 = some (.st [(0, 1, .it), (1, 1, .it)]) := by kernel_rfl
theorem pl120 : placesI Tryd.prog 120 = some [(0, 1), (1, 1)] := by kernel_rfl
theorem fi120_0 : fieldI Tryd.prog 120 0 = some (0, 1, false) := by kernel_rfl
theorem fi120_1 : fieldI Tryd.prog 120 1 = some (1, 1, false) := by kernel_rfl
theorem ty121 : tyI Tryd.prog 121 = some ⟨true, 2, [(.int .i64 0), (.int .i64 0)], 16⟩ := by kernel_rfl
theorem el121 : elemI Tryd.prog 121 = none := by kernel_rfl
theorem eq121 : eqTy Tryd.prog 121 = some (.st [(0, 1, .it), (1, 1, .it)]) := by kernel_rfl
theorem pl121 : placesI Tryd.prog 121 = some [(0, 1), (1, 1)] := by kernel_rfl
theorem fi121_0 : fieldI Tryd.prog 121 0 = some (0, 1, false) := by kernel_rfl
theorem fi121_1 : fieldI Tryd.prog 121 1 = some (1, 1, false) := by kernel_rfl
theorem ty122 : tyI Tryd.prog 122 = some ⟨true, 10, [(.int .i64 0), (.int .i64 0), (.int .i64 0), (.int .i64 0), (.int .i64 0), (.int .i64 0), (.int .i64 0), (.int .i64 0), (.int .i64 0), (.int .i64 0)], 80⟩ := by kernel_rfl
theorem el122 : elemI Tryd.prog 122 = none := by kernel_rfl
theorem eq122 : eqTy Tryd.prog 122 = some (.st [(0, 4, (.st [(0, 1, .it), (1, 1, .it), (2, 1, .it), (3, 1, .it)])), (4, 1, .it), (5, 1, .it), (6, 2, (.st [(0, 1, .it), (1, 1, .it)])), (8, 2, (.st [(0, 1, .it), (1, 1, .it)]))]) := by kernel_rfl
theorem pl122 : placesI Tryd.prog 122 = some [(0, 4), (4, 1), (5, 1), (6, 2), (8, 2)] := by kernel_rfl
theorem fi122_0 : fieldI Tryd.prog 122 0 = some (0, 4, true) := by kernel_rfl
theorem fi122_1 : fieldI Tryd.prog 122 1 = some (4, 1, false) := by kernel_rfl
theorem fi122_2 : fieldI Tryd.prog 122 2 = some (5, 1, false) := by kernel_rfl
theorem fi122_3 : fieldI Tryd.prog 122 3 = some (6, 2, true) := by kernel_rfl
theorem fi122_4 : fieldI Tryd.prog 122 4 = some (8, 2, true) := by kernel_rfl
theorem ty123 : tyI Tryd.prog 123 = some ⟨true, 10, [(.int .i64 0), (.int .i64 0), (.int .i64 0), (.int .i64 0), (.int .i64 0), (.int .i64 0), (.int .i64 0), (.int .i64 0), (.int .i64 0), (.int .i64 0)], 80⟩ := by kernel_rfl
theorem el123 : elemI Tryd.prog 123 = none := by kernel_rfl
theorem eq123 : eqTy Tryd.prog 123 = some (.st [(0, 4, (.st [(0, 1, .it), (1, 1, .it), (2, 1, .it), (3, 1, .it)])), (4, 1, .it), (5, 1, .it), (6, 2, (.st [(0, 1, .it), (1, 1, .it)])), (8, 2, (.st [(0, 1, .it), (1, 1, .it)]))]) := by kernel_rfl
theorem pl123 : placesI Tryd.prog 123 = some [(0, 4), (4, 1), (5, 1), (6, 2), (8, 2)] := by kernel_rfl
theorem fi123_0 : fieldI Tryd.prog 123 0 = some (0, 4, true) := by kernel_rfl
theorem fi123_1 : fieldI Tryd.prog 123 1 = some (4, 1, false) := by kernel_rfl
theorem fi123_2 : fieldI Tryd.prog 123 2 = some (5, 1, false) := by kernel_rfl
theorem fi123_3 : fieldI Tryd.prog 123 3 = some (6, 2, true) := by kernel_rfl
theorem fi123_4 : fieldI Tryd.prog 123 4 = some (8, 2, true) := by kernel_rfl
theorem ty124 : tyI Tryd.prog 124 = some ⟨false, 1, [.nilFunc], 8⟩ := by kernel_rfl
theorem el124 : elemI Tryd.prog 124 = none := by kernel_rfl
theorem ty125 : tyI Tryd.prog 125 = some ⟨false, 1, [.nilFunc], 8⟩ := by kernel_rfl
theorem el125 : elemI Tryd.prog 125 = none := by kernel_rfl
theorem ty126 : tyI Tryd.prog 126 = some ⟨false, 1, [.nilFunc], 8⟩ := by kernel_rfl
theorem el126 : elemI Tryd.prog 126 = none := by kernel_rfl
theorem ty127 : tyI Tryd.prog 127 = some ⟨false, 1, [.nilFunc], 8⟩ := by kernel_rfl
theorem el127 : elemI Tryd.prog 127 = none := by kernel_rfl
theorem ty128 : tyI Tryd.prog 128 = some ⟨false, 1, [.nilFunc], 8⟩ := by kernel_rfl
theorem el128 : elemI Tryd.prog 128 = none := by kernel_rfl
theorem ty129 : tyI Tryd.prog 129 = some ⟨false, 1, [.nilFunc], 8⟩ := by kernel_rfl
theorem el129 : elemI Tryd.prog 129 = none := by kernel_rfl
theorem ty130 : tyI Tryd.prog 130 = some ⟨false, 1, [.nilFunc], 8⟩ := by kernel_rfl
theorem el130 : elemI Tryd.prog 130 = none := by kernel_rfl
theorem ty131 : tyI Tryd.prog 131 = some ⟨false, 1, [.nilFunc], 8⟩ := by kernel_rfl
theorem el131 : elemI Tryd.prog 131 = none := by kernel_rfl
theorem ty132 : tyI Tryd.prog 132 = some ⟨false, 1, [.nilFunc], 8⟩ := by kernel_rfl
theorem el132 : elemI Tryd.prog 132 = none := by kernel_rfl
theorem ty133 : tyI Tryd.prog 133 = some ⟨false, 1, [.nilFunc], 8⟩ := by kernel_rfl
theorem el133 : elemI Tryd.prog 133 = none := by kernel_rfl
theorem ty134 : tyI Tryd.prog 134 = some ⟨false, 1, [.nilFunc], 8⟩ := by kernel_rfl
theorem el134 : elemI Tryd.prog 134 = none := by kernel_rfl
theorem ty135 : tyI Tryd.prog 135 = some ⟨false, 1, [.nilFunc], 8⟩ := by kernel_rfl
theorem el135 : elemI Tryd.prog 135 = none := by kernel_rfl
theorem ty136 : tyI Tryd.prog 136 = some ⟨false, 1, [.nilFunc], 8⟩ := by kernel_rfl
theorem el136 : elemI Tryd.prog 136 = none := by kernel_rfl
theorem ty137 : tyI Tryd.prog 137 = some ⟨true, 2, [(.slice none 0 0), (.int .i64 0)], 32⟩ := by kernel_rfl
theorem el137 : elemI Tryd.prog 137 = none := by kernel_rfl
theorem pl137 : placesI Tryd.prog 137 = some [(0, 1), (1, 1)] := by kernel_rfl
theorem fi137_0 : fieldI Tryd.prog 137 0 = some (0, 1, false) := by kernel_rfl
theorem fi137_1 : fieldI Tryd.prog 137 1 = some (1, 1, false) := by kernel_rfl
theorem ty138 : tyI Tryd.prog 138 = some ⟨true, 2, [(.slice none 0 0), (.int .i64 0)], 32⟩ := by kernel_rfl
theorem el138 : elemI Tryd.prog 138 = none := by kernel_rfl
theorem pl138 : placesI Tryd.prog 138 = some [(0, 1), (1, 1)] := by kernel_rfl
theorem fi138_0 : fieldI Tryd.prog 138 0 = some (0, 1, false) := by kernel_rfl
theorem fi138_1 : fieldI Tryd.prog 138 1 = some (1, 1, false) := by kernel_rfl
theorem el139 : elemI Tryd.prog 139 = none := by kernel_rfl
theorem ty140 : tyI Tryd.prog 140 = some ⟨false, 1, [.nilFunc], 8⟩ := by kernel_rfl
theorem el140 : elemI Tryd.prog 140 = none := by kernel_rfl
theorem ty141 : tyI Tryd.prog 141 = some ⟨true, 2, [(.int .i64 0), (.int .i64 0)], 16⟩ := by kernel_rfl
theorem el141 : elemI Tryd.prog 141 = none := by kernel_rfl
theorem eq141 : eqTy Tryd.prog 141 = some (.st [(0, 1, .it), (1, 1, .it)]) := by kernel_rfl
theorem pl141 : placesI Tryd.prog 141 = some [(0, 1), (1, 1)] := by kernel_rfl
theorem fi141_0 : fieldI Tryd.prog 141 0 = some (0, 1, false) := by kernel_rfl
theorem fi141_1 : fieldI Tryd.prog 141 1 = some (1, 1, false) := by kernel_rfl
theorem ty142 : tyI Tryd.prog 142 = some ⟨true, 2, [(.int .i64 0), (.int .i64 0)], 16⟩ := by kernel_rfl
theorem el142 : elemI Tryd.prog 142 = none := by kernel_rfl
theorem eq142 : eqTy Tryd.prog 142 = some (.st [(0, 1, .it), (1, 1, .it)]) := by kernel_rfl
theorem pl142 : placesI Tryd.prog 142 = some [(0, 1), (1, 1)] := by kernel_rfl
theorem fi142_0 : fieldI Tryd.prog 142 0 = some (0, 1, false) := by kernel_rfl
theorem fi142_1 : fieldI Tryd.prog 142 1 = some (1, 1, false) := by kernel_rfl
theorem el143 : elemI Tryd.prog 143 = none := by kernel_rfl
theorem ty144 : tyI Tryd.prog 144 = some ⟨false, 1, [.nilFunc], 8⟩ := by kernel_rfl
theorem el144 : elemI Tryd.prog 144 = none := by kernel_rfl
theorem ty145 : tyI Tryd.prog 145 = some ⟨false, 1, [.nilFunc], 8⟩ := by kernel_rfl
theorem el145 : elemI Tryd.prog 145 = none := by kernel_rfl
theorem ty146 : tyI Tryd.prog 146 = some ⟨false, 1, [.nilFunc], 8⟩ := by kernel_rfl
theorem el146 : elemI Tryd.prog 146 = none := by kernel_rfl
theorem ty147 : tyI Tryd.prog 147 = some ⟨false, 1, [.nilFunc], 8⟩ := by kernel_rfl
theorem el147 : elemI Tryd.prog 147 = none := by kernel_rfl
theorem ty148 : tyI Tryd.prog 148 = some ⟨false, 1, [.nilFunc], 8⟩ := by kernel_rfl
theorem el148 : elemI Tryd.prog 148 = none := by kernel_rfl
theorem ty149 : tyI Tryd.prog 149 = some ⟨false, 1, [.nilFunc], 8⟩ := by kernel_rfl
theorem el149 : elemI Tryd.prog 149 = none := by kernel_rfl
theorem ty150 : tyI Tryd.prog 150 = some ⟨false, 1, [.nilFunc], 8⟩ := by kernel_rfl
theorem el150 : elemI Tryd.prog 150 = none := by kernel_rfl
theorem ty151 : tyI Tryd.prog 151 = some ⟨false, 1, [(.pointer none)], 8⟩ := by kernel_rfl
theorem el151 : elemI Tryd.prog 151 = none := by kernel_rfl
theorem el152 : elemI Tryd.prog 152 = none := by kernel_rfl
theorem ty153 : tyI Tryd.prog 153 = some ⟨false, 1, [.nilFunc], 8⟩ := by kernel_rfl
theorem el153 : elemI Tryd.prog 153 = none := by kernel_rfl
theorem ty154 : tyI Tryd.prog 154 = some ⟨false, 1, [(.int .u64 0)], 8⟩ := by kernel_rfl
theorem el154 : elemI Tryd.prog 154 = none := by kernel_rfl
theorem it154 : intI Tryd.prog 154 = some .u64 := by kernel_rfl
theorem ty155 : tyI Tryd.prog 155 = some ⟨false, 1, [.nilFunc], 8⟩ := by kernel_rfl
theorem el155 : elemI Tryd.prog 155 = none := by kernel_rfl
theorem ty156 : tyI Tryd.prog 156 = some ⟨false, 1, [.nilFunc], 8⟩ := by kernel_rfl
theorem el156 : elemI Tryd.prog 156 = none := by kernel_rfl
theorem ty157 : tyI Tryd.prog 157 = some ⟨false, 1, [.nilFunc], 8⟩ := by kernel_rfl
theorem el157 : elemI Tryd.prog 157 = none := by kernel_rfl
theorem ty158 : tyI Tryd.prog 158 = some ⟨false, 1, [.nilFunc], 8⟩ := by kernel_rfl
theorem el158 : elemI Tryd.prog 158 = none := by kernel_rfl
theorem ty159 : tyI Tryd.prog 159 = some ⟨false, 1, [.nilFunc], 8⟩ := by kernel_rfl
theorem el159 : elemI Tryd.prog 159 = none := by kernel_rfl
theorem ty160 : tyI Tryd.prog 160 = some ⟨false, 1, [.nilFunc], 8⟩ := by kernel_rfl
theorem el160 : elemI Tryd.prog 160 = none := by kernel_rfl
theorem ty161 : tyI Tryd.prog 161 = some ⟨false, 1, [.nilFunc], 8⟩ := by kernel_rfl
theorem el161 : elemI Tryd.prog 161 = none := by kernel_rfl
theorem ty162 : tyI Tryd.prog 162 = some ⟨false, 1, [.nilFunc], 8⟩ := by kernel_rfl
theorem el162 : elemI Tryd.prog 162 = none := by kernel_rfl
theorem ty163 : tyI Tryd.prog 163 = some ⟨false, 1, [.nilFunc], 8⟩ := by kernel_rfl
theorem el163 : elemI Tryd.prog 163 = none := by kernel_rfl
theorem ty164 : tyI Tryd.prog 164 = some ⟨false, 1, [.nilFunc], 8⟩ := by kernel_rfl
theorem el164 : elemI Tryd.prog 164 = none := by kernel_rfl
theorem ty165 : tyI Tryd.prog 165 = some ⟨false, 1, [.nilFunc], 8⟩ := by kernel_rfl
theorem el165 : elemI Tryd.prog 165 = none := by kernel_rfl
theorem ty166 : tyI Tryd.prog 166 = some ⟨false, 1, [.nilFunc], 8⟩ := by kernel_rfl
theorem el166 : elemI Tryd.prog 166 = none := by kernel_rfl
theorem ty167 : tyI Tryd.prog 167 = some ⟨false, 1, [.nilFunc], 8⟩ := by kernel_rfl
theorem el167 : elemI Tryd.prog 167 = none := by kernel_rfl
theorem ty168 : tyI Tryd.prog 168 = some ⟨false, 1, [.nilFunc], 8⟩ := by kernel_rfl
theorem el168 : elemI Tryd.prog 168 = none := by kernel_rfl
theorem ty169 : tyI Tryd.prog 169 = some ⟨false, 1, [.nilFunc], 8⟩ := by kernel_rfl
theorem el169 : elemI Tryd.prog 169 = none := by kernel_rfl
theorem ty170 : tyI Tryd.prog 170 = some ⟨false, 1, [(.map none)], 8⟩ := by kernel_rfl
theorem el170 : elemI Tryd.prog 170 = none := by kernel_rfl
theorem mp170 : mapI Tryd.prog 170 = some ((.c (.v (.bool false))), (.int .u64)) := by kernel_rfl
theorem ty171 : tyI Tryd.prog 171 = some ⟨true, 3, [(.slice none 0 0), (.int .i64 0), (.map none)], 40⟩ := by kernel_rfl
theorem el171 : elemI Tryd.prog 171 = none := by kernel_rfl
theorem pl171 : placesI Tryd.prog 171 = some [(0, 1), (1, 1), (2, 1)] := by kernel_rfl
theorem fi171_0 : fieldI Tryd.prog 171 0 = some (0, 1, false) := by kernel_rfl
theorem fi171_1 : fieldI Tryd.prog 171 1 = some (1, 1, false) := by kernel_rfl
theorem fi171_2 : fieldI Tryd.prog 171 2 = some (2, 1, false) := by kernel_rfl
theorem ty172 : tyI Tryd.prog 172 = some ⟨true, 3, [(.slice none 0 0), (.int .i64 0), (.map none)], 40⟩ := by kernel_rfl
theorem el172 : elemI Tryd.prog 172 = none := by kernel_rfl
theorem pl172 : placesI Tryd.prog 172 = some [(0, 1), (1, 1), (2, 1)] := by kernel_rfl
theorem fi172_0 : fieldI Tryd.prog 172 0 = some (0, 1, false) := by kernel_rfl
theorem fi172_1 : fieldI Tryd.prog 172 1 = some (1, 1, false) := by kernel_rfl
theorem fi172_2 : fieldI Tryd.prog 172 2 = some (2, 1, false) := by kernel_rfl
theorem el173 : elemI Tryd.prog 173 = none := by kernel_rfl
theorem ty174 : tyI Tryd.prog 174 = some ⟨false, 1, [.nilFunc], 8⟩ := by kernel_rfl
theorem el174 : elemI Tryd.prog 174 = none := by kernel_rfl
theorem ty175 : tyI Tryd.prog 175 = some ⟨false, 1, [.nilFunc], 8⟩ := by kernel_rfl
theorem el175 : elemI Tryd.prog 175 = none := by kernel_rfl
theorem ty176 : tyI Tryd.prog 176 = some ⟨false, 1, [.nilFunc], 8⟩ := by kernel_rfl
theorem el176 : elemI Tryd.prog 176 = none := by kernel_rfl
theorem ty177 : tyI Tryd.prog 177 = some ⟨false, 1, [.nilFunc], 8⟩ := by kernel_rfl
theorem el177 : elemI Tryd.prog 177 = none := by kernel_rfl
theorem ty178 : tyI Tryd.prog 178 = some ⟨false, 1, [.nilFunc], 8⟩ := by kernel_rfl
theorem el178 : elemI Tryd.prog 178 = none := by kernel_rfl
theorem ty179 : tyI Tryd.prog 179 = some ⟨false, 1, [.nilFunc], 8⟩ := by kernel_rfl
theorem el179 : elemI Tryd.prog 179 = none := by kernel_rfl
theorem ty180 : tyI Tryd.prog 180 = some ⟨false, 1, [.nilFunc], 8⟩ := by kernel_rfl
theorem el180 : elemI Tryd.prog 180 = none := by kernel_rfl
theorem ty181 : tyI Tryd.prog 181 = some ⟨false, 1, [.nilFunc], 8⟩ := by kernel_rfl
theorem el181 : elemI Tryd.prog 181 = none := by kernel_rfl
theorem ty182 : tyI Tryd.prog 182 = some ⟨false, 1, [.nilFunc], 8⟩ := by kernel_rfl
theorem el182 : elemI Tryd.prog 182 = none := by kernel_rfl
theorem ty183 : tyI Tryd.prog 183 = some ⟨false, 1, [(.int .u32 0)], 4⟩ := by kernel_rfl
theorem el183 : elemI Tryd.prog 183 = none := by kernel_rfl
theorem it183 : intI Tryd.prog 183 = some .u32 := by kernel_rfl
theorem ty184 : tyI Tryd.prog 184 = some ⟨false, 1, [.nilFunc], 8⟩ := by kernel_rfl
theorem el184 : elemI Tryd.prog 184 = none := by kernel_rfl
theorem ty185 : tyI Tryd.prog 185 = some ⟨false, 1, [(.int .u64 0)], 8⟩ := by kernel_rfl
theorem el185 : elemI Tryd.prog 185 = none := by kernel_rfl
theorem it185 : intI Tryd.prog 185 = some .u64 := by kernel_rfl
theorem ty186 : tyI Tryd.prog 186 = some ⟨true, 32, [(.int .u8 0), (.int .u8 0), (.int .u8 0), (.int .u8 0), (.int .u8 0), (.int .u8 0), (.int .u8 0), (.int .u8 0), (.int .u8 0), (.int .u8 0), (.int .u8 0), (.int .u8 0), (.int .u8 0), (.int .u8 0), (.int .u8 0), (.int .u8 0), (.int .u8 0), (.int .u8 0), (.int .u8 0), (.int .u8 0), (.int .u8 0), (.int .u8 0), (.int .u8 0), (.int .u8 0), (.int .u8 0), (.int .u8 0), (.int .u8 0), (.int .u8 0), (.int .u8 0), (.int .u8 0), (.int .u8 0), (.int .u8 0)], 32⟩ := by kernel_rfl
theorem el186 : elemI Tryd.prog 186 = none := by kernel_rfl
theorem ar186 : arrI Tryd.prog 186 = some (32, 5) := by kernel_rfl
theorem pl186 : placesI Tryd.prog 186 = some [(0, 1), (1, 1), (2, 1), (3, 1), (4, 1), (5, 1), (6, 1), (7, 1), (8, 1), (9, 1), (10, 1), (11, 1), (12, 1), (13, 1), (14, 1), (15, 1), (16, 1), (17, 1), (18, 1), (19, 1), (20, 1), (21, 1), (22, 1), (23, 1), (24, 1), (25, 1), (26, 1), (27, 1), (28, 1), (29, 1), (30, 1), (31, 1)] := by kernel_rfl
theorem el187 : elemI Tryd.prog 187 = none := by kernel_rfl
theorem ar187 : arrI Tryd.prog 187 = some (64, 5) := by kernel_rfl
theorem ty188 : tyI Tryd.prog 188 = some ⟨false, 1, [.nilFunc], 8⟩ := by kernel_rfl
theorem el188 : elemI Tryd.prog 188 = none := by kernel_rfl
theorem ty189 : tyI Tryd.prog 189 = some ⟨true, 4, [(.pointer none), (.pointer none), (.pointer none), (.string ⟨#[]⟩)], 40⟩ := by kernel_rfl
theorem el189 : elemI Tryd.prog 189 = none := by kernel_rfl
theorem pl189 : placesI Tryd.prog 189 = some [(0, 1), (1, 1), (2, 1), (3, 1)] := by kernel_rfl
theorem fi189_0 : fieldI Tryd.prog 189 0 = some (0, 1, false) := by kernel_rfl
theorem fi189_1 : fieldI Tryd.prog 189 1 = some (1, 1, false) := by kernel_rfl
theorem fi189_2 : fieldI Tryd.prog 189 2 = some (2, 1, false) := by kernel_rfl
theorem fi189_3 : fieldI Tryd.prog 189 3 = some (3, 1, false) := by kernel_rfl
theorem ty190 : tyI Tryd.prog 190 = some ⟨true, 4, [(.pointer none), (.pointer none), (.pointer none), (.string ⟨#[]⟩)], 40⟩ := by kernel_rfl
theorem el190 : elemI Tryd.prog 190 = none := by kernel_rfl
theorem pl190 : placesI Tryd.prog 190 = some [(0, 1), (1, 1), (2, 1), (3, 1)] := by kernel_rfl
theorem fi190_0 : fieldI Tryd.prog 190 0 = some (0, 1, false) := by kernel_rfl
theorem fi190_1 : fieldI Tryd.prog 190 1 = some (1, 1, false) := by kernel_rfl
theorem fi190_2 : fieldI Tryd.prog 190 2 = some (2, 1, false) := by kernel_rfl
theorem fi190_3 : fieldI Tryd.prog 190 3 = some (3, 1, false) := by kernel_rfl
theorem ty191 : tyI Tryd.prog 191 = some ⟨true, 0, [], 0⟩ := by kernel_rfl
theorem el191 : elemI Tryd.prog 191 = none := by kernel_rfl
theorem ar191 : arrI Tryd.prog 191 = some (0, 16) := by kernel_rfl
theorem pl191 : placesI Tryd.prog 191 = some [] := by kernel_rfl
theorem ty192 : tyI Tryd.prog 192 = some ⟨true, 0, [], 0⟩ := by kernel_rfl
theorem el192 : elemI Tryd.prog 192 = none := by kernel_rfl
theorem pl192 : placesI Tryd.prog 192 = some [(0, 0)] := by kernel_rfl
theorem ty193 : tyI Tryd.prog 193 = some ⟨true, 0, [], 0⟩ := by kernel_rfl
theorem el193 : elemI Tryd.prog 193 = none := by kernel_rfl
theorem pl193 : placesI Tryd.prog 193 = some [(0, 0)] := by kernel_rfl
theorem ty194 : tyI Tryd.prog 194 = some ⟨false, 1, [(.int .u8 0)], 1⟩ := by kernel_rfl
theorem el194 : elemI Tryd.prog 194 = none := by kernel_rfl
theorem it194 : intI Tryd.prog 194 = some .u8 := by kernel_rfl
theorem ty195 : tyI Tryd.prog 195 = some ⟨false, 1, [(.int .u8 0)], 1⟩ := by kernel_rfl
theorem el195 : elemI Tryd.prog 195 = none := by kernel_rfl
theorem it195 : intI Tryd.prog 195 = some .u8 := by kernel_rfl
theorem ty196 : tyI Tryd.prog 196 = some ⟨false, 1, [.nilFunc], 8⟩ := by kernel_rfl
theorem el196 : elemI Tryd.prog 196 = none := by kernel_rfl
theorem ty197 : tyI Tryd.prog 197 = some ⟨false, 1, [(.pointer none)], 8⟩ := by kernel_rfl
theorem el197 : elemI Tryd.prog 197 = none := by kernel_rfl
theorem ty198 : tyI Tryd.prog 198 = some ⟨false, 1, [(.int .i32 0)], 4⟩ := by kernel_rfl
theorem el198 : elemI Tryd.prog 198 = none := by kernel_rfl
theorem it198 : intI Tryd.prog 198 = some .i32 := by kernel_rfl
theorem ty199 : tyI Tryd.prog 199 = some ⟨false, 1, [(.int .i32 0)], 4⟩ := by kernel_rfl
theorem el199 : elemI Tryd.prog 199 = none := by kernel_rfl
theorem it199 : intI Tryd.prog 199 = some .i32 := by kernel_rfl
theorem ty200 : tyI Tryd.prog 200 = some ⟨true, 11, [(.int .u64 0), (.int .u64 0), (.int .u32 0), (.int .u8 0), (.int .u8 0), (.int .u8 0), (.int .u8 0), .nilFunc, (.pointer none), (.int .i32 0), (.int .i32 0)], 48⟩ := by kernel_rfl
theorem el200 : elemI Tryd.prog 200 = none := by kernel_rfl
theorem pl200 : placesI Tryd.prog 200 = some [(0, 1), (1, 1), (2, 1), (3, 1), (4, 1), (5, 1), (6, 1), (7, 1), (8, 1), (9, 1), (10, 1)] := by kernel_rfl
theorem fi200_0 : fieldI Tryd.prog 200 0 = some (0, 1, false) := by kernel_rfl
theorem fi200_1 : fieldI Tryd.prog 200 1 = some (1, 1, false) := by kernel_rfl
theorem fi200_2 : fieldI Tryd.prog 200 2 = some (2, 1, false) := by kernel_rfl
theorem fi200_3 : fieldI Tryd.prog 200 3 = some (3, 1, false) := by kernel_rfl
theorem fi200_4 : fieldI Tryd.prog 200 4 = some (4, 1, false) := by kernel_rfl
theorem fi200_5 : fieldI Tryd.prog 200 5 = some (5, 1, false) := by kernel_rfl
theorem fi200_6 : fieldI Tryd.prog 200 6 = some (6, 1, false) := by kernel_rfl
theorem fi200_7 : fieldI Tryd.prog 200 7 = some (7, 1, false) := by kernel_rfl
theorem fi200_8 : fieldI Tryd.prog 200 8 = some (8, 1, false) := by kernel_rfl
theorem fi200_9 : fieldI Tryd.prog 200 9 = some (9, 1, false) := by kernel_rfl
theorem fi200_10 : fieldI Tryd.prog 200 10 = some (10, 1, false) := by kernel_rfl
theorem ty201 : tyI Tryd.prog 201 = some ⟨true, 11, [(.int .u64 0), (.int .u64 0), (.int .u32 0), (.int .u8 0), (.int .u8 0), (.int .u8 0), (.int .u8 0), .nilFunc, (.pointer none), (.int .i32 0), (.int .i32 0)], 48⟩ := by kernel_rfl
theorem el201 : elemI Tryd.prog 201 = none := by kernel_rfl
theorem pl201 : placesI Tryd.prog 201 = some [(0, 1), (1, 1), (2, 1), (3, 1), (4, 1), (5, 1), (6, 1), (7, 1), (8, 1), (9, 1), (10, 1)] := by kernel_rfl
theorem fi201_0 : fieldI Tryd.prog 201 0 = some (0, 1, false) := by kernel_rfl
theorem fi201_1 : fieldI Tryd.prog 201 1 = some (1, 1, false) := by kernel_rfl
theorem fi201_2 : fieldI Tryd.prog 201 2 = some (2, 1, false) := by kernel_rfl
theorem fi201_3 : fieldI Tryd.prog 201 3 = some (3, 1, false) := by kernel_rfl
theorem fi201_4 : fieldI Tryd.prog 201 4 = some (4, 1, false) := by kernel_rfl
theorem fi201_5 : fieldI Tryd.prog 201 5 = some (5, 1, false) := by kernel_rfl
theorem fi201_6 : fieldI Tryd.prog 201 6 = some (6, 1, false) := by kernel_rfl
theorem fi201_7 : fieldI Tryd.prog 201 7 = some (7, 1, false) := by kernel_rfl
theorem fi201_8 : fieldI Tryd.prog 201 8 = some (8, 1, false) := by kernel_rfl
theorem fi201_9 : fieldI Tryd.prog 201 9 = some (9, 1, false) := by kernel_rfl
theorem fi201_10 : fieldI Tryd.prog 201 10 = some (10, 1, false) := by kernel_rfl
theorem ty202 : tyI Tryd.prog 202 = some ⟨false, 1, [(.pointer none)], 8⟩ := by kernel_rfl
theorem el202 : elemI Tryd.prog 202 = none := by kernel_rfl
attribute [go_sem] el0 ty1 el1 ty2 el2 it2 ty3 el3 it3 ty4 el4 bl4 ty5 el5 it5 ty6 el6 it6 ty7 el7 eq7 pl7 fi7_0 fi7_1 fi7_2 fi7_3 ty8 el8 eq8 pl8 fi8_0 fi8_1 fi8_2 fi8_3 ty9 el9 ty10 el10 ty11 el11 ty12 el12 it12 ty13 el13 pl13 fi13_0 fi13_1 ty14 el14 pl14 fi14_0 fi14_1 ty15 el15 ty16 el16 ty17 el17 ty18 el18 pl18 fi18_0 ty19 el19 pl19 fi19_0 ty20 el20 ty21 el21 it21 ty22 el22 eq22 pl22 fi22_0 fi22_1 fi22_2 fi22_3 ty23 el23 eq23 pl23 fi23_0 fi23_1 fi23_2 fi23_3 ty24 el24 ty25 el25 ty26 el26 ty27 el27 it27 ty28 el28 ty29 el29 it29 el30 ty31 el31 el32 ty33 el33 ty34 el34 ty35 el35 ty36 el36 ty37 el37 ty38 el38 ty39 el39 el40 ty41 el41 ty42 el42 ty43 el43 ty44 el44 eq44 pl44 fi44_0 fi44_1 ty45 el45 eq45 pl45 fi45_0 fi45_1 ty46 el46 eq46 pl46 fi46_0 fi46_1 fi46_2 fi46_3 ty47 el47 eq47 pl47 fi47_0 fi47_1 fi47_2 fi47_3 el48 ty49 el49 ty50 el50 ty51 el51 ty52 el52 ty53 el53 ty54 el54 ty55 el55 ty56 el56 ty57 el57 el58 ty59 el59 ty60 el60 ty61 el61 ty62 el62 ty63 el63 ty64 el64 ty65 el65 el66 ty67 el67 ty68 el68 ty69 el69 eq69 pl69 fi69_0 fi69_1 ty70 el70 eq70 pl70 fi70_0 fi70_1 el71 ty72 el72 ty73 el73 ty74 el74 ty75 el75 ty76 el76 el77 ty78 el78 ty79 el79 ty80 el80 ar80 pl80 ty81 el81 ty82 el82 pl82 fi82_0 fi82_1 fi82_2 ty83 el83 pl83 fi83_0 fi83_1 fi83_2 el84 ty85 el85 ty86 el86 ty87 el87 ty88 el88 ty89 el89 ar89 pl89 ty90 el90 ar90 pl90 ty91 el91 it91 ty92 el92 ty93 el93 ty94 el94 ar94 pl94 ty95 el95 mp95 ty96 el96 it96 ty97 el97 ty98 el98 ty99 el99 ar99 pl99 ty100 el100 ar100 pl100 ty101 el101 ar101 pl101 ty102 el102 ty103 el103 ty104 el104 pl104 fi104_0 fi104_1 ty105 el105 pl105 fi105_0 fi105_1 el106 ty107 el107 ty108 el108 el109 ty110 el110 ty111 el111 el112 ty113 el113 ty114 el114 ty115 el115 ty116 el116 ty117 el117 ty118 el118 ty119 el119 it119 ty120 el120 eq120 pl120 fi120_0 fi120_1 ty121 el121 eq121 pl121 fi121_0 fi121_1 ty122 el122 eq122 pl122 fi122_0 fi122_1 fi122_2 fi122_3 fi122_4 ty123 el123 eq123 pl123 fi123_0 fi123_1 fi123_2 fi123_3 fi123_4 ty124 el124 ty125 el125 ty126 el126 ty127 el127 ty128 el128 ty129 el129 ty130 el130 ty131 el131 ty132 el132 ty133 el133 ty134 el134 ty135 el135 ty136 el136 ty137 el137 pl137 fi137_0 fi137_1 ty138 el138 pl138 fi138_0 fi138_1 el139 ty140 el140 ty141 el141 eq141 pl141 fi141_0 fi141_1 ty142 el142 eq142 pl142 fi142_0 fi142_1 el143 ty144 el144 ty145 el145 ty146 el146 ty147 el147 ty148 el148 ty149 el149 ty150 el150 ty151 el151 el152 ty153 el153 ty154 el154 it154 ty155 el155 ty156 el156 ty157 el157 ty158 el158 ty159 el159 ty160 el160 ty161 el161 ty162 el162 ty163 el163 ty164 el164 ty165 el165 ty166 el166 ty167 el167 ty168 el168 ty169 el169 ty170 el170 mp170 ty171 el171 pl171 fi171_0 fi171_1 fi171_2 ty172 el172 pl172 fi172_0 fi172_1 fi172_2 el173 ty174 el174 ty175 el175 ty176 el176 ty177 el177 ty178 el178 ty179 el179 ty180 el180 ty181 el181 ty182 el182 ty183 el183 it183 ty184 el184 ty185 el185 it185 ty186 el186 ar186 pl186 el187 ar187 ty188 el188 ty189 el189 pl189 fi189_0 fi189_1 fi189_2 fi189_3 ty190 el190 pl190 fi190_0 fi190_1 fi190_2 fi190_3 ty191 el191 ar191 pl191 ty192 el192 pl192 ty193 el193 pl193 ty194 el194 it194 ty195 el195 it195 ty196 el196 ty197 el197 ty198 el198 it198 ty199 el199 it199 ty200 el200 pl200 fi200_0 fi200_1 fi200_2 fi200_3 fi200_4 fi200_5 fi200_6 fi200_7 fi200_8 fi200_9 fi200_10 ty201 el201 pl201 fi201_0 fi201_1 fi201_2 fi201_3 fi201_4 fi201_5 fi201_6 fi201_7 fi201_8 fi201_9 fi201_10 ty202 el202
end Go.Dw.Seat
end
section
namespace Go.Dw.Seat
open Go Go.Dw Go.Proofs
def s3 : SF := ⟨103, [.tmp 6],
 (.seq (.reg false [⟨some 3, .box 23 (.tmp 0), none⟩,
    ⟨some 6, .assign (.const (.bool false)), none⟩])
 (.seq (.seq (.reg false [⟨some 15, .move (.tmp 1), none⟩,
     ⟨some 16, .call { callee := .builtin .len, args := #[.tmp 15], argTypes := #[24] }, none⟩,
     ⟨some 17, .binOp .gtr 3 (.tmp 16) (.const (.int .i64 30)) 3, none⟩])
  (.cond (.tmp 17)
   (.seq (.reg false [⟨some 18, .call { callee := .value (.func 16), args := #[], argTypes := #[] }, none⟩,
       ⟨some 6, .assign (.tmp 18), none⟩])
    .ret)
   .skip))
 (.seq (.reg false [⟨some 19, .move (.tmp 1), none⟩,
    ⟨some 20, .call { callee := .value (.func 17), args := #[.tmp 19], argTypes := #[24] }, none⟩,
    ⟨some 7, .assign (.tmp 20), none⟩])
 (.seq (.reg false [⟨some 21, .load 23 (.tmp 3), none⟩,
    ⟨some 22, .move (.tmp 7), none⟩,
    ⟨some 23, .move (.tmp 2), none⟩,
    ⟨some 24, .call { callee := .value (.func 18), args := #[.tmp 21, .tmp 22, .tmp 23], argTypes := #[23, 24, 3] }, none⟩,
    ⟨some 8, .assign (.tmp 24), none⟩])
 (.seq (.reg false [⟨some 26, .load 23 (.tmp 3), none⟩,
    ⟨some 27, .move (.tmp 7), none⟩,
    ⟨some 28, .move (.tmp 2), none⟩,
    ⟨some 29, .call { callee := .value (.func 19), args := #[.tmp 26, .tmp 27, .tmp 28], argTypes := #[23, 24, 3] }, none⟩,
    ⟨some 25, .move (.tmp 29), none⟩,
    ⟨some 30, .extract (.tmp 25) 0, none⟩,
    ⟨some 31, .extract (.tmp 25) 1, none⟩,
    ⟨some 9, .assign (.tmp 30), none⟩,
    ⟨some 10, .assign (.tmp 31), none⟩])
 (.seq (.reg false [⟨some 33, .load 23 (.tmp 3), none⟩,
    ⟨some 34, .move (.tmp 7), none⟩,
    ⟨some 35, .move (.tmp 2), none⟩,
    ⟨some 36, .call { callee := .value (.func 20), args := #[.tmp 33, .tmp 34, .tmp 35], argTypes := #[23, 24, 3] }, none⟩,
    ⟨some 32, .move (.tmp 36), none⟩,
    ⟨some 37, .extract (.tmp 32) 0, none⟩,
    ⟨some 38, .extract (.tmp 32) 1, none⟩,
    ⟨some 39, .extract (.tmp 32) 2, none⟩,
    ⟨some 11, .assign (.tmp 37), none⟩,
    ⟨some 12, .assign (.tmp 38), none⟩,
    ⟨some 13, .assign (.tmp 39), none⟩])
 (.seq (.reg false [⟨some 40, .load 23 (.tmp 3), none⟩,
    ⟨some 41, .move (.tmp 1), none⟩,
    ⟨some 42, .move (.tmp 2), none⟩,
    ⟨some 43, .call { callee := .value (.func 21), args := #[.tmp 40, .tmp 41, .tmp 42], argTypes := #[23, 24, 3] }, none⟩,
    ⟨some 14, .assign (.tmp 43), none⟩])
 (.seq (.seq (.reg false [⟨some 44, .move (.tmp 7), none⟩,
     ⟨some 45, .move (.tmp 1), none⟩,
     ⟨some 46, .call { callee := .value (.func 22), args := #[.tmp 44, .tmp 45], argTypes := #[24, 24] }, none⟩,
     ⟨some 47, .unOp .not 4 (.tmp 46), none⟩,
     ⟨some 48, .move (.tmp 47), none⟩,
     ⟨some 49, .move (.tmp 8), some (48, false)⟩,
     ⟨some 50, .move (.tmp 14), some (48, false)⟩,
     ⟨some 51, .binOp .neq 27 (.tmp 49) (.tmp 50) 27, some (48, false)⟩,
     ⟨some 52, .pick (.tmp 48) (.const (.bool true)) (.tmp 51), none⟩,
     ⟨some 53, .move (.tmp 52), none⟩,
     ⟨some 54, .move (.tmp 10), some (53, false)⟩,
     ⟨some 55, .move (.tmp 14), some (53, false)⟩,
     ⟨some 56, .binOp .neq 27 (.tmp 54) (.tmp 55) 27, some (53, false)⟩,
     ⟨some 57, .pick (.tmp 53) (.const (.bool true)) (.tmp 56), none⟩,
     ⟨some 58, .move (.tmp 57), none⟩,
     ⟨some 59, .move (.tmp 13), some (58, false)⟩,
     ⟨some 60, .move (.tmp 14), some (58, false)⟩,
     ⟨some 61, .binOp .neq 27 (.tmp 59) (.tmp 60) 27, some (58, false)⟩,
     ⟨some 62, .pick (.tmp 58) (.const (.bool true)) (.tmp 61), none⟩])
  (.cond (.tmp 62)
   (.seq (.reg false [⟨some 6, .assign (.const (.bool false)), none⟩])
    .ret)
   .skip))
 (.seq (.seq (.reg false [⟨some 63, .move (.tmp 14), none⟩,
     ⟨some 64, .binOp .neq 27 (.tmp 63) (.const (.int .i64 0)) 27, none⟩])
  (.cond (.tmp 64)
   (.seq (.reg false [⟨some 65, .move (.tmp 9), none⟩,
       ⟨some 66, .binOp .eql 29 (.tmp 65) (.const (.int .i64 0)) 29, none⟩,
       ⟨some 67, .move (.tmp 66), none⟩,
       ⟨some 68, .move (.tmp 11), some (67, true)⟩,
       ⟨some 69, .binOp .eql 3 (.tmp 68) (.const (.int .i64 0)) 3, some (67, true)⟩,
       ⟨some 70, .pick (.tmp 67) (.tmp 69) (.const (.bool false)), none⟩,
       ⟨some 71, .move (.tmp 70), none⟩,
       ⟨some 72, .move (.tmp 12), some (71, true)⟩,
       ⟨some 73, .binOp .eql 3 (.tmp 72) (.const (.int .i64 0)) 3, some (71, true)⟩,
       ⟨some 74, .pick (.tmp 71) (.tmp 73) (.const (.bool false)), none⟩,
       ⟨some 75, .move (.tmp 74), none⟩,
       ⟨some 76, .call { callee := .value (.func 16), args := #[], argTypes := #[] }, some (75, true)⟩,
       ⟨some 77, .pick (.tmp 75) (.tmp 76) (.const (.bool false)), none⟩,
       ⟨some 6, .assign (.tmp 77), none⟩])
    .ret)
   .skip))
 (.seq (.reg false [⟨some 78, .move (.tmp 9), none⟩,
    ⟨some 79, .load 23 (.tmp 3), none⟩,
    ⟨some 80, .move (.tmp 1), none⟩,
    ⟨some 81, .move (.tmp 2), none⟩,
    ⟨some 82, .call { callee := .value (.func 23), args := #[.tmp 79, .tmp 80, .tmp 81], argTypes := #[23, 24, 3] }, none⟩,
    ⟨some 83, .binOp .eql 29 (.tmp 78) (.tmp 82) 29, none⟩,
    ⟨some 84, .move (.tmp 83), none⟩,
    ⟨some 85, .move (.tmp 11), some (84, true)⟩,
    ⟨some 86, .load 23 (.tmp 3), some (84, true)⟩,
    ⟨some 87, .move (.tmp 1), some (84, true)⟩,
    ⟨some 88, .move (.tmp 2), some (84, true)⟩,
    ⟨some 89, .call { callee := .value (.func 24), args := #[.tmp 86, .tmp 87, .tmp 88, .const (.int .i64 100000), .const (.int .i64 1)], argTypes := #[23, 24, 3, 3, 29] }, some (84, true)⟩,
    ⟨some 90, .binOp .eql 3 (.tmp 85) (.tmp 89) 3, some (84, true)⟩,
    ⟨some 91, .pick (.tmp 84) (.tmp 90) (.const (.bool false)), none⟩,
    ⟨some 92, .move (.tmp 91), none⟩,
    ⟨some 93, .move (.tmp 12), some (92, true)⟩,
    ⟨some 94, .load 23 (.tmp 3), some (92, true)⟩,
    ⟨some 95, .move (.tmp 1), some (92, true)⟩,
    ⟨some 96, .move (.tmp 2), some (92, true)⟩,
    ⟨some 97, .call { callee := .value (.func 24), args := #[.tmp 94, .tmp 95, .tmp 96, .const (.int .i64 0), .const (.int .i64 2)], argTypes := #[23, 24, 3, 3, 29] }, some (92, true)⟩,
    ⟨some 98, .binOp .eql 3 (.tmp 93) (.tmp 97) 3, some (92, true)⟩,
    ⟨some 99, .pick (.tmp 92) (.tmp 98) (.const (.bool false)), none⟩,
    ⟨some 100, .move (.tmp 99), none⟩,
    ⟨some 101, .call { callee := .value (.func 16), args := #[], argTypes := #[] }, some (100, true)⟩,
    ⟨some 102, .pick (.tmp 100) (.tmp 101) (.const (.bool false)), none⟩,
    ⟨some 6, .assign (.tmp 102), none⟩])
 .ret))))))))))⟩
theorem hb3 : hasBody Tryd.prog 3 = true := by kernel_rfl
theorem hb10 : hasBody Tryd.prog 10 = true := by kernel_rfl
end Go.Dw.Seat
end
section
namespace Go.Dw.Seat
open Go Go.Dw Go.Proofs
def s15 : SF := ⟨249, [.tmp 6],
 (.seq (.reg false [⟨some 3, .box 105 (.tmp 0), none⟩,
    ⟨some 4, .box 94 (.tmp 1), none⟩,
    ⟨some 6, .assign (.const (.bool false)), none⟩])
 (.seq (.reg false [⟨some 31, .load 105 (.tmp 3), none⟩,
    ⟨some 32, .call { callee := .value (.func 52), args := #[.tmp 31, .const (.int .i64 8)], argTypes := #[105, 3] }, none⟩,
    ⟨some 30, .move (.tmp 32), none⟩,
    ⟨some 33, .extract (.tmp 30) 0, none⟩,
    ⟨some 34, .extract (.tmp 30) 1, none⟩,
    ⟨some 7, .assign (.tmp 33), none⟩,
    ⟨some 8, .assign (.tmp 34), none⟩])
 (.seq (.reg false [⟨some 35, .call { callee := .value (.func 57), args := #[.const (.int .i64 300), .const (.int .i64 320), .const (.int .i64 100), .const (.int .i64 110)], argTypes := #[3, 3, 3, 3] }, none⟩,
    ⟨some 9, .alloc 70, none⟩,
    ⟨none, .store 70 (.tmp 9) (.tmp 35), none⟩])
 (.seq (.seq (.reg false [⟨some 36, .move (.tmp 7), none⟩,
     ⟨some 37, .call { callee := .builtin .len, args := #[.tmp 36], argTypes := #[53] }, none⟩,
     ⟨some 38, .binOp .gtr 3 (.tmp 37) (.const (.int .i64 0)) 3, none⟩])
  (.cond (.tmp 38)
   (.reg false [⟨some 39, .move (.tmp 7), none⟩,
      ⟨some 40, .indexAddr 53 (.tmp 39) (.const (.int .i64 0)), none⟩,
      ⟨some 41, .load 70 (.tmp 40), none⟩,
      ⟨none, .store 70 (.tmp 9) (.tmp 41), none⟩])
   .skip))
 (.seq (.reg true [⟨some 43, .load 70 (.tmp 9), none⟩,
    ⟨some 44, .move (.tmp 8), none⟩,
    ⟨some 45, .call { callee := .value (.func 34), args := #[.tmp 44], argTypes := #[54] }, none⟩,
    ⟨some 46, .move (.tmp 2), none⟩,
    ⟨some 47, .convert 5 3 (.tmp 46), none⟩,
    ⟨some 48, .call { callee := .value (.func 43), args := #[.tmp 43, .tmp 45, .tmp 47], argTypes := #[70, 54, 3] }, none⟩,
    ⟨some 42, .move (.tmp 48), none⟩,
    ⟨some 49, .extract (.tmp 42) 0, none⟩,
    ⟨some 50, .extract (.tmp 42) 1, none⟩,
    ⟨some 10, .assign (.tmp 49), none⟩,
    ⟨some 11, .assign (.tmp 50), none⟩])
 (.seq (.seq (.reg false [⟨some 51, .move (.tmp 11), none⟩,
     ⟨some 52, .binOp .neq 27 (.tmp 51) (.const (.int .i64 0)) 27, none⟩,
     ⟨some 53, .move (.tmp 52), none⟩,
     ⟨some 54, .move (.tmp 10), some (53, false)⟩,
     ⟨some 55, .binOp .lss 3 (.tmp 54) (.const (.int .i64 1)) 3, some (53, false)⟩,
     ⟨some 56, .pick (.tmp 53) (.const (.bool true)) (.tmp 55), none⟩,
     ⟨some 57, .move (.tmp 56), none⟩,
     ⟨some 58, .move (.tmp 10), some (57, false)⟩,
     ⟨some 59, .binOp .gtr 3 (.tmp 58) (.const (.int .i64 50)) 3, some (57, false)⟩,
     ⟨some 60, .pick (.tmp 57) (.const (.bool true)) (.tmp 59), none⟩])
  (.cond (.tmp 60)
   (.seq (.reg false [⟨some 6, .assign (.const (.bool false)), none⟩])
    .ret)
   .skip))
 (.seq (.seq (.reg false [⟨some 12, .assign (.const (.int .i64 0)), none⟩])
  (.block 0 (.loop (.seq (.seq (.reg false [⟨some 61, .move (.tmp 12), none⟩,
        ⟨some 62, .binOp .lss 3 (.tmp 61) (.const (.int .i64 2)) 3, none⟩])
     (.cond (.tmp 62)
      .skip
      (.exit 0)))
    (.seq (.block 1 (.seq (.reg false [⟨some 65, .buildSlice 53 0 #[], none⟩,
         ⟨some 13, .assign (.tmp 65), none⟩])
      (.seq (.seq (.reg false [⟨some 14, .assign (.const (.int .i64 0)), none⟩])
       (.block 2 (.loop (.seq (.seq (.reg false [⟨some 66, .move (.tmp 14), none⟩,
             ⟨some 67, .move (.tmp 10), none⟩,
             ⟨some 68, .move (.tmp 12), none⟩,
             ⟨some 69, .binOp .add 3 (.tmp 67) (.tmp 68) 3, none⟩,
             ⟨some 70, .binOp .lss 3 (.tmp 66) (.tmp 69) 3, none⟩])
          (.cond (.tmp 70)
           .skip
           (.exit 2)))
         (.seq (.block 3 (.reg false [⟨some 73, .move (.tmp 13), none⟩,
             ⟨some 74, .load 70 (.tmp 9), none⟩,
             ⟨some 75, .buildSlice 53 1 #[(0, (.tmp 74))], none⟩,
             ⟨some 76, .call { callee := .builtin .append, args := #[.tmp 73, .tmp 75], argTypes := #[53, 53] }, none⟩,
             ⟨some 13, .assign (.tmp 76), none⟩]))
         (.reg false [⟨some 71, .move (.tmp 14), none⟩,
           ⟨some 72, .binOp .add 3 (.tmp 71) (.const (.int .i64 1)) 3, none⟩,
           ⟨some 14, .assign (.tmp 72), none⟩]))))))
      (.seq (.seq (.reg false [⟨some 77, .move (.tmp 13), none⟩,
          ⟨some 78, .call { callee := .builtin .len, args := #[.tmp 77], argTypes := #[53] }, none⟩,
          ⟨some 79, .binOp .gtr 3 (.tmp 78) (.const (.int .i64 50)) 3, none⟩])
       (.cond (.tmp 79)
        (.exit 1)
        .skip))
      (.seq (.reg false [⟨some 81, .move (.tmp 13), none⟩,
         ⟨some 82, .move (.tmp 8), none⟩,
         ⟨some 83, .call { callee := .value (.func 34), args := #[.tmp 82], argTypes := #[54] }, none⟩,
         ⟨some 84, .move (.tmp 2), none⟩,
         ⟨some 85, .convert 5 3 (.tmp 84), none⟩,
         ⟨some 86, .call { callee := .value (.func 36), args := #[.tmp 81, .tmp 83, .tmp 85], argTypes := #[53, 54, 3] }, none⟩,
         ⟨some 80, .move (.tmp 86), none⟩,
         ⟨some 87, .extract (.tmp 80) 0, none⟩,
         ⟨some 88, .extract (.tmp 80) 1, none⟩,
         ⟨some 89, .extract (.tmp 80) 2, none⟩,
         ⟨some 15, .assign (.tmp 87), none⟩,
         ⟨some 16, .assign (.tmp 88), none⟩,
         ⟨some 17, .assign (.tmp 89), none⟩])
      (.seq (.reg false [⟨some 90, .move (.tmp 17), none⟩,
         ⟨some 91, .binOp .eql 27 (.tmp 90) (.const (.int .i64 7)) 27, none⟩,
         ⟨some 92, .move (.tmp 12), none⟩,
         ⟨some 93, .binOp .eql 3 (.tmp 92) (.const (.int .i64 0)) 3, none⟩,
         ⟨some 94, .binOp .neq 4 (.tmp 91) (.tmp 93) 4, none⟩])
      (.cond (.tmp 94)
       (.seq (.reg false [⟨some 6, .assign (.const (.bool false)), none⟩])
        .ret)
       .skip)))))))
    (.reg false [⟨some 63, .move (.tmp 12), none⟩,
      ⟨some 64, .binOp .add 3 (.tmp 63) (.const (.int .i64 1)) 3, none⟩,
      ⟨some 12, .assign (.tmp 64), none⟩]))))))
 (.seq (.reg true [⟨some 95, .move (.tmp 7), none⟩,
    ⟨some 96, .call { callee := .value (.func 33), args := #[.tmp 95], argTypes := #[53] }, none⟩,
    ⟨some 97, .indexAddr 94 (.tmp 4) (.const (.int .i64 2)), none⟩,
    ⟨some 98, .load 5 (.tmp 97), none⟩,
    ⟨some 99, .convert 5 3 (.tmp 98), none⟩,
    ⟨some 18, .assign (.tmp 96), none⟩,
    ⟨some 19, .assign (.tmp 99), none⟩])
 (.seq (.reg false [⟨some 100, .fieldAddr 70 (.tmp 9) 0, none⟩,
    ⟨some 101, .fieldAddr 45 (.tmp 100) 0, none⟩,
    ⟨some 102, .load 3 (.tmp 101), none⟩,
    ⟨some 103, .indexAddr 94 (.tmp 4) (.const (.int .i64 0)), none⟩,
    ⟨some 104, .load 5 (.tmp 103), none⟩,
    ⟨some 105, .convert 5 3 (.tmp 104), none⟩,
    ⟨some 106, .binOp .add 3 (.tmp 102) (.tmp 105) 3, none⟩,
    ⟨some 107, .fieldAddr 70 (.tmp 9) 0, none⟩,
    ⟨some 108, .fieldAddr 45 (.tmp 107) 1, none⟩,
    ⟨some 109, .load 3 (.tmp 108), none⟩,
    ⟨some 110, .indexAddr 94 (.tmp 4) (.const (.int .i64 0)), none⟩,
    ⟨some 111, .load 5 (.tmp 110), none⟩,
    ⟨some 112, .convert 5 3 (.tmp 111), none⟩,
    ⟨some 113, .binOp .add 3 (.tmp 109) (.tmp 112) 3, none⟩,
    ⟨some 114, .call { callee := .value (.func 31), args := #[.tmp 106, .tmp 113], argTypes := #[3, 3] }, none⟩,
    ⟨some 20, .alloc 45, none⟩,
    ⟨none, .store 45 (.tmp 20) (.tmp 114), none⟩])
 (.seq (.reg false [⟨some 115, .fieldAddr 70 (.tmp 9) 1, none⟩,
    ⟨some 116, .fieldAddr 45 (.tmp 115) 0, none⟩,
    ⟨some 117, .load 3 (.tmp 116), none⟩,
    ⟨some 118, .indexAddr 94 (.tmp 4) (.const (.int .i64 1)), none⟩,
    ⟨some 119, .load 5 (.tmp 118), none⟩,
    ⟨some 120, .convert 5 3 (.tmp 119), none⟩,
    ⟨some 121, .binOp .sub 3 (.tmp 117) (.tmp 120) 3, none⟩,
    ⟨some 122, .call { callee := .builtin .max, args := #[.const (.int .i64 0), .tmp 121], argTypes := #[3, 3] }, none⟩,
    ⟨some 123, .fieldAddr 70 (.tmp 9) 1, none⟩,
    ⟨some 124, .fieldAddr 45 (.tmp 123) 1, none⟩,
    ⟨some 125, .load 3 (.tmp 124), none⟩,
    ⟨some 126, .indexAddr 94 (.tmp 4) (.const (.int .i64 1)), none⟩,
    ⟨some 127, .load 5 (.tmp 126), none⟩,
    ⟨some 128, .convert 5 3 (.tmp 127), none⟩,
    ⟨some 129, .binOp .sub 3 (.tmp 125) (.tmp 128) 3, none⟩,
    ⟨some 130, .call { callee := .builtin .max, args := #[.const (.int .i64 0), .tmp 129], argTypes := #[3, 3] }, none⟩,
    ⟨some 131, .call { callee := .value (.func 31), args := #[.tmp 122, .tmp 130], argTypes := #[3, 3] }, none⟩,
    ⟨some 21, .alloc 45, none⟩,
    ⟨none, .store 45 (.tmp 21) (.tmp 131), none⟩])
 (.seq (.reg false [⟨some 132, .move (.tmp 2), none⟩,
    ⟨some 133, .convert 5 3 (.tmp 132), none⟩,
    ⟨some 134, .indexAddr 94 (.tmp 4) (.const (.int .i64 2)), none⟩,
    ⟨some 135, .load 5 (.tmp 134), none⟩,
    ⟨some 136, .convert 5 3 (.tmp 135), none⟩,
    ⟨some 137, .move (.tmp 2), none⟩,
    ⟨some 138, .convert 5 3 (.tmp 137), none⟩,
    ⟨some 139, .binOp .add 3 (.tmp 138) (.const (.int .i64 1)) 3, none⟩,
    ⟨some 140, .binOp .rem 3 (.tmp 136) (.tmp 139) 3, none⟩,
    ⟨some 141, .binOp .sub 3 (.tmp 133) (.tmp 140) 3, none⟩,
    ⟨some 22, .assign (.tmp 141), none⟩])
 (.seq (.reg true [⟨some 143, .load 45 (.tmp 20), none⟩,
    ⟨some 144, .load 45 (.tmp 21), none⟩,
    ⟨some 145, .build 70 #[(0, (.tmp 143)), (1, (.tmp 144))], none⟩,
    ⟨some 146, .move (.tmp 8), none⟩,
    ⟨some 147, .call { callee := .value (.func 34), args := #[.tmp 146], argTypes := #[54] }, none⟩,
    ⟨some 148, .move (.tmp 22), none⟩,
    ⟨some 149, .call { callee := .value (.func 43), args := #[.tmp 145, .tmp 147, .tmp 148], argTypes := #[70, 54, 3] }, none⟩,
    ⟨some 142, .move (.tmp 149), none⟩,
    ⟨some 150, .extract (.tmp 142) 0, none⟩,
    ⟨some 151, .extract (.tmp 142) 1, none⟩,
    ⟨some 23, .assign (.tmp 150), none⟩,
    ⟨some 24, .assign (.tmp 151), none⟩])
 (.seq (.reg false [⟨some 153, .move (.tmp 7), none⟩,
    ⟨some 154, .call { callee := .value (.func 33), args := #[.tmp 153], argTypes := #[53] }, none⟩,
    ⟨some 155, .move (.tmp 8), none⟩,
    ⟨some 156, .call { callee := .value (.func 34), args := #[.tmp 155], argTypes := #[54] }, none⟩,
    ⟨some 157, .move (.tmp 2), none⟩,
    ⟨some 158, .convert 5 3 (.tmp 157), none⟩,
    ⟨some 159, .call { callee := .value (.func 46), args := #[.tmp 154, .tmp 156, .tmp 158], argTypes := #[53, 54, 3] }, none⟩,
    ⟨some 152, .move (.tmp 159), none⟩,
    ⟨some 160, .extract (.tmp 152) 0, none⟩,
    ⟨some 161, .extract (.tmp 152) 1, none⟩,
    ⟨some 25, .assign (.tmp 160), none⟩,
    ⟨some 26, .assign (.tmp 161), none⟩])
 (.seq (.seq (.reg false [⟨some 162, .move (.tmp 7), none⟩,
     ⟨some 163, .call { callee := .builtin .len, args := #[.tmp 162], argTypes := #[53] }, none⟩,
     ⟨some 164, .binOp .gtr 3 (.tmp 163) (.const (.int .i64 0)) 3, none⟩])
  (.cond (.tmp 164)
   (.seq (.reg false [⟨some 165, .move (.tmp 18), none⟩,
       ⟨some 166, .move (.tmp 19), none⟩,
       ⟨some 167, .move (.tmp 7), none⟩,
       ⟨some 168, .call { callee := .builtin .len, args := #[.tmp 167], argTypes := #[53] }, none⟩,
       ⟨some 169, .binOp .rem 3 (.tmp 166) (.tmp 168) 3, none⟩,
       ⟨some 170, .indexAddr 53 (.tmp 165) (.tmp 169), none⟩,
       ⟨some 27, .assign (.tmp 170), none⟩])
    (.seq (.reg true [⟨some 171, .move (.tmp 27), none⟩,
       ⟨some 172, .move (.tmp 27), none⟩,
       ⟨some 173, .nilCheck (.tmp 172), none⟩,
       ⟨some 174, .fieldAddr 70 (.tmp 173) 0, none⟩,
       ⟨some 175, .fieldAddr 45 (.tmp 174) 0, none⟩,
       ⟨some 176, .load 3 (.tmp 175), none⟩,
       ⟨some 177, .indexAddr 94 (.tmp 4) (.const (.int .i64 0)), none⟩,
       ⟨some 178, .load 5 (.tmp 177), none⟩,
       ⟨some 179, .convert 5 3 (.tmp 178), none⟩,
       ⟨some 180, .binOp .add 3 (.tmp 176) (.tmp 179) 3, none⟩,
       ⟨some 181, .move (.tmp 27), none⟩,
       ⟨some 182, .nilCheck (.tmp 181), none⟩,
       ⟨some 183, .fieldAddr 70 (.tmp 182) 0, none⟩,
       ⟨some 184, .fieldAddr 45 (.tmp 183) 1, none⟩,
       ⟨some 185, .load 3 (.tmp 184), none⟩,
       ⟨some 186, .indexAddr 94 (.tmp 4) (.const (.int .i64 0)), none⟩,
       ⟨some 187, .load 5 (.tmp 186), none⟩,
       ⟨some 188, .convert 5 3 (.tmp 187), none⟩,
       ⟨some 189, .binOp .add 3 (.tmp 185) (.tmp 188) 3, none⟩,
       ⟨some 190, .call { callee := .value (.func 31), args := #[.tmp 180, .tmp 189], argTypes := #[3, 3] }, none⟩,
       ⟨some 191, .nilCheck (.tmp 171), none⟩,
       ⟨some 192, .fieldAddr 70 (.tmp 191) 0, none⟩,
       ⟨none, .store 45 (.tmp 192) (.tmp 190), none⟩])
    (.reg true [⟨some 193, .move (.tmp 27), none⟩,
      ⟨some 194, .move (.tmp 27), none⟩,
      ⟨some 195, .nilCheck (.tmp 194), none⟩,
      ⟨some 196, .fieldAddr 70 (.tmp 195) 1, none⟩,
      ⟨some 197, .fieldAddr 45 (.tmp 196) 0, none⟩,
      ⟨some 198, .load 3 (.tmp 197), none⟩,
      ⟨some 199, .indexAddr 94 (.tmp 4) (.const (.int .i64 1)), none⟩,
      ⟨some 200, .load 5 (.tmp 199), none⟩,
      ⟨some 201, .convert 5 3 (.tmp 200), none⟩,
      ⟨some 202, .binOp .sub 3 (.tmp 198) (.tmp 201) 3, none⟩,
      ⟨some 203, .call { callee := .builtin .max, args := #[.const (.int .i64 0), .tmp 202], argTypes := #[3, 3] }, none⟩,
      ⟨some 204, .move (.tmp 27), none⟩,
      ⟨some 205, .nilCheck (.tmp 204), none⟩,
      ⟨some 206, .fieldAddr 70 (.tmp 205) 1, none⟩,
      ⟨some 207, .fieldAddr 45 (.tmp 206) 1, none⟩,
      ⟨some 208, .load 3 (.tmp 207), none⟩,
      ⟨some 209, .indexAddr 94 (.tmp 4) (.const (.int .i64 1)), none⟩,
      ⟨some 210, .load 5 (.tmp 209), none⟩,
      ⟨some 211, .convert 5 3 (.tmp 210), none⟩,
      ⟨some 212, .binOp .sub 3 (.tmp 208) (.tmp 211) 3, none⟩,
      ⟨some 213, .call { callee := .builtin .max, args := #[.const (.int .i64 0), .tmp 212], argTypes := #[3, 3] }, none⟩,
      ⟨some 214, .call { callee := .value (.func 31), args := #[.tmp 203, .tmp 213], argTypes := #[3, 3] }, none⟩,
      ⟨some 215, .nilCheck (.tmp 193), none⟩,
      ⟨some 216, .fieldAddr 70 (.tmp 215) 1, none⟩,
      ⟨none, .store 45 (.tmp 216) (.tmp 214), none⟩])))
   .skip))
 (.seq (.reg false [⟨some 218, .move (.tmp 18), none⟩,
    ⟨some 219, .move (.tmp 8), none⟩,
    ⟨some 220, .move (.tmp 22), none⟩,
    ⟨some 221, .call { callee := .value (.func 46), args := #[.tmp 218, .tmp 219, .tmp 220], argTypes := #[53, 54, 3] }, none⟩,
    ⟨some 217, .move (.tmp 221), none⟩,
    ⟨some 222, .extract (.tmp 217) 0, none⟩,
    ⟨some 223, .extract (.tmp 217) 1, none⟩,
    ⟨some 28, .assign (.tmp 222), none⟩,
    ⟨some 29, .assign (.tmp 223), none⟩])
 (.seq (.reg false [⟨some 224, .move (.tmp 24), none⟩,
    ⟨some 225, .binOp .eql 27 (.tmp 224) (.const (.int .i64 0)) 27, none⟩,
    ⟨some 226, .move (.tmp 225), none⟩,
    ⟨some 227, .move (.tmp 26), some (226, true)⟩,
    ⟨some 228, .binOp .eql 27 (.tmp 227) (.const (.int .i64 0)) 27, some (226, true)⟩,
    ⟨some 229, .pick (.tmp 226) (.tmp 228) (.const (.bool false)), none⟩,
    ⟨some 230, .move (.tmp 229), none⟩,
    ⟨some 231, .move (.tmp 29), some (230, true)⟩,
    ⟨some 232, .binOp .eql 27 (.tmp 231) (.const (.int .i64 0)) 27, some (230, true)⟩,
    ⟨some 233, .pick (.tmp 230) (.tmp 232) (.const (.bool false)), none⟩,
    ⟨some 234, .move (.tmp 233), none⟩,
    ⟨some 235, .move (.tmp 23), some (234, true)⟩,
    ⟨some 236, .move (.tmp 10), some (234, true)⟩,
    ⟨some 237, .binOp .geq 3 (.tmp 235) (.tmp 236) 3, some (234, true)⟩,
    ⟨some 238, .pick (.tmp 234) (.tmp 237) (.const (.bool false)), none⟩,
    ⟨some 239, .move (.tmp 238), none⟩,
    ⟨some 240, .move (.tmp 28), some (239, true)⟩,
    ⟨some 241, .call { callee := .builtin .len, args := #[.tmp 240], argTypes := #[24] }, some (239, true)⟩,
    ⟨some 242, .move (.tmp 25), some (239, true)⟩,
    ⟨some 243, .call { callee := .builtin .len, args := #[.tmp 242], argTypes := #[24] }, some (239, true)⟩,
    ⟨some 244, .binOp .geq 3 (.tmp 241) (.tmp 243) 3, some (239, true)⟩,
    ⟨some 245, .pick (.tmp 239) (.tmp 244) (.const (.bool false)), none⟩,
    ⟨some 246, .move (.tmp 245), none⟩,
    ⟨some 247, .call { callee := .value (.func 16), args := #[], argTypes := #[] }, some (246, true)⟩,
    ⟨some 248, .pick (.tmp 246) (.tmp 247) (.const (.bool false)), none⟩,
    ⟨some 6, .assign (.tmp 248), none⟩])
 .ret))))))))))))))))⟩
theorem sf15 : sfOf Tryd.f15 = some s15 := by kernel_rfl
theorem hb15 : hasBody Tryd.prog 15 = true := by kernel_rfl
def s16 : SF := ⟨222, [.tmp 0],
 (.seq (.reg false [⟨some 0, .assign (.const (.bool false)), none⟩])
 (.seq (.reg false [⟨some 28, .build 23 #[(0, (.const (.int .i64 5))), (1, (.const (.int .i64 100))), (2, (.const (.int .i64 80))), (3, (.const (.int .i64 1)))], none⟩,
    ⟨some 29, .call { callee := .value (.func 57), args := #[.const (.int .i64 300), .const (.int .i64 320), .const (.int .i64 100), .const (.int .i64 110)], argTypes := #[3, 3, 3, 3] }, none⟩,
    ⟨some 1, .alloc 23, none⟩,
    ⟨some 2, .alloc 70, none⟩,
    ⟨none, .store 23 (.tmp 1) (.tmp 28), none⟩,
    ⟨none, .store 70 (.tmp 2) (.tmp 29), none⟩])
 (.seq (.reg false [⟨some 31, .load 23 (.tmp 1), none⟩,
    ⟨some 32, .buildSlice 24 3 #[(0, (.const (.int .i64 120))), (1, (.const (.int .i64 110))), (2, (.const (.int .i64 90)))], none⟩,
    ⟨some 33, .call { callee := .value (.func 19), args := #[.tmp 31, .tmp 32, .const (.int .i64 5)], argTypes := #[23, 24, 3] }, none⟩,
    ⟨some 30, .move (.tmp 33), none⟩,
    ⟨some 34, .extract (.tmp 30) 0, none⟩,
    ⟨some 35, .extract (.tmp 30) 1, none⟩,
    ⟨some 3, .assign (.tmp 34), none⟩,
    ⟨some 4, .assign (.tmp 35), none⟩])
 (.seq (.reg false [⟨some 37, .load 23 (.tmp 1), none⟩,
    ⟨some 38, .buildSlice 24 4 #[(0, (.const (.int .i64 120))), (1, (.const (.int .i64 110))), (2, (.const (.int .i64 70))), (3, (.const (.int .i64 60)))], none⟩,
    ⟨some 39, .call { callee := .value (.func 19), args := #[.tmp 37, .tmp 38, .const (.int .i64 5)], argTypes := #[23, 24, 3] }, none⟩,
    ⟨some 36, .move (.tmp 39), none⟩,
    ⟨some 40, .extract (.tmp 36) 0, none⟩,
    ⟨some 41, .extract (.tmp 36) 1, none⟩,
    ⟨some 5, .assign (.tmp 40), none⟩,
    ⟨some 6, .assign (.tmp 41), none⟩])
 (.seq (.reg false [⟨some 43, .load 23 (.tmp 1), none⟩,
    ⟨some 44, .buildSlice 24 3 #[(0, (.const (.int .i64 120))), (1, (.const (.int .i64 110))), (2, (.const (.int .i64 90)))], none⟩,
    ⟨some 45, .call { callee := .value (.func 20), args := #[.tmp 43, .tmp 44, .const (.int .i64 5)], argTypes := #[23, 24, 3] }, none⟩,
    ⟨some 42, .move (.tmp 45), none⟩,
    ⟨some 46, .extract (.tmp 42) 0, none⟩,
    ⟨some 47, .extract (.tmp 42) 1, none⟩,
    ⟨some 48, .extract (.tmp 42) 2, none⟩,
    ⟨some 7, .assign (.tmp 46), none⟩,
    ⟨some 8, .assign (.tmp 47), none⟩,
    ⟨some 9, .assign (.tmp 48), none⟩])
 (.seq (.reg false [⟨some 50, .buildSlice 24 4 #[(0, (.const (.int .i64 100))), (1, (.const (.int .i64 130))), (2, (.const (.int .i64 104))), (3, (.const (.int .i64 98)))], none⟩,
    ⟨some 51, .call { callee := .value (.func 27), args := #[.tmp 50, .const (.int .i64 5), .const (.int .i64 10)], argTypes := #[24, 3, 3] }, none⟩,
    ⟨some 49, .move (.tmp 51), none⟩,
    ⟨some 52, .extract (.tmp 49) 0, none⟩,
    ⟨some 53, .extract (.tmp 49) 1, none⟩,
    ⟨some 10, .assign (.tmp 52), none⟩,
    ⟨some 11, .assign (.tmp 53), none⟩])
 (.seq (.reg false [⟨some 55, .call { callee := .value (.func 31), args := #[.const (.int .i64 5000), .const (.int .i64 6000)], argTypes := #[3, 3] }, none⟩,
    ⟨some 56, .call { callee := .value (.func 31), args := #[.const (.int .i64 4000), .const (.int .i64 4200)], argTypes := #[3, 3] }, none⟩,
    ⟨some 57, .build 47 #[(0, (.tmp 55)), (1, (.tmp 56)), (2, (.const (.int .i64 1600))), (3, (.const (.int .i64 587)))], none⟩,
    ⟨some 58, .call { callee := .value (.func 29), args := #[.tmp 57], argTypes := #[47] }, none⟩,
    ⟨some 54, .move (.tmp 58), none⟩,
    ⟨some 59, .extract (.tmp 54) 0, none⟩,
    ⟨some 60, .extract (.tmp 54) 1, none⟩,
    ⟨some 12, .alloc 45, none⟩,
    ⟨none, .store 45 (.tmp 12) (.tmp 59), none⟩,
    ⟨some 13, .assign (.tmp 60), none⟩])
 (.seq (.reg false [⟨some 62, .load 70 (.tmp 2), none⟩,
    ⟨some 63, .load 70 (.tmp 2), none⟩,
    ⟨some 64, .load 70 (.tmp 2), none⟩,
    ⟨some 65, .buildSlice 53 3 #[(0, (.tmp 62)), (1, (.tmp 63)), (2, (.tmp 64))], none⟩,
    ⟨some 66, .call { callee := .value (.func 35), args := #[.tmp 65], argTypes := #[53] }, none⟩,
    ⟨some 61, .move (.tmp 66), none⟩,
    ⟨some 67, .extract (.tmp 61) 0, none⟩,
    ⟨some 68, .extract (.tmp 61) 1, none⟩,
    ⟨some 14, .assign (.tmp 67), none⟩,
    ⟨some 15, .assign (.tmp 68), none⟩])
 (.seq (.reg true [⟨some 70, .load 70 (.tmp 2), none⟩,
    ⟨some 71, .load 70 (.tmp 2), none⟩,
    ⟨some 72, .load 70 (.tmp 2), none⟩,
    ⟨some 73, .buildSlice 53 3 #[(0, (.tmp 70)), (1, (.tmp 71)), (2, (.tmp 72))], none⟩,
    ⟨some 74, .call { callee := .value (.func 58), args := #[], argTypes := #[] }, none⟩,
    ⟨some 75, .call { callee := .value (.func 36), args := #[.tmp 73, .tmp 74, .const (.int .i64 40)], argTypes := #[53, 54, 3] }, none⟩,
    ⟨some 69, .move (.tmp 75), none⟩,
    ⟨some 76, .extract (.tmp 69) 0, none⟩,
    ⟨some 77, .extract (.tmp 69) 1, none⟩,
    ⟨some 78, .extract (.tmp 69) 2, none⟩,
    ⟨some 16, .assign (.tmp 76), none⟩,
    ⟨some 17, .assign (.tmp 77), none⟩,
    ⟨some 18, .assign (.tmp 78), none⟩])
 (.seq (.reg true [⟨some 80, .load 70 (.tmp 2), none⟩,
    ⟨some 81, .load 70 (.tmp 2), none⟩,
    ⟨some 82, .load 70 (.tmp 2), none⟩,
    ⟨some 83, .buildSlice 53 3 #[(0, (.tmp 80)), (1, (.tmp 81)), (2, (.tmp 82))], none⟩,
    ⟨some 84, .call { callee := .value (.func 58), args := #[], argTypes := #[] }, none⟩,
    ⟨some 85, .call { callee := .value (.func 36), args := #[.tmp 83, .tmp 84, .const (.int .i64 29)], argTypes := #[53, 54, 3] }, none⟩,
    ⟨some 79, .move (.tmp 85), none⟩,
    ⟨some 86, .extract (.tmp 79) 0, none⟩,
    ⟨some 87, .extract (.tmp 79) 1, none⟩,
    ⟨some 88, .extract (.tmp 79) 2, none⟩,
    ⟨some 19, .assign (.tmp 86), none⟩,
    ⟨some 20, .assign (.tmp 87), none⟩,
    ⟨some 21, .assign (.tmp 88), none⟩])
 (.seq (.reg true [⟨some 90, .load 70 (.tmp 2), none⟩,
    ⟨some 91, .call { callee := .value (.func 58), args := #[], argTypes := #[] }, none⟩,
    ⟨some 92, .call { callee := .value (.func 43), args := #[.tmp 90, .tmp 91, .const (.int .i64 10)], argTypes := #[70, 54, 3] }, none⟩,
    ⟨some 89, .move (.tmp 92), none⟩,
    ⟨some 93, .extract (.tmp 89) 0, none⟩,
    ⟨some 94, .extract (.tmp 89) 1, none⟩,
    ⟨some 22, .assign (.tmp 93), none⟩,
    ⟨some 23, .assign (.tmp 94), none⟩])
 (.seq (.reg false [⟨some 96, .call { callee := .value (.func 57), args := #[.const (.int .i64 100), .const (.int .i64 100), .const (.int .i64 50), .const (.int .i64 50)], argTypes := #[3, 3, 3, 3] }, none⟩,
    ⟨some 97, .call { callee := .value (.func 57), args := #[.const (.int .i64 200), .const (.int .i64 200), .const (.int .i64 100), .const (.int .i64 100)], argTypes := #[3, 3, 3, 3] }, none⟩,
    ⟨some 98, .call { callee := .value (.func 57), args := #[.const (.int .i64 40), .const (.int .i64 40), .const (.int .i64 60), .const (.int .i64 60)], argTypes := #[3, 3, 3, 3] }, none⟩,
    ⟨some 99, .buildSlice 53 3 #[(0, (.tmp 96)), (1, (.tmp 97)), (2, (.tmp 98))], none⟩,
    ⟨some 100, .call { callee := .value (.func 58), args := #[], argTypes := #[] }, none⟩,
    ⟨some 101, .slice 54 (.tmp 100) none (some (.const (.int .i64 1))) (some (.const (.int .i64 1))), none⟩,
    ⟨some 102, .call { callee := .value (.func 45), args := #[.tmp 99, .tmp 101, .const (.int .i64 0)], argTypes := #[53, 54, 3] }, none⟩,
    ⟨some 95, .move (.tmp 102), none⟩,
    ⟨some 103, .extract (.tmp 95) 0, none⟩,
    ⟨some 104, .extract (.tmp 95) 1, none⟩,
    ⟨some 24, .assign (.tmp 103), none⟩,
    ⟨some 25, .assign (.tmp 104), none⟩])
 (.seq (.reg false [⟨some 106, .call { callee := .value (.func 57), args := #[.const (.int .i64 100), .const (.int .i64 100), .const (.int .i64 50), .const (.int .i64 50)], argTypes := #[3, 3, 3, 3] }, none⟩,
    ⟨some 107, .call { callee := .value (.func 57), args := #[.const (.int .i64 40), .const (.int .i64 40), .const (.int .i64 60), .const (.int .i64 60)], argTypes := #[3, 3, 3, 3] }, none⟩,
    ⟨some 108, .call { callee := .value (.func 57), args := #[.const (.int .i64 50), .const (.int .i64 50), .const (.int .i64 60), .const (.int .i64 60)], argTypes := #[3, 3, 3, 3] }, none⟩,
    ⟨some 109, .buildSlice 53 3 #[(0, (.tmp 106)), (1, (.tmp 107)), (2, (.tmp 108))], none⟩,
    ⟨some 110, .call { callee := .value (.func 58), args := #[], argTypes := #[] }, none⟩,
    ⟨some 111, .slice 54 (.tmp 110) none (some (.const (.int .i64 1))) (some (.const (.int .i64 1))), none⟩,
    ⟨some 112, .call { callee := .value (.func 46), args := #[.tmp 109, .tmp 111, .const (.int .i64 0)], argTypes := #[53, 54, 3] }, none⟩,
    ⟨some 105, .move (.tmp 112), none⟩,
    ⟨some 113, .extract (.tmp 105) 0, none⟩,
    ⟨some 114, .extract (.tmp 105) 1, none⟩,
    ⟨some 26, .assign (.tmp 113), none⟩,
    ⟨some 27, .assign (.tmp 114), none⟩])
 (.seq (.seq (.reg false [⟨some 115, .move (.tmp 4), none⟩,
     ⟨some 116, .binOp .neq 27 (.tmp 115) (.const (.int .i64 0)) 27, none⟩,
     ⟨some 117, .move (.tmp 116), none⟩,
     ⟨some 118, .move (.tmp 6), some (117, false)⟩,
     ⟨some 119, .binOp .neq 27 (.tmp 118) (.const (.int .i64 0)) 27, some (117, false)⟩,
     ⟨some 120, .pick (.tmp 117) (.const (.bool true)) (.tmp 119), none⟩,
     ⟨some 121, .move (.tmp 120), none⟩,
     ⟨some 122, .move (.tmp 9), some (121, false)⟩,
     ⟨some 123, .binOp .neq 27 (.tmp 122) (.const (.int .i64 0)) 27, some (121, false)⟩,
     ⟨some 124, .pick (.tmp 121) (.const (.bool true)) (.tmp 123), none⟩,
     ⟨some 125, .move (.tmp 124), none⟩,
     ⟨some 126, .move (.tmp 11), some (125, false)⟩,
     ⟨some 127, .binOp .neq 27 (.tmp 126) (.const (.int .i64 0)) 27, some (125, false)⟩,
     ⟨some 128, .pick (.tmp 125) (.const (.bool true)) (.tmp 127), none⟩,
     ⟨some 129, .move (.tmp 128), none⟩,
     ⟨some 130, .move (.tmp 13), some (129, false)⟩,
     ⟨some 131, .binOp .neq 27 (.tmp 130) (.const (.int .i64 0)) 27, some (129, false)⟩,
     ⟨some 132, .pick (.tmp 129) (.const (.bool true)) (.tmp 131), none⟩,
     ⟨some 133, .move (.tmp 132), none⟩,
     ⟨some 134, .move (.tmp 15), some (133, false)⟩,
     ⟨some 135, .binOp .neq 27 (.tmp 134) (.const (.int .i64 0)) 27, some (133, false)⟩,
     ⟨some 136, .pick (.tmp 133) (.const (.bool true)) (.tmp 135), none⟩,
     ⟨some 137, .move (.tmp 136), none⟩,
     ⟨some 138, .move (.tmp 18), some (137, false)⟩,
     ⟨some 139, .binOp .neq 27 (.tmp 138) (.const (.int .i64 0)) 27, some (137, false)⟩,
     ⟨some 140, .pick (.tmp 137) (.const (.bool true)) (.tmp 139), none⟩,
     ⟨some 141, .move (.tmp 140), none⟩,
     ⟨some 142, .move (.tmp 21), some (141, false)⟩,
     ⟨some 143, .binOp .neq 27 (.tmp 142) (.const (.int .i64 7)) 27, some (141, false)⟩,
     ⟨some 144, .pick (.tmp 141) (.const (.bool true)) (.tmp 143), none⟩,
     ⟨some 145, .move (.tmp 144), none⟩,
     ⟨some 146, .move (.tmp 23), some (145, false)⟩,
     ⟨some 147, .binOp .neq 27 (.tmp 146) (.const (.int .i64 0)) 27, some (145, false)⟩,
     ⟨some 148, .pick (.tmp 145) (.const (.bool true)) (.tmp 147), none⟩,
     ⟨some 149, .move (.tmp 148), none⟩,
     ⟨some 150, .move (.tmp 25), some (149, false)⟩,
     ⟨some 151, .binOp .neq 27 (.tmp 150) (.const (.int .i64 0)) 27, some (149, false)⟩,
     ⟨some 152, .pick (.tmp 149) (.const (.bool true)) (.tmp 151), none⟩,
     ⟨some 153, .move (.tmp 152), none⟩,
     ⟨some 154, .move (.tmp 27), some (153, false)⟩,
     ⟨some 155, .binOp .neq 27 (.tmp 154) (.const (.int .i64 0)) 27, some (153, false)⟩,
     ⟨some 156, .pick (.tmp 153) (.const (.bool true)) (.tmp 155), none⟩,
     ⟨some 157, .move (.tmp 156), none⟩,
     ⟨some 158, .move (.tmp 14), some (157, false)⟩,
     ⟨some 159, .call { callee := .builtin .len, args := #[.tmp 158], argTypes := #[57] }, some (157, false)⟩,
     ⟨some 160, .binOp .neq 3 (.tmp 159) (.const (.int .i64 3)) 3, some (157, false)⟩,
     ⟨some 161, .pick (.tmp 157) (.const (.bool true)) (.tmp 160), none⟩])
  (.cond (.tmp 161)
   (.seq (.reg false [⟨some 0, .assign (.const (.bool false)), none⟩])
    .ret)
   .skip))
 (.seq (.reg true [⟨some 162, .move (.tmp 3), none⟩,
    ⟨some 163, .binOp .eql 29 (.tmp 162) (.const (.int .i64 3)) 29, none⟩,
    ⟨some 164, .move (.tmp 163), none⟩,
    ⟨some 165, .move (.tmp 5), some (164, true)⟩,
    ⟨some 166, .binOp .eql 29 (.tmp 165) (.const (.int .i64 2)) 29, some (164, true)⟩,
    ⟨some 167, .pick (.tmp 164) (.tmp 166) (.const (.bool false)), none⟩,
    ⟨some 168, .move (.tmp 167), none⟩,
    ⟨some 169, .move (.tmp 7), some (168, true)⟩,
    ⟨some 170, .binOp .eql 3 (.tmp 169) (.const (.int .i64 1)) 3, some (168, true)⟩,
    ⟨some 171, .pick (.tmp 168) (.tmp 170) (.const (.bool false)), none⟩,
    ⟨some 172, .move (.tmp 171), none⟩,
    ⟨some 173, .move (.tmp 8), some (172, true)⟩,
    ⟨some 174, .binOp .eql 3 (.tmp 173) (.const (.int .i64 2)) 3, some (172, true)⟩,
    ⟨some 175, .pick (.tmp 172) (.tmp 174) (.const (.bool false)), none⟩,
    ⟨some 176, .move (.tmp 175), none⟩,
    ⟨some 177, .move (.tmp 10), some (176, true)⟩,
    ⟨some 178, .buildSlice 24 1 #[(0, (.const (.int .i64 1)))], some (176, true)⟩,
    ⟨some 179, .call { callee := .value (.func 22), args := #[.tmp 177, .tmp 178], argTypes := #[24, 24] }, some (176, true)⟩,
    ⟨some 180, .pick (.tmp 176) (.tmp 179) (.const (.bool false)), none⟩,
    ⟨some 181, .move (.tmp 180), none⟩,
    ⟨some 182, .load 45 (.tmp 12), some (181, true)⟩,
    ⟨some 183, .call { callee := .value (.func 31), args := #[.const (.int .i64 74226), .const (.int .i64 91290)], argTypes := #[3, 3] }, some (181, true)⟩,
    ⟨some 184, .binOp .eql 45 (.tmp 182) (.tmp 183) 45, some (181, true)⟩,
    ⟨some 185, .pick (.tmp 181) (.tmp 184) (.const (.bool false)), none⟩,
    ⟨some 186, .move (.tmp 185), none⟩,
    ⟨some 187, .move (.tmp 14), some (186, true)⟩,
    ⟨some 188, .indexAddr 57 (.tmp 187) (.const (.int .i64 0)), some (186, true)⟩,
    ⟨some 189, .load 45 (.tmp 188), some (186, true)⟩,
    ⟨some 190, .call { callee := .value (.func 31), args := #[.const (.int .i64 200), .const (.int .i64 220)], argTypes := #[3, 3] }, some (186, true)⟩,
    ⟨some 191, .binOp .eql 45 (.tmp 189) (.tmp 190) 45, some (186, true)⟩,
    ⟨some 192, .pick (.tmp 186) (.tmp 191) (.const (.bool false)), none⟩,
    ⟨some 193, .move (.tmp 192), none⟩,
    ⟨some 194, .move (.tmp 14), some (193, true)⟩,
    ⟨some 195, .indexAddr 57 (.tmp 194) (.const (.int .i64 2)), some (193, true)⟩,
    ⟨some 196, .load 45 (.tmp 195), some (193, true)⟩,
    ⟨some 197, .call { callee := .value (.func 31), args := #[.const (.int .i64 0), .const (.int .i64 0)], argTypes := #[3, 3] }, some (193, true)⟩,
    ⟨some 198, .binOp .eql 45 (.tmp 196) (.tmp 197) 45, some (193, true)⟩,
    ⟨some 199, .pick (.tmp 193) (.tmp 198) (.const (.bool false)), none⟩,
    ⟨some 200, .move (.tmp 199), none⟩,
    ⟨some 201, .move (.tmp 16), some (200, true)⟩,
    ⟨some 202, .binOp .eql 3 (.tmp 201) (.const (.int .i64 30)) 3, some (200, true)⟩,
    ⟨some 203, .pick (.tmp 200) (.tmp 202) (.const (.bool false)), none⟩,
    ⟨some 204, .move (.tmp 203), none⟩,
    ⟨some 205, .move (.tmp 17), some (204, true)⟩,
    ⟨some 206, .binOp .eql 3 (.tmp 205) (.const (.int .i64 0)) 3, some (204, true)⟩,
    ⟨some 207, .pick (.tmp 204) (.tmp 206) (.const (.bool false)), none⟩,
    ⟨some 208, .move (.tmp 207), none⟩,
    ⟨some 209, .move (.tmp 22), some (208, true)⟩,
    ⟨some 210, .binOp .eql 3 (.tmp 209) (.const (.int .i64 3)) 3, some (208, true)⟩,
    ⟨some 211, .pick (.tmp 208) (.tmp 210) (.const (.bool false)), none⟩,
    ⟨some 212, .move (.tmp 211), none⟩,
    ⟨some 213, .move (.tmp 24), some (212, true)⟩,
    ⟨some 214, .buildSlice 24 3 #[(0, (.const (.int .i64 1))), (1, (.const (.int .i64 0))), (2, (.const (.int .i64 2)))], some (212, true)⟩,
    ⟨some 215, .call { callee := .value (.func 22), args := #[.tmp 213, .tmp 214], argTypes := #[24, 24] }, some (212, true)⟩,
    ⟨some 216, .pick (.tmp 212) (.tmp 215) (.const (.bool false)), none⟩,
    ⟨some 217, .move (.tmp 216), none⟩,
    ⟨some 218, .move (.tmp 26), some (217, true)⟩,
    ⟨some 219, .buildSlice 24 2 #[(0, (.const (.int .i64 0))), (1, (.const (.int .i64 1)))], some (217, true)⟩,
    ⟨some 220, .call { callee := .value (.func 22), args := #[.tmp 218, .tmp 219], argTypes := #[24, 24] }, some (217, true)⟩,
    ⟨some 221, .pick (.tmp 217) (.tmp 220) (.const (.bool false)), none⟩,
    ⟨some 0, .assign (.tmp 221), none⟩])
 .ret)))))))))))))))⟩
theorem sf16 : sfOf Tryd.f16 = some s16 := by kernel_rfl
theorem hb16 : hasBody Tryd.prog 16 = true := by kernel_rfl
def s18 : SF := ⟨42, [.tmp 6],
 (.seq (.reg false [⟨some 3, .box 23 (.tmp 0), none⟩,
    ⟨some 6, .assign (.const (.int .i64 0)), none⟩])
 (.seq (.block 0 (.seq (.seq (.reg false [⟨some 8, .fieldAddr 23 (.tmp 3) 0, none⟩,
       ⟨some 9, .load 3 (.tmp 8), none⟩,
       ⟨some 10, .buildSlice 24 1 #[(0, (.tmp 9))], none⟩,
       ⟨some 11, .call { callee := .value (.func 59), args := #[.const (.int .i64 1), .const (.int .i64 20), .tmp 10], argTypes := #[3, 3, 24] }, none⟩,
       ⟨some 12, .unOp .not 4 (.tmp 11), none⟩,
       ⟨some 7, .assign (.tmp 12), none⟩])
    (.cond (.tmp 7)
     .skip
     (.seq (.reg false [⟨some 13, .fieldAddr 23 (.tmp 3) 1, none⟩,
         ⟨some 14, .load 3 (.tmp 13), none⟩,
         ⟨some 15, .fieldAddr 23 (.tmp 3) 2, none⟩,
         ⟨some 16, .load 3 (.tmp 15), none⟩,
         ⟨some 17, .buildSlice 24 2 #[(0, (.tmp 14)), (1, (.tmp 16))], none⟩,
         ⟨some 18, .call { callee := .value (.func 59), args := #[.const (.int .i64 0), .const (.int .i64 100000), .tmp 17], argTypes := #[3, 3, 24] }, none⟩,
         ⟨some 19, .unOp .not 4 (.tmp 18), none⟩,
         ⟨some 7, .assign (.tmp 19), none⟩])
      (.cond (.tmp 7)
       .skip
       (.reg false [⟨some 20, .fieldAddr 23 (.tmp 3) 0, none⟩,
          ⟨some 21, .load 3 (.tmp 20), none⟩,
          ⟨some 22, .fieldAddr 23 (.tmp 3) 3, none⟩,
          ⟨some 23, .load 3 (.tmp 22), none⟩,
          ⟨some 24, .buildSlice 24 1 #[(0, (.tmp 23))], none⟩,
          ⟨some 25, .call { callee := .value (.func 59), args := #[.const (.int .i64 0), .tmp 21, .tmp 24], argTypes := #[3, 3, 24] }, none⟩,
          ⟨some 26, .unOp .not 4 (.tmp 25), none⟩,
          ⟨some 7, .assign (.tmp 26), none⟩])))))
   (.cond (.tmp 7)
    (.seq (.reg false [⟨some 6, .assign (.const (.int .i64 2)), none⟩])
     .ret)
    (.seq (.reg false [⟨some 28, .move (.tmp 2), none⟩,
        ⟨some 29, .buildSlice 24 1 #[(0, (.tmp 28))], none⟩,
        ⟨some 30, .call { callee := .value (.func 59), args := #[.const (.int .i64 0), .const (.int .i64 1000), .tmp 29], argTypes := #[3, 3, 24] }, none⟩,
        ⟨some 31, .unOp .not 4 (.tmp 30), none⟩,
        ⟨some 27, .assign (.tmp 31), none⟩])
     (.cond (.tmp 27)
      (.seq (.reg false [⟨some 6, .assign (.const (.int .i64 3)), none⟩])
       .ret)
      (.seq (.reg false [⟨some 33, .move (.tmp 1), none⟩,
          ⟨some 34, .call { callee := .builtin .len, args := #[.tmp 33], argTypes := #[24] }, none⟩,
          ⟨some 35, .fieldAddr 23 (.tmp 3) 0, none⟩,
          ⟨some 36, .load 3 (.tmp 35), none⟩,
          ⟨some 37, .binOp .gtr 3 (.tmp 34) (.tmp 36) 3, none⟩,
          ⟨some 32, .assign (.tmp 37), none⟩])
       (.cond (.tmp 32)
        (.seq (.reg false [⟨some 6, .assign (.const (.int .i64 5)), none⟩])
         .ret)
        (.seq (.reg false [⟨some 39, .move (.tmp 1), none⟩,
            ⟨some 40, .call { callee := .value (.func 59), args := #[.const (.int .i64 0), .const (.int .i64 100000), .tmp 39], argTypes := #[3, 3, 24] }, none⟩,
            ⟨some 41, .unOp .not 4 (.tmp 40), none⟩,
            ⟨some 38, .assign (.tmp 41), none⟩])
         (.cond (.tmp 38)
          (.seq (.reg false [⟨some 6, .assign (.const (.int .i64 4)), none⟩])
           .ret)
          .skip)))))))))
 (.seq (.reg false [⟨some 6, .assign (.const (.int .i64 0)), none⟩])
 .ret)))⟩
theorem sf18 : sfOf Tryd.f18 = some s18 := by kernel_rfl
theorem hb18 : hasBody Tryd.prog 18 = true := by kernel_rfl
def s19 : SF := ⟨21, [.tmp 6, .tmp 7],
 (.seq (.reg false [⟨some 3, .box 23 (.tmp 0), none⟩,
    ⟨some 6, .assign (.const (.int .i64 0)), none⟩,
    ⟨some 7, .assign (.const (.int .i64 0)), none⟩])
 (.seq (.seq (.reg false [⟨some 9, .load 23 (.tmp 3), none⟩,
     ⟨some 10, .move (.tmp 1), none⟩,
     ⟨some 11, .move (.tmp 2), none⟩,
     ⟨some 12, .call { callee := .value (.func 18), args := #[.tmp 9, .tmp 10, .tmp 11], argTypes := #[23, 24, 3] }, none⟩,
     ⟨some 8, .assign (.tmp 12), none⟩])
  (.seq (.reg false [⟨some 13, .move (.tmp 8), none⟩,
     ⟨some 14, .binOp .neq 27 (.tmp 13) (.const (.int .i64 0)) 27, none⟩])
  (.cond (.tmp 14)
   (.seq (.reg false [⟨some 15, .move (.tmp 8), none⟩,
       ⟨some 6, .assign (.const (.int .i64 0)), none⟩,
       ⟨some 7, .assign (.tmp 15), none⟩])
    .ret)
   .skip)))
 (.seq (.reg false [⟨some 16, .load 23 (.tmp 3), none⟩,
    ⟨some 17, .move (.tmp 1), none⟩,
    ⟨some 18, .move (.tmp 2), none⟩,
    ⟨some 19, .call { callee := .value (.func 60), args := #[.tmp 16, .tmp 17, .tmp 18], argTypes := #[23, 24, 3] }, none⟩,
    ⟨some 20, .call { callee := .value (.func 61), args := #[.tmp 19], argTypes := #[123] }, none⟩,
    ⟨some 6, .assign (.tmp 20), none⟩,
    ⟨some 7, .assign (.const (.int .i64 0)), none⟩])
 .ret)))⟩
theorem sf19 : sfOf Tryd.f19 = some s19 := by kernel_rfl
theorem hb19 : hasBody Tryd.prog 19 = true := by kernel_rfl
def s20 : SF := ⟨26, [.tmp 6, .tmp 7, .tmp 8],
 (.seq (.reg false [⟨some 3, .box 23 (.tmp 0), none⟩,
    ⟨some 6, .assign (.const (.int .i64 0)), none⟩,
    ⟨some 7, .assign (.const (.int .i64 0)), none⟩,
    ⟨some 8, .assign (.const (.int .i64 0)), none⟩])
 (.seq (.seq (.reg false [⟨some 11, .load 23 (.tmp 3), none⟩,
     ⟨some 12, .move (.tmp 1), none⟩,
     ⟨some 13, .move (.tmp 2), none⟩,
     ⟨some 14, .call { callee := .value (.func 18), args := #[.tmp 11, .tmp 12, .tmp 13], argTypes := #[23, 24, 3] }, none⟩,
     ⟨some 9, .assign (.tmp 14), none⟩])
  (.seq (.reg false [⟨some 15, .move (.tmp 9), none⟩,
     ⟨some 16, .binOp .neq 27 (.tmp 15) (.const (.int .i64 0)) 27, none⟩])
  (.cond (.tmp 16)
   (.seq (.reg false [⟨some 17, .move (.tmp 9), none⟩,
       ⟨some 6, .assign (.const (.int .i64 0)), none⟩,
       ⟨some 7, .assign (.const (.int .i64 0)), none⟩,
       ⟨some 8, .assign (.tmp 17), none⟩])
    .ret)
   .skip)))
 (.seq (.reg false [⟨some 18, .load 23 (.tmp 3), none⟩,
    ⟨some 19, .move (.tmp 1), none⟩,
    ⟨some 20, .move (.tmp 2), none⟩,
    ⟨some 21, .call { callee := .value (.func 60), args := #[.tmp 18, .tmp 19, .tmp 20], argTypes := #[23, 24, 3] }, none⟩,
    ⟨some 10, .alloc 123, none⟩,
    ⟨none, .store 123 (.tmp 10) (.tmp 21), none⟩])
 (.seq (.reg true [⟨some 22, .load 123 (.tmp 10), none⟩,
    ⟨some 23, .call { callee := .value (.func 62), args := #[.tmp 22, .const (.int .i64 1), .const (.int .i64 100000)], argTypes := #[123, 29, 3] }, none⟩,
    ⟨some 24, .load 123 (.tmp 10), none⟩,
    ⟨some 25, .call { callee := .value (.func 62), args := #[.tmp 24, .const (.int .i64 2), .const (.int .i64 0)], argTypes := #[123, 29, 3] }, none⟩,
    ⟨some 6, .assign (.tmp 23), none⟩,
    ⟨some 7, .assign (.tmp 25), none⟩,
    ⟨some 8, .assign (.const (.int .i64 0)), none⟩])
 .ret))))⟩
theorem sf20 : sfOf Tryd.f20 = some s20 := by kernel_rfl
theorem hb20 : hasBody Tryd.prog 20 = true := by kernel_rfl
def s22 : SF := ⟨26, [.tmp 4],
 (.seq (.reg false [⟨some 4, .assign (.const (.bool false)), none⟩])
 (.seq (.seq (.reg false [⟨some 6, .move (.tmp 0), none⟩,
     ⟨some 7, .call { callee := .builtin .len, args := #[.tmp 6], argTypes := #[24] }, none⟩,
     ⟨some 8, .move (.tmp 1), none⟩,
     ⟨some 9, .call { callee := .builtin .len, args := #[.tmp 8], argTypes := #[24] }, none⟩,
     ⟨some 10, .binOp .neq 3 (.tmp 7) (.tmp 9) 3, none⟩])
  (.cond (.tmp 10)
   (.seq (.reg false [⟨some 4, .assign (.const (.bool false)), none⟩])
    .ret)
   .skip))
 (.seq (.seq (.reg false [⟨some 5, .assign (.const (.int .i64 0)), none⟩])
  (.block 0 (.loop (.seq (.seq (.reg false [⟨some 11, .move (.tmp 5), none⟩,
        ⟨some 12, .move (.tmp 0), none⟩,
        ⟨some 13, .call { callee := .builtin .len, args := #[.tmp 12], argTypes := #[24] }, none⟩,
        ⟨some 14, .binOp .lss 3 (.tmp 11) (.tmp 13) 3, none⟩])
     (.cond (.tmp 14)
      .skip
      (.exit 0)))
    (.seq (.block 1 (.seq (.reg true [⟨some 17, .move (.tmp 0), none⟩,
         ⟨some 18, .move (.tmp 5), none⟩,
         ⟨some 19, .indexAddr 24 (.tmp 17) (.tmp 18), none⟩,
         ⟨some 20, .load 3 (.tmp 19), none⟩,
         ⟨some 21, .move (.tmp 1), none⟩,
         ⟨some 22, .move (.tmp 5), none⟩,
         ⟨some 23, .indexAddr 24 (.tmp 21) (.tmp 22), none⟩,
         ⟨some 24, .load 3 (.tmp 23), none⟩,
         ⟨some 25, .binOp .neq 3 (.tmp 20) (.tmp 24) 3, none⟩])
      (.cond (.tmp 25)
       (.seq (.reg false [⟨some 4, .assign (.const (.bool false)), none⟩])
        .ret)
       .skip)))
    (.reg false [⟨some 15, .move (.tmp 5), none⟩,
      ⟨some 16, .binOp .add 3 (.tmp 15) (.const (.int .i64 1)) 3, none⟩,
      ⟨some 5, .assign (.tmp 16), none⟩]))))))
 (.seq (.reg false [⟨some 4, .assign (.const (.bool true)), none⟩])
 .ret))))⟩
theorem sf22 : sfOf Tryd.f22 = some s22 := by kernel_rfl
theorem hb22 : hasBody Tryd.prog 22 = true := by kernel_rfl
end Go.Dw.Seat
end
section
namespace Go.Dw.Seat
open Go Go.Dw Go.Proofs
def s27 : SF := ⟨66, [.tmp 6, .tmp 7],
 (.seq (.reg false [⟨some 6, .assign (.const (.slice none 0 0)), none⟩,
    ⟨some 7, .assign (.const (.int .i64 0)), none⟩])
 (.seq (.block 0 (.seq (.reg false [⟨some 13, .move (.tmp 0), none⟩,
      ⟨some 14, .call { callee := .builtin .len, args := #[.tmp 13], argTypes := #[24] }, none⟩,
      ⟨some 15, .binOp .gtr 3 (.tmp 14) (.const (.int .i64 20)) 3, none⟩,
      ⟨some 12, .assign (.tmp 15), none⟩])
   (.cond (.tmp 12)
    (.seq (.reg false [⟨some 6, .assign (.const (.slice none 0 0)), none⟩,
        ⟨some 7, .assign (.const (.int .i64 5)), none⟩])
     .ret)
    (.seq (.seq (.reg false [⟨some 17, .move (.tmp 1), none⟩,
         ⟨some 18, .buildSlice 24 1 #[(0, (.tmp 17))], none⟩,
         ⟨some 19, .call { callee := .value (.func 59), args := #[.const (.int .i64 0), .const (.int .i64 1000), .tmp 18], argTypes := #[3, 3, 24] }, none⟩,
         ⟨some 20, .unOp .not 4 (.tmp 19), none⟩,
         ⟨some 16, .assign (.tmp 20), none⟩])
      (.cond (.tmp 16)
       .skip
       (.reg false [⟨some 21, .move (.tmp 2), none⟩,
          ⟨some 22, .buildSlice 24 1 #[(0, (.tmp 21))], none⟩,
          ⟨some 23, .call { callee := .value (.func 59), args := #[.const (.int .i64 0), .const (.int .i64 100000), .tmp 22], argTypes := #[3, 3, 24] }, none⟩,
          ⟨some 24, .unOp .not 4 (.tmp 23), none⟩,
          ⟨some 16, .assign (.tmp 24), none⟩])))
     (.cond (.tmp 16)
      (.seq (.reg false [⟨some 6, .assign (.const (.slice none 0 0)), none⟩,
          ⟨some 7, .assign (.const (.int .i64 3)), none⟩])
       .ret)
      (.seq (.reg false [⟨some 26, .move (.tmp 0), none⟩,
          ⟨some 27, .call { callee := .value (.func 59), args := #[.const (.int .i64 0), .const (.int .i64 100000), .tmp 26], argTypes := #[3, 3, 24] }, none⟩,
          ⟨some 28, .unOp .not 4 (.tmp 27), none⟩,
          ⟨some 25, .assign (.tmp 28), none⟩])
       (.cond (.tmp 25)
        (.seq (.reg false [⟨some 6, .assign (.const (.slice none 0 0)), none⟩,
            ⟨some 7, .assign (.const (.int .i64 4)), none⟩])
         .ret)
        .skip)))))))
 (.seq (.seq (.reg false [⟨some 29, .move (.tmp 0), none⟩,
     ⟨some 30, .call { callee := .builtin .len, args := #[.tmp 29], argTypes := #[24] }, none⟩,
     ⟨some 31, .move (.const (.int .i64 0)), none⟩])
  (.block 1 (.loop (.seq (.reg false [⟨some 32, .binOp .lss 3 (.tmp 31) (.tmp 30) 3, none⟩])
    (.seq (.cond (.tmp 32)
      .skip
      (.exit 1))
    (.seq (.block 2 (.seq (.reg false [⟨some 33, .move (.tmp 31), none⟩,
         ⟨some 34, .indexAddr 24 (.tmp 29) (.tmp 31), none⟩,
         ⟨some 35, .load 3 (.tmp 34), none⟩,
         ⟨some 8, .assign (.tmp 33), none⟩,
         ⟨some 9, .assign (.tmp 35), none⟩])
      (.seq (.reg false [⟨some 36, .move (.tmp 1), none⟩,
         ⟨some 37, .move (.tmp 9), none⟩,
         ⟨some 38, .call { callee := .value (.func 65), args := #[.tmp 36, .tmp 37], argTypes := #[119, 3] }, none⟩,
         ⟨some 39, .field 45 (.tmp 38) 1, none⟩,
         ⟨some 10, .assign (.tmp 39), none⟩])
      (.seq (.reg false [⟨some 40, .move (.tmp 1), none⟩,
         ⟨some 41, .move (.tmp 0), none⟩,
         ⟨some 42, .move (.tmp 10), none⟩,
         ⟨some 43, .move (.tmp 10), none⟩,
         ⟨some 44, .move (.tmp 2), none⟩,
         ⟨some 45, .binOp .add 3 (.tmp 43) (.tmp 44) 3, none⟩,
         ⟨some 46, .build 45 #[(0, (.tmp 42)), (1, (.tmp 45))], none⟩,
         ⟨some 47, .call { callee := .value (.func 66), args := #[.tmp 40, .tmp 41, .tmp 46], argTypes := #[119, 24, 45] }, none⟩,
         ⟨some 11, .assign (.tmp 47), none⟩])
      (.seq (.reg false [⟨some 48, .move (.tmp 8), none⟩,
         ⟨some 49, .binOp .eql 3 (.tmp 48) (.const (.int .i64 0)) 3, none⟩,
         ⟨some 50, .move (.tmp 49), none⟩,
         ⟨some 51, .move (.tmp 11), some (50, false)⟩,
         ⟨some 52, .call { callee := .builtin .len, args := #[.tmp 51], argTypes := #[24] }, some (50, false)⟩,
         ⟨some 53, .move (.tmp 6), some (50, false)⟩,
         ⟨some 54, .call { callee := .builtin .len, args := #[.tmp 53], argTypes := #[24] }, some (50, false)⟩,
         ⟨some 55, .call { callee := .value (.func 68), args := #[.tmp 52, .tmp 54], argTypes := #[3, 3] }, some (50, false)⟩,
         ⟨some 56, .move (.tmp 11), some (50, false)⟩,
         ⟨some 57, .move (.tmp 6), some (50, false)⟩,
         ⟨some 58, .call { callee := .value (.func 69), args := #[.tmp 56, .tmp 57], argTypes := #[24, 24] }, some (50, false)⟩,
         ⟨some 59, .buildSlice 24 2 #[(0, (.tmp 55)), (1, (.tmp 58))], some (50, false)⟩,
         ⟨some 60, .call { callee := .value (.func 67), args := #[.tmp 59], argTypes := #[24] }, some (50, false)⟩,
         ⟨some 61, .binOp .lss 3 (.tmp 60) (.const (.int .i64 0)) 3, some (50, false)⟩,
         ⟨some 62, .pick (.tmp 50) (.const (.bool true)) (.tmp 61), none⟩])
      (.cond (.tmp 62)
       (.reg false [⟨some 63, .move (.tmp 11), none⟩,
          ⟨some 6, .assign (.tmp 63), none⟩])
       .skip))))))
    (.reg false [⟨some 64, .binOp .add 3 (.tmp 31) (.const (.int .i64 1)) 3, none⟩,
      ⟨some 31, .move (.tmp 64), none⟩])))))))
 (.seq (.reg false [⟨some 65, .move (.tmp 6), none⟩,
    ⟨some 6, .assign (.tmp 65), none⟩,
    ⟨some 7, .assign (.const (.int .i64 0)), none⟩])
 .ret))))⟩
theorem sf27 : sfOf Tryd.f27 = some s27 := by kernel_rfl
theorem hb27 : hasBody Tryd.prog 27 = true := by kernel_rfl
def s29 : SF := ⟨48, [.cell 2 45, .tmp 3],
 (.seq (.reg false [⟨some 1, .box 47 (.tmp 0), none⟩,
    ⟨some 2, .alloc 45, none⟩,
    ⟨some 3, .assign (.const (.int .i64 0)), none⟩])
 (.seq (.seq (.reg false [⟨some 5, .fieldAddr 47 (.tmp 1) 0, none⟩,
     ⟨some 6, .load 45 (.tmp 5), none⟩,
     ⟨some 7, .call { callee := .value (.func 72), args := #[.tmp 6, .const (.int .i64 0), .const (.int .i64 100000)], argTypes := #[45, 3, 3] }, none⟩,
     ⟨some 8, .unOp .not 4 (.tmp 7), none⟩,
     ⟨some 9, .move (.tmp 8), none⟩,
     ⟨some 10, .fieldAddr 47 (.tmp 1) 1, some (9, false)⟩,
     ⟨some 11, .load 45 (.tmp 10), some (9, false)⟩,
     ⟨some 12, .call { callee := .value (.func 72), args := #[.tmp 11, .const (.int .i64 1), .const (.int .i64 10000)], argTypes := #[45, 3, 3] }, some (9, false)⟩,
     ⟨some 13, .unOp .not 4 (.tmp 12), some (9, false)⟩,
     ⟨some 14, .pick (.tmp 9) (.const (.bool true)) (.tmp 13), none⟩,
     ⟨some 15, .move (.tmp 14), none⟩,
     ⟨some 16, .fieldAddr 47 (.tmp 1) 2, some (15, false)⟩,
     ⟨some 17, .load 3 (.tmp 16), some (15, false)⟩,
     ⟨some 18, .buildSlice 24 1 #[(0, (.tmp 17))], some (15, false)⟩,
     ⟨some 19, .call { callee := .value (.func 59), args := #[.const (.int .i64 1), .const (.int .i64 20000), .tmp 18], argTypes := #[3, 3, 24] }, some (15, false)⟩,
     ⟨some 20, .unOp .not 4 (.tmp 19), some (15, false)⟩,
     ⟨some 21, .pick (.tmp 15) (.const (.bool true)) (.tmp 20), none⟩,
     ⟨some 22, .move (.tmp 21), none⟩,
     ⟨some 23, .fieldAddr 47 (.tmp 1) 3, some (22, false)⟩,
     ⟨some 24, .load 3 (.tmp 23), some (22, false)⟩,
     ⟨some 25, .buildSlice 24 1 #[(0, (.tmp 24))], some (22, false)⟩,
     ⟨some 26, .call { callee := .value (.func 59), args := #[.const (.int .i64 1), .const (.int .i64 1000), .tmp 25], argTypes := #[3, 3, 24] }, some (22, false)⟩,
     ⟨some 27, .unOp .not 4 (.tmp 26), some (22, false)⟩,
     ⟨some 28, .pick (.tmp 22) (.const (.bool true)) (.tmp 27), none⟩])
  (.cond (.tmp 28)
   (.seq (.reg false [⟨some 29, .load 45 (.tmp 2), none⟩,
       ⟨none, .store 45 (.tmp 2) (.tmp 29), none⟩,
       ⟨some 3, .assign (.const (.int .i64 2)), none⟩])
    .ret)
   .skip))
 (.seq (.reg false [⟨some 30, .makeFunc (.func 73) #[] #[.tmp 1], none⟩,
    ⟨some 4, .assign (.tmp 30), none⟩])
 (.seq (.reg true [⟨some 31, .move (.tmp 4), none⟩,
    ⟨some 32, .fieldAddr 47 (.tmp 1) 0, none⟩,
    ⟨some 33, .fieldAddr 45 (.tmp 32) 0, none⟩,
    ⟨some 34, .load 3 (.tmp 33), none⟩,
    ⟨some 35, .fieldAddr 47 (.tmp 1) 1, none⟩,
    ⟨some 36, .fieldAddr 45 (.tmp 35) 0, none⟩,
    ⟨some 37, .load 3 (.tmp 36), none⟩,
    ⟨some 38, .call { callee := .value (.tmp 31), args := #[.tmp 34, .tmp 37], argTypes := #[3, 3] }, none⟩,
    ⟨some 39, .move (.tmp 4), none⟩,
    ⟨some 40, .fieldAddr 47 (.tmp 1) 0, none⟩,
    ⟨some 41, .fieldAddr 45 (.tmp 40) 1, none⟩,
    ⟨some 42, .load 3 (.tmp 41), none⟩,
    ⟨some 43, .fieldAddr 47 (.tmp 1) 1, none⟩,
    ⟨some 44, .fieldAddr 45 (.tmp 43) 1, none⟩,
    ⟨some 45, .load 3 (.tmp 44), none⟩,
    ⟨some 46, .call { callee := .value (.tmp 39), args := #[.tmp 42, .tmp 45], argTypes := #[3, 3] }, none⟩,
    ⟨some 47, .build 45 #[(0, (.tmp 38)), (1, (.tmp 46))], none⟩,
    ⟨none, .store 45 (.tmp 2) (.tmp 47), none⟩,
    ⟨some 3, .assign (.const (.int .i64 0)), none⟩])
 .ret))))⟩
theorem sf29 : sfOf Tryd.f29 = some s29 := by kernel_rfl
theorem hb29 : hasBody Tryd.prog 29 = true := by kernel_rfl
def s31 : SF := ⟨8, [.cell 4 45],
 (.seq (.reg false [⟨some 4, .alloc 45, none⟩])
 (.seq (.reg false [⟨some 5, .move (.tmp 0), none⟩,
    ⟨some 6, .move (.tmp 1), none⟩,
    ⟨some 7, .build 45 #[(0, (.tmp 5)), (1, (.tmp 6))], none⟩,
    ⟨none, .store 45 (.tmp 4) (.tmp 7), none⟩])
 .ret))⟩
theorem sf31 : sfOf Tryd.f31 = some s31 := by kernel_rfl
theorem hb31 : hasBody Tryd.prog 31 = true := by kernel_rfl
def s33 : SF := ⟨6, [.tmp 2],
 (.seq (.reg false [⟨some 2, .assign (.const (.slice none 0 0)), none⟩])
 (.seq (.reg false [⟨some 3, .buildSlice 53 0 #[], none⟩,
    ⟨some 4, .move (.tmp 0), none⟩,
    ⟨some 5, .call { callee := .builtin .append, args := #[.tmp 3, .tmp 4], argTypes := #[53, 53] }, none⟩,
    ⟨some 2, .assign (.tmp 5), none⟩])
 .ret))⟩
theorem sf33 : sfOf Tryd.f33 = some s33 := by kernel_rfl
theorem hb33 : hasBody Tryd.prog 33 = true := by kernel_rfl
def s34 : SF := ⟨6, [.tmp 2],
 (.seq (.reg false [⟨some 2, .assign (.const (.slice none 0 0)), none⟩])
 (.seq (.reg false [⟨some 3, .buildSlice 54 0 #[], none⟩,
    ⟨some 4, .move (.tmp 0), none⟩,
    ⟨some 5, .call { callee := .builtin .append, args := #[.tmp 3, .tmp 4], argTypes := #[54, 54] }, none⟩,
    ⟨some 2, .assign (.tmp 5), none⟩])
 .ret))⟩
theorem sf34 : sfOf Tryd.f34 = some s34 := by kernel_rfl
theorem hb34 : hasBody Tryd.prog 34 = true := by kernel_rfl
def s35 : SF := ⟨25, [.tmp 2, .tmp 3],
 (.seq (.reg false [⟨some 2, .assign (.const (.slice none 0 0)), none⟩,
    ⟨some 3, .assign (.const (.int .i64 0)), none⟩])
 (.seq (.seq (.reg false [⟨some 8, .move (.tmp 0), none⟩,
     ⟨some 9, .call { callee := .value (.func 76), args := #[.tmp 8, .const (.int .i64 50)], argTypes := #[53, 3] }, none⟩,
     ⟨some 4, .assign (.tmp 9), none⟩])
  (.seq (.reg false [⟨some 10, .move (.tmp 4), none⟩,
     ⟨some 11, .binOp .neq 27 (.tmp 10) (.const (.int .i64 0)) 27, none⟩])
  (.cond (.tmp 11)
   (.seq (.reg false [⟨some 12, .move (.tmp 4), none⟩,
       ⟨some 2, .assign (.const (.slice none 0 0)), none⟩,
       ⟨some 3, .assign (.tmp 12), none⟩])
    .ret)
   .skip)))
 (.seq (.reg false [⟨some 13, .move (.tmp 0), none⟩,
    ⟨some 14, .call { callee := .builtin .len, args := #[.tmp 13], argTypes := #[53] }, none⟩,
    ⟨some 15, .makeSlice 57 (.tmp 14) (.tmp 14), none⟩,
    ⟨some 5, .alloc 57, none⟩,
    ⟨none, .store 57 (.tmp 5) (.tmp 15), none⟩])
 (.seq (.seq (.reg false [⟨some 16, .move (.tmp 0), none⟩,
     ⟨some 17, .call { callee := .value (.func 77), args := #[.tmp 16], argTypes := #[53] }, none⟩])
  (.block 0 (.rng (.tmp 17) [18, 19]
    (.seq (.reg false [⟨some 6, .assign (.tmp 18), none⟩])
     (.reg false [⟨some 7, .alloc 45, none⟩,
       ⟨none, .store 45 (.tmp 7) (.tmp 19), none⟩]))
    (.block 1 (.reg false [⟨some 20, .load 57 (.tmp 5), none⟩,
        ⟨some 21, .move (.tmp 6), none⟩,
        ⟨some 22, .load 45 (.tmp 7), none⟩,
        ⟨some 23, .indexAddr 57 (.tmp 20) (.tmp 21), none⟩,
        ⟨none, .store 45 (.tmp 23) (.tmp 22), none⟩])))))
 (.seq (.reg false [⟨some 24, .load 57 (.tmp 5), none⟩,
    ⟨some 2, .assign (.tmp 24), none⟩,
    ⟨some 3, .assign (.const (.int .i64 0)), none⟩])
 .ret)))))⟩
theorem sf35 : sfOf Tryd.f35 = some s35 := by kernel_rfl
theorem hb35 : hasBody Tryd.prog 35 = true := by kernel_rfl
def s36 : SF := ⟨53, [.tmp 6, .tmp 7, .tmp 8],
 (.seq (.reg false [⟨some 6, .assign (.const (.int .i64 0)), none⟩,
    ⟨some 7, .assign (.const (.int .i64 0)), none⟩,
    ⟨some 8, .assign (.const (.int .i64 0)), none⟩])
 (.seq (.seq (.reg false [⟨some 15, .move (.tmp 0), none⟩,
     ⟨some 16, .call { callee := .value (.func 76), args := #[.tmp 15, .const (.int .i64 50)], argTypes := #[53, 3] }, none⟩,
     ⟨some 9, .assign (.tmp 16), none⟩])
  (.seq (.reg false [⟨some 17, .move (.tmp 9), none⟩,
     ⟨some 18, .binOp .neq 27 (.tmp 17) (.const (.int .i64 0)) 27, none⟩])
  (.cond (.tmp 18)
   (.seq (.reg false [⟨some 19, .move (.tmp 9), none⟩,
       ⟨some 6, .assign (.const (.int .i64 0)), none⟩,
       ⟨some 7, .assign (.const (.int .i64 0)), none⟩,
       ⟨some 8, .assign (.tmp 19), none⟩])
    .ret)
   .skip)))
 (.seq (.reg false [⟨some 21, .move (.tmp 1), none⟩,
    ⟨some 22, .move (.tmp 2), none⟩,
    ⟨some 23, .call { callee := .value (.func 78), args := #[.tmp 21, .tmp 22], argTypes := #[54, 3] }, none⟩,
    ⟨some 20, .move (.tmp 23), none⟩,
    ⟨some 24, .extract (.tmp 20) 0, none⟩,
    ⟨some 25, .extract (.tmp 20) 1, none⟩,
    ⟨some 10, .alloc 138, none⟩,
    ⟨none, .store 138 (.tmp 10) (.tmp 24), none⟩,
    ⟨some 8, .assign (.tmp 25), none⟩])
 (.seq (.seq (.reg false [⟨some 26, .move (.tmp 8), none⟩,
     ⟨some 27, .binOp .neq 27 (.tmp 26) (.const (.int .i64 0)) 27, none⟩])
  (.cond (.tmp 27)
   (.seq (.reg false [⟨some 28, .move (.tmp 8), none⟩,
       ⟨some 6, .assign (.const (.int .i64 0)), none⟩,
       ⟨some 7, .assign (.const (.int .i64 0)), none⟩,
       ⟨some 8, .assign (.tmp 28), none⟩])
    .ret)
   .skip))
 (.seq (.seq (.reg false [⟨some 29, .fieldAddr 138 (.tmp 10) 0, none⟩,
     ⟨some 30, .load 54 (.tmp 29), none⟩,
     ⟨some 31, .call { callee := .builtin .len, args := #[.tmp 30], argTypes := #[54] }, none⟩,
     ⟨some 32, .move (.const (.int .i64 0)), none⟩])
  (.block 0 (.loop (.seq (.reg false [⟨some 33, .binOp .lss 3 (.tmp 32) (.tmp 31) 3, none⟩])
    (.seq (.cond (.tmp 33)
      .skip
      (.exit 0))
    (.seq (.block 1 (.seq (.reg false [⟨some 34, .indexAddr 54 (.tmp 30) (.tmp 32), none⟩,
         ⟨some 35, .load 142 (.tmp 34), none⟩,
         ⟨some 12, .alloc 142, none⟩,
         ⟨none, .store 142 (.tmp 12) (.tmp 35), none⟩])
      (.seq (.seq (.reg false [⟨some 36, .fieldAddr 142 (.tmp 12) 0, none⟩,
          ⟨some 37, .load 3 (.tmp 36), none⟩,
          ⟨some 38, .fieldAddr 138 (.tmp 10) 1, none⟩,
          ⟨some 39, .load 3 (.tmp 38), none⟩,
          ⟨some 40, .binOp .gtr 3 (.tmp 37) (.tmp 39) 3, none⟩])
       (.cond (.tmp 40)
        (.exit 0)
        .skip))
      (.seq (.reg false [⟨some 42, .move (.tmp 0), none⟩,
         ⟨some 43, .fieldAddr 142 (.tmp 12) 1, none⟩,
         ⟨some 44, .load 3 (.tmp 43), none⟩,
         ⟨some 45, .call { callee := .value (.func 79), args := #[.tmp 42, .tmp 44], argTypes := #[53, 3] }, none⟩,
         ⟨some 41, .move (.tmp 45), none⟩,
         ⟨some 46, .extract (.tmp 41) 0, none⟩,
         ⟨some 47, .extract (.tmp 41) 1, none⟩,
         ⟨some 13, .assign (.tmp 46), none⟩,
         ⟨some 14, .assign (.tmp 47), none⟩])
      (.seq (.reg false [⟨some 48, .move (.tmp 14), none⟩])
      (.cond (.tmp 48)
       (.seq (.reg false [⟨some 49, .fieldAddr 142 (.tmp 12) 0, none⟩,
           ⟨some 50, .load 3 (.tmp 49), none⟩,
           ⟨some 51, .move (.tmp 13), none⟩,
           ⟨some 6, .assign (.tmp 50), none⟩,
           ⟨some 7, .assign (.tmp 51), none⟩,
           ⟨some 8, .assign (.const (.int .i64 0)), none⟩])
        .ret)
       .skip))))))
    (.reg false [⟨some 52, .binOp .add 3 (.tmp 32) (.const (.int .i64 1)) 3, none⟩,
      ⟨some 32, .move (.tmp 52), none⟩])))))))
 (.seq (.reg false [⟨some 6, .assign (.const (.int .i64 0)), none⟩,
    ⟨some 7, .assign (.const (.int .i64 0)), none⟩,
    ⟨some 8, .assign (.const (.int .i64 7)), none⟩])
 .ret))))))⟩
theorem sf36 : sfOf Tryd.f36 = some s36 := by kernel_rfl
theorem hb36 : hasBody Tryd.prog 36 = true := by kernel_rfl
def s43 : SF := ⟨42, [.tmp 6, .tmp 7],
 (.seq (.reg false [⟨some 3, .box 70 (.tmp 0), none⟩,
    ⟨some 6, .assign (.const (.int .i64 0)), none⟩,
    ⟨some 7, .assign (.const (.int .i64 0)), none⟩])
 (.seq (.seq (.reg false [⟨some 11, .load 70 (.tmp 3), none⟩,
     ⟨some 12, .buildSlice 53 1 #[(0, (.tmp 11))], none⟩,
     ⟨some 13, .call { callee := .value (.func 76), args := #[.tmp 12, .const (.int .i64 1)], argTypes := #[53, 3] }, none⟩,
     ⟨some 8, .assign (.tmp 13), none⟩])
  (.seq (.reg false [⟨some 14, .move (.tmp 8), none⟩,
     ⟨some 15, .binOp .neq 27 (.tmp 14) (.const (.int .i64 0)) 27, none⟩])
  (.cond (.tmp 15)
   (.seq (.reg false [⟨some 16, .move (.tmp 8), none⟩,
       ⟨some 6, .assign (.const (.int .i64 0)), none⟩,
       ⟨some 7, .assign (.tmp 16), none⟩])
    .ret)
   .skip)))
 (.seq (.reg false [⟨some 18, .move (.tmp 1), none⟩,
    ⟨some 19, .move (.tmp 2), none⟩,
    ⟨some 20, .call { callee := .value (.func 78), args := #[.tmp 18, .tmp 19], argTypes := #[54, 3] }, none⟩,
    ⟨some 17, .move (.tmp 20), none⟩,
    ⟨some 21, .extract (.tmp 17) 0, none⟩,
    ⟨some 22, .extract (.tmp 17) 1, none⟩,
    ⟨some 9, .alloc 138, none⟩,
    ⟨none, .store 138 (.tmp 9) (.tmp 21), none⟩,
    ⟨some 10, .assign (.tmp 22), none⟩])
 (.seq (.block 0 (.seq (.reg false [⟨some 24, .move (.tmp 10), none⟩,
      ⟨some 25, .binOp .neq 27 (.tmp 24) (.const (.int .i64 0)) 27, none⟩,
      ⟨some 23, .assign (.tmp 25), none⟩])
   (.cond (.tmp 23)
    (.seq (.reg false [⟨some 26, .move (.tmp 10), none⟩,
        ⟨some 6, .assign (.const (.int .i64 0)), none⟩,
        ⟨some 7, .assign (.tmp 26), none⟩])
     .ret)
    (.seq (.reg false [⟨some 28, .fieldAddr 70 (.tmp 3) 1, none⟩,
        ⟨some 29, .fieldAddr 45 (.tmp 28) 1, none⟩,
        ⟨some 30, .load 3 (.tmp 29), none⟩,
        ⟨some 31, .binOp .eql 3 (.tmp 30) (.const (.int .i64 0)) 3, none⟩,
        ⟨some 27, .assign (.tmp 31), none⟩])
     (.cond (.tmp 27)
      (.seq (.reg false [⟨some 6, .assign (.const (.int .i64 50)), none⟩,
          ⟨some 7, .assign (.const (.int .i64 0)), none⟩])
       .ret)
      .skip)))))
 (.seq (.reg true [⟨some 32, .load 70 (.tmp 3), none⟩,
    ⟨some 33, .load 138 (.tmp 9), none⟩,
    ⟨some 34, .call { callee := .value (.func 85), args := #[.tmp 33], argTypes := #[138] }, none⟩,
    ⟨some 35, .call { callee := .value (.func 84), args := #[.tmp 32, .tmp 34], argTypes := #[70, 3] }, none⟩,
    ⟨some 36, .fieldAddr 70 (.tmp 3) 1, none⟩,
    ⟨some 37, .fieldAddr 45 (.tmp 36) 1, none⟩,
    ⟨some 38, .load 3 (.tmp 37), none⟩,
    ⟨some 39, .binOp .quo 3 (.tmp 35) (.tmp 38) 3, none⟩,
    ⟨some 40, .binOp .add 3 (.const (.int .i64 1)) (.tmp 39) 3, none⟩,
    ⟨some 41, .call { callee := .builtin .min, args := #[.const (.int .i64 50), .tmp 40], argTypes := #[3, 3] }, none⟩,
    ⟨some 6, .assign (.tmp 41), none⟩,
    ⟨some 7, .assign (.const (.int .i64 0)), none⟩])
 .ret)))))⟩
theorem sf43 : sfOf Tryd.f43 = some s43 := by kernel_rfl
theorem hb43 : hasBody Tryd.prog 43 = true := by kernel_rfl
def s45 : SF := ⟨47, [.cell 6 24, .tmp 7],
 (.seq (.reg false [⟨some 6, .alloc 24, none⟩,
    ⟨some 7, .assign (.const (.int .i64 0)), none⟩])
 (.seq (.reg false [⟨some 12, .move (.tmp 0), none⟩,
    ⟨some 13, .move (.tmp 1), none⟩,
    ⟨some 14, .move (.tmp 2), none⟩,
    ⟨some 15, .call { callee := .value (.func 87), args := #[.tmp 12, .tmp 13, .tmp 14], argTypes := #[53, 54, 3] }, none⟩,
    ⟨some 11, .move (.tmp 15), none⟩,
    ⟨some 16, .extract (.tmp 11) 0, none⟩,
    ⟨some 17, .extract (.tmp 11) 1, none⟩,
    ⟨some 8, .alloc 151, none⟩,
    ⟨none, .store 151 (.tmp 8) (.tmp 16), none⟩,
    ⟨some 7, .assign (.tmp 17), none⟩])
 (.seq (.seq (.reg false [⟨some 18, .move (.tmp 7), none⟩,
     ⟨some 19, .binOp .neq 27 (.tmp 18) (.const (.int .i64 0)) 27, none⟩])
  (.cond (.tmp 19)
   (.seq (.reg false [⟨some 20, .move (.tmp 7), none⟩,
       ⟨none, .store 24 (.tmp 6) (.const (.slice none 0 0)), none⟩,
       ⟨some 7, .assign (.tmp 20), none⟩])
    .ret)
   .skip))
 (.seq (.reg false [⟨some 21, .move (.tmp 0), none⟩,
    ⟨some 22, .call { callee := .builtin .len, args := #[.tmp 21], argTypes := #[53] }, none⟩,
    ⟨some 23, .binOp .shl 154 (.const (.int .u64 1)) (.tmp 22) 3, none⟩,
    ⟨some 24, .binOp .sub 154 (.tmp 23) (.const (.int .u64 1)) 154, none⟩,
    ⟨some 9, .alloc 154, none⟩,
    ⟨none, .store 154 (.tmp 9) (.tmp 24), none⟩])
 (.seq (.seq (.reg false [⟨some 25, .load 151 (.tmp 8), none⟩,
     ⟨some 26, .load 154 (.tmp 9), none⟩,
     ⟨some 27, .call { callee := .value (.func 88), args := #[.tmp 25, .tmp 26], argTypes := #[151, 154] }, none⟩,
     ⟨some 28, .unOp .not 4 (.tmp 27), none⟩])
  (.cond (.tmp 28)
   (.seq (.reg false [⟨none, .store 24 (.tmp 6) (.const (.slice none 0 0)), none⟩,
       ⟨some 7, .assign (.const (.int .i64 9)), none⟩])
    .ret)
   .skip))
 (.seq (.block 0 (.loop (.seq (.seq (.reg false [⟨some 29, .load 154 (.tmp 9), none⟩,
        ⟨some 30, .binOp .neq 154 (.tmp 29) (.const (.int .u64 0)) 154, none⟩])
     (.cond (.tmp 30)
      .skip
      (.exit 0)))
    (.block 1 (.seq (.reg false [⟨some 31, .load 154 (.tmp 9), none⟩,
        ⟨some 32, .makeFunc (.func 89) #[.tmp 31] #[], none⟩])
     (.block 2 (.rng (.tmp 32) [33]
       (.reg false [⟨some 10, .assign (.tmp 33), none⟩])
       (.block 3 (.seq (.reg false [⟨some 34, .load 151 (.tmp 8), none⟩,
            ⟨some 35, .move (.tmp 10), none⟩,
            ⟨some 36, .load 154 (.tmp 9), none⟩,
            ⟨some 37, .call { callee := .value (.func 90), args := #[.tmp 34, .tmp 35, .tmp 36], argTypes := #[151, 3, 154] }, none⟩])
         (.cond (.tmp 37)
          (.seq (.ord (.op ⟨some 38, .load 24 (.tmp 6), none⟩ (.op ⟨some 39, .move (.tmp 10), none⟩ (.op ⟨some 40, .buildSlice 24 1 #[(0, (.tmp 39))], none⟩ (.alt (.op ⟨some 41, .call { callee := .builtin .append, args := #[.tmp 38, .tmp 40], argTypes := #[24, 24] }, none⟩ (.alt (.op ⟨some 42, .load 154 (.tmp 9), none⟩ (.alt (.op ⟨some 43, .move (.tmp 10), none⟩ (.alt (.op ⟨some 44, .binOp .shl 154 (.const (.int .u64 1)) (.tmp 43) 3, none⟩ (.alt (.op ⟨some 45, .binOp .andNot 154 (.tmp 42) (.tmp 44) 154, none⟩ (.op ⟨none, .store 24 (.tmp 6) (.tmp 41), none⟩ (.op ⟨none, .store 154 (.tmp 9) (.tmp 45), none⟩ .done)))
 (.op ⟨none, .store 24 (.tmp 6) (.tmp 41), none⟩ (.op ⟨some 45, .binOp .andNot 154 (.tmp 42) (.tmp 44) 154, none⟩ (.op ⟨none, .store 154 (.tmp 9) (.tmp 45), none⟩ .done)))))
 (.op ⟨none, .store 24 (.tmp 6) (.tmp 41), none⟩ (.op ⟨some 44, .binOp .shl 154 (.const (.int .u64 1)) (.tmp 43) 3, none⟩ (.op ⟨some 45, .binOp .andNot 154 (.tmp 42) (.tmp 44) 154, none⟩ (.op ⟨none, .store 154 (.tmp 9) (.tmp 45), none⟩ .done))))))
 (.op ⟨none, .store 24 (.tmp 6) (.tmp 41), none⟩ (.op ⟨some 43, .move (.tmp 10), none⟩ (.op ⟨some 44, .binOp .shl 154 (.const (.int .u64 1)) (.tmp 43) 3, none⟩ (.op ⟨some 45, .binOp .andNot 154 (.tmp 42) (.tmp 44) 154, none⟩ (.op ⟨none, .store 154 (.tmp 9) (.tmp 45), none⟩ .done)))))))
 (.alt (.op ⟨some 43, .move (.tmp 10), none⟩ (.alt (.op ⟨some 42, .load 154 (.tmp 9), none⟩ (.alt (.op ⟨some 44, .binOp .shl 154 (.const (.int .u64 1)) (.tmp 43) 3, none⟩ (.alt (.op ⟨some 45, .binOp .andNot 154 (.tmp 42) (.tmp 44) 154, none⟩ (.op ⟨none, .store 24 (.tmp 6) (.tmp 41), none⟩ (.op ⟨none, .store 154 (.tmp 9) (.tmp 45), none⟩ .done)))
 (.op ⟨none, .store 24 (.tmp 6) (.tmp 41), none⟩ (.op ⟨some 45, .binOp .andNot 154 (.tmp 42) (.tmp 44) 154, none⟩ (.op ⟨none, .store 154 (.tmp 9) (.tmp 45), none⟩ .done)))))
 (.op ⟨none, .store 24 (.tmp 6) (.tmp 41), none⟩ (.op ⟨some 44, .binOp .shl 154 (.const (.int .u64 1)) (.tmp 43) 3, none⟩ (.op ⟨some 45, .binOp .andNot 154 (.tmp 42) (.tmp 44) 154, none⟩ (.op ⟨none, .store 154 (.tmp 9) (.tmp 45), none⟩ .done))))))
 (.alt (.op ⟨some 44, .binOp .shl 154 (.const (.int .u64 1)) (.tmp 43) 3, none⟩ (.alt (.op ⟨some 42, .load 154 (.tmp 9), none⟩ (.alt (.op ⟨some 45, .binOp .andNot 154 (.tmp 42) (.tmp 44) 154, none⟩ (.op ⟨none, .store 24 (.tmp 6) (.tmp 41), none⟩ (.op ⟨none, .store 154 (.tmp 9) (.tmp 45), none⟩ .done)))
 (.op ⟨none, .store 24 (.tmp 6) (.tmp 41), none⟩ (.op ⟨some 45, .binOp .andNot 154 (.tmp 42) (.tmp 44) 154, none⟩ (.op ⟨none, .store 154 (.tmp 9) (.tmp 45), none⟩ .done)))))
 (.op ⟨none, .store 24 (.tmp 6) (.tmp 41), none⟩ (.op ⟨some 42, .load 154 (.tmp 9), none⟩ (.op ⟨some 45, .binOp .andNot 154 (.tmp 42) (.tmp 44) 154, none⟩ (.op ⟨none, .store 154 (.tmp 9) (.tmp 45), none⟩ .done))))))
 (.op ⟨none, .store 24 (.tmp 6) (.tmp 41), none⟩ (.op ⟨some 42, .load 154 (.tmp 9), none⟩ (.op ⟨some 44, .binOp .shl 154 (.const (.int .u64 1)) (.tmp 43) 3, none⟩ (.op ⟨some 45, .binOp .andNot 154 (.tmp 42) (.tmp 44) 154, none⟩ (.op ⟨none, .store 154 (.tmp 9) (.tmp 45), none⟩ .done))))))))
 (.op ⟨none, .store 24 (.tmp 6) (.tmp 41), none⟩ (.op ⟨some 42, .load 154 (.tmp 9), none⟩ (.op ⟨some 43, .move (.tmp 10), none⟩ (.op ⟨some 44, .binOp .shl 154 (.const (.int .u64 1)) (.tmp 43) 3, none⟩ (.op ⟨some 45, .binOp .andNot 154 (.tmp 42) (.tmp 44) 154, none⟩ (.op ⟨none, .store 154 (.tmp 9) (.tmp 45), none⟩ .done)))))))))
 (.alt (.op ⟨some 42, .load 154 (.tmp 9), none⟩ (.alt (.op ⟨some 41, .call { callee := .builtin .append, args := #[.tmp 38, .tmp 40], argTypes := #[24, 24] }, none⟩ (.alt (.op ⟨some 43, .move (.tmp 10), none⟩ (.alt (.op ⟨some 44, .binOp .shl 154 (.const (.int .u64 1)) (.tmp 43) 3, none⟩ (.alt (.op ⟨some 45, .binOp .andNot 154 (.tmp 42) (.tmp 44) 154, none⟩ (.op ⟨none, .store 24 (.tmp 6) (.tmp 41), none⟩ (.op ⟨none, .store 154 (.tmp 9) (.tmp 45), none⟩ .done)))
 (.op ⟨none, .store 24 (.tmp 6) (.tmp 41), none⟩ (.op ⟨some 45, .binOp .andNot 154 (.tmp 42) (.tmp 44) 154, none⟩ (.op ⟨none, .store 154 (.tmp 9) (.tmp 45), none⟩ .done)))))
 (.op ⟨none, .store 24 (.tmp 6) (.tmp 41), none⟩ (.op ⟨some 44, .binOp .shl 154 (.const (.int .u64 1)) (.tmp 43) 3, none⟩ (.op ⟨some 45, .binOp .andNot 154 (.tmp 42) (.tmp 44) 154, none⟩ (.op ⟨none, .store 154 (.tmp 9) (.tmp 45), none⟩ .done))))))
 (.op ⟨none, .store 24 (.tmp 6) (.tmp 41), none⟩ (.op ⟨some 43, .move (.tmp 10), none⟩ (.op ⟨some 44, .binOp .shl 154 (.const (.int .u64 1)) (.tmp 43) 3, none⟩ (.op ⟨some 45, .binOp .andNot 154 (.tmp 42) (.tmp 44) 154, none⟩ (.op ⟨none, .store 154 (.tmp 9) (.tmp 45), none⟩ .done)))))))
 (.op ⟨some 43, .move (.tmp 10), none⟩ (.alt (.op ⟨some 41, .call { callee := .builtin .append, args := #[.tmp 38, .tmp 40], argTypes := #[24, 24] }, none⟩ (.alt (.op ⟨some 44, .binOp .shl 154 (.const (.int .u64 1)) (.tmp 43) 3, none⟩ (.alt (.op ⟨some 45, .binOp .andNot 154 (.tmp 42) (.tmp 44) 154, none⟩ (.op ⟨none, .store 24 (.tmp 6) (.tmp 41), none⟩ (.op ⟨none, .store 154 (.tmp 9) (.tmp 45), none⟩ .done)))
 (.op ⟨none, .store 24 (.tmp 6) (.tmp 41), none⟩ (.op ⟨some 45, .binOp .andNot 154 (.tmp 42) (.tmp 44) 154, none⟩ (.op ⟨none, .store 154 (.tmp 9) (.tmp 45), none⟩ .done)))))
 (.op ⟨none, .store 24 (.tmp 6) (.tmp 41), none⟩ (.op ⟨some 44, .binOp .shl 154 (.const (.int .u64 1)) (.tmp 43) 3, none⟩ (.op ⟨some 45, .binOp .andNot 154 (.tmp 42) (.tmp 44) 154, none⟩ (.op ⟨none, .store 154 (.tmp 9) (.tmp 45), none⟩ .done))))))
 (.op ⟨some 44, .binOp .shl 154 (.const (.int .u64 1)) (.tmp 43) 3, none⟩ (.alt (.op ⟨some 41, .call { callee := .builtin .append, args := #[.tmp 38, .tmp 40], argTypes := #[24, 24] }, none⟩ (.alt (.op ⟨some 45, .binOp .andNot 154 (.tmp 42) (.tmp 44) 154, none⟩ (.op ⟨none, .store 24 (.tmp 6) (.tmp 41), none⟩ (.op ⟨none, .store 154 (.tmp 9) (.tmp 45), none⟩ .done)))
 (.op ⟨none, .store 24 (.tmp 6) (.tmp 41), none⟩ (.op ⟨some 45, .binOp .andNot 154 (.tmp 42) (.tmp 44) 154, none⟩ (.op ⟨none, .store 154 (.tmp 9) (.tmp 45), none⟩ .done)))))
 (.op ⟨some 45, .binOp .andNot 154 (.tmp 42) (.tmp 44) 154, none⟩ (.op ⟨some 41, .call { callee := .builtin .append, args := #[.tmp 38, .tmp 40], argTypes := #[24, 24] }, none⟩ (.op ⟨none, .store 24 (.tmp 6) (.tmp 41), none⟩ (.op ⟨none, .store 154 (.tmp 9) (.tmp 45), none⟩ .done))))))))))
 (.op ⟨some 43, .move (.tmp 10), none⟩ (.alt (.op ⟨some 41, .call { callee := .builtin .append, args := #[.tmp 38, .tmp 40], argTypes := #[24, 24] }, none⟩ (.alt (.op ⟨some 42, .load 154 (.tmp 9), none⟩ (.alt (.op ⟨some 44, .binOp .shl 154 (.const (.int .u64 1)) (.tmp 43) 3, none⟩ (.alt (.op ⟨some 45, .binOp .andNot 154 (.tmp 42) (.tmp 44) 154, none⟩ (.op ⟨none, .store 24 (.tmp 6) (.tmp 41), none⟩ (.op ⟨none, .store 154 (.tmp 9) (.tmp 45), none⟩ .done)))
 (.op ⟨none, .store 24 (.tmp 6) (.tmp 41), none⟩ (.op ⟨some 45, .binOp .andNot 154 (.tmp 42) (.tmp 44) 154, none⟩ (.op ⟨none, .store 154 (.tmp 9) (.tmp 45), none⟩ .done)))))
 (.op ⟨none, .store 24 (.tmp 6) (.tmp 41), none⟩ (.op ⟨some 44, .binOp .shl 154 (.const (.int .u64 1)) (.tmp 43) 3, none⟩ (.op ⟨some 45, .binOp .andNot 154 (.tmp 42) (.tmp 44) 154, none⟩ (.op ⟨none, .store 154 (.tmp 9) (.tmp 45), none⟩ .done))))))
 (.alt (.op ⟨some 44, .binOp .shl 154 (.const (.int .u64 1)) (.tmp 43) 3, none⟩ (.alt (.op ⟨some 42, .load 154 (.tmp 9), none⟩ (.alt (.op ⟨some 45, .binOp .andNot 154 (.tmp 42) (.tmp 44) 154, none⟩ (.op ⟨none, .store 24 (.tmp 6) (.tmp 41), none⟩ (.op ⟨none, .store 154 (.tmp 9) (.tmp 45), none⟩ .done)))
 (.op ⟨none, .store 24 (.tmp 6) (.tmp 41), none⟩ (.op ⟨some 45, .binOp .andNot 154 (.tmp 42) (.tmp 44) 154, none⟩ (.op ⟨none, .store 154 (.tmp 9) (.tmp 45), none⟩ .done)))))
 (.op ⟨none, .store 24 (.tmp 6) (.tmp 41), none⟩ (.op ⟨some 42, .load 154 (.tmp 9), none⟩ (.op ⟨some 45, .binOp .andNot 154 (.tmp 42) (.tmp 44) 154, none⟩ (.op ⟨none, .store 154 (.tmp 9) (.tmp 45), none⟩ .done))))))
 (.op ⟨none, .store 24 (.tmp 6) (.tmp 41), none⟩ (.op ⟨some 42, .load 154 (.tmp 9), none⟩ (.op ⟨some 44, .binOp .shl 154 (.const (.int .u64 1)) (.tmp 43) 3, none⟩ (.op ⟨some 45, .binOp .andNot 154 (.tmp 42) (.tmp 44) 154, none⟩ (.op ⟨none, .store 154 (.tmp 9) (.tmp 45), none⟩ .done))))))))
 (.alt (.op ⟨some 42, .load 154 (.tmp 9), none⟩ (.alt (.op ⟨some 41, .call { callee := .builtin .append, args := #[.tmp 38, .tmp 40], argTypes := #[24, 24] }, none⟩ (.alt (.op ⟨some 44, .binOp .shl 154 (.const (.int .u64 1)) (.tmp 43) 3, none⟩ (.alt (.op ⟨some 45, .binOp .andNot 154 (.tmp 42) (.tmp 44) 154, none⟩ (.op ⟨none, .store 24 (.tmp 6) (.tmp 41), none⟩ (.op ⟨none, .store 154 (.tmp 9) (.tmp 45), none⟩ .done)))
 (.op ⟨none, .store 24 (.tmp 6) (.tmp 41), none⟩ (.op ⟨some 45, .binOp .andNot 154 (.tmp 42) (.tmp 44) 154, none⟩ (.op ⟨none, .store 154 (.tmp 9) (.tmp 45), none⟩ .done)))))
 (.op ⟨none, .store 24 (.tmp 6) (.tmp 41), none⟩ (.op ⟨some 44, .binOp .shl 154 (.const (.int .u64 1)) (.tmp 43) 3, none⟩ (.op ⟨some 45, .binOp .andNot 154 (.tmp 42) (.tmp 44) 154, none⟩ (.op ⟨none, .store 154 (.tmp 9) (.tmp 45), none⟩ .done))))))
 (.op ⟨some 44, .binOp .shl 154 (.const (.int .u64 1)) (.tmp 43) 3, none⟩ (.alt (.op ⟨some 41, .call { callee := .builtin .append, args := #[.tmp 38, .tmp 40], argTypes := #[24, 24] }, none⟩ (.alt (.op ⟨some 45, .binOp .andNot 154 (.tmp 42) (.tmp 44) 154, none⟩ (.op ⟨none, .store 24 (.tmp 6) (.tmp 41), none⟩ (.op ⟨none, .store 154 (.tmp 9) (.tmp 45), none⟩ .done)))
 (.op ⟨none, .store 24 (.tmp 6) (.tmp 41), none⟩ (.op ⟨some 45, .binOp .andNot 154 (.tmp 42) (.tmp 44) 154, none⟩ (.op ⟨none, .store 154 (.tmp 9) (.tmp 45), none⟩ .done)))))
 (.op ⟨some 45, .binOp .andNot 154 (.tmp 42) (.tmp 44) 154, none⟩ (.op ⟨some 41, .call { callee := .builtin .append, args := #[.tmp 38, .tmp 40], argTypes := #[24, 24] }, none⟩ (.op ⟨none, .store 24 (.tmp 6) (.tmp 41), none⟩ (.op ⟨none, .store 154 (.tmp 9) (.tmp 45), none⟩ .done))))))))
 (.op ⟨some 44, .binOp .shl 154 (.const (.int .u64 1)) (.tmp 43) 3, none⟩ (.alt (.op ⟨some 41, .call { callee := .builtin .append, args := #[.tmp 38, .tmp 40], argTypes := #[24, 24] }, none⟩ (.alt (.op ⟨some 42, .load 154 (.tmp 9), none⟩ (.alt (.op ⟨some 45, .binOp .andNot 154 (.tmp 42) (.tmp 44) 154, none⟩ (.op ⟨none, .store 24 (.tmp 6) (.tmp 41), none⟩ (.op ⟨none, .store 154 (.tmp 9) (.tmp 45), none⟩ .done)))
 (.op ⟨none, .store 24 (.tmp 6) (.tmp 41), none⟩ (.op ⟨some 45, .binOp .andNot 154 (.tmp 42) (.tmp 44) 154, none⟩ (.op ⟨none, .store 154 (.tmp 9) (.tmp 45), none⟩ .done)))))
 (.op ⟨none, .store 24 (.tmp 6) (.tmp 41), none⟩ (.op ⟨some 42, .load 154 (.tmp 9), none⟩ (.op ⟨some 45, .binOp .andNot 154 (.tmp 42) (.tmp 44) 154, none⟩ (.op ⟨none, .store 154 (.tmp 9) (.tmp 45), none⟩ .done))))))
 (.op ⟨some 42, .load 154 (.tmp 9), none⟩ (.alt (.op ⟨some 41, .call { callee := .builtin .append, args := #[.tmp 38, .tmp 40], argTypes := #[24, 24] }, none⟩ (.alt (.op ⟨some 45, .binOp .andNot 154 (.tmp 42) (.tmp 44) 154, none⟩ (.op ⟨none, .store 24 (.tmp 6) (.tmp 41), none⟩ (.op ⟨none, .store 154 (.tmp 9) (.tmp 45), none⟩ .done)))
 (.op ⟨none, .store 24 (.tmp 6) (.tmp 41), none⟩ (.op ⟨some 45, .binOp .andNot 154 (.tmp 42) (.tmp 44) 154, none⟩ (.op ⟨none, .store 154 (.tmp 9) (.tmp 45), none⟩ .done)))))
 (.op ⟨some 45, .binOp .andNot 154 (.tmp 42) (.tmp 44) 154, none⟩ (.op ⟨some 41, .call { callee := .builtin .append, args := #[.tmp 38, .tmp 40], argTypes := #[24, 24] }, none⟩ (.op ⟨none, .store 24 (.tmp 6) (.tmp 41), none⟩ (.op ⟨none, .store 154 (.tmp 9) (.tmp 45), none⟩ .done)))))))))))))))))
           (.exit 2))
          .skip))))))))))
 (.seq (.reg false [⟨some 46, .load 24 (.tmp 6), none⟩,
    ⟨none, .store 24 (.tmp 6) (.tmp 46), none⟩,
    ⟨some 7, .assign (.const (.int .i64 0)), none⟩])
 .ret)))))))⟩
theorem sf45 : sfOf Tryd.f45 = some s45 := by kernel_rfl
theorem hb45 : hasBody Tryd.prog 45 = true := by kernel_rfl
def s46 : SF := ⟨55, [.tmp 6, .tmp 7],
 (.seq (.reg false [⟨some 6, .assign (.const (.slice none 0 0)), none⟩,
    ⟨some 7, .assign (.const (.int .i64 0)), none⟩])
 (.seq (.reg false [⟨some 12, .move (.tmp 0), none⟩,
    ⟨some 13, .move (.tmp 1), none⟩,
    ⟨some 14, .move (.tmp 2), none⟩,
    ⟨some 15, .call { callee := .value (.func 87), args := #[.tmp 12, .tmp 13, .tmp 14], argTypes := #[53, 54, 3] }, none⟩,
    ⟨some 11, .move (.tmp 15), none⟩,
    ⟨some 16, .extract (.tmp 11) 0, none⟩,
    ⟨some 17, .extract (.tmp 11) 1, none⟩,
    ⟨some 8, .assign (.tmp 16), none⟩,
    ⟨some 7, .assign (.tmp 17), none⟩])
 (.seq (.seq (.reg false [⟨some 18, .move (.tmp 7), none⟩,
     ⟨some 19, .binOp .neq 27 (.tmp 18) (.const (.int .i64 0)) 27, none⟩])
  (.cond (.tmp 19)
   (.seq (.reg false [⟨some 20, .move (.tmp 7), none⟩,
       ⟨some 6, .assign (.const (.slice none 0 0)), none⟩,
       ⟨some 7, .assign (.tmp 20), none⟩])
    .ret)
   .skip))
 (.seq (.seq (.reg false [⟨some 21, .move (.tmp 0), none⟩,
     ⟨some 22, .call { callee := .builtin .len, args := #[.tmp 21], argTypes := #[53] }, none⟩,
     ⟨some 23, .binOp .shl 154 (.const (.int .u64 1)) (.tmp 22) 3, none⟩,
     ⟨some 24, .move (.const (.int .u64 0)), none⟩])
  (.block 0 (.loop (.seq (.reg false [⟨some 25, .binOp .lss 154 (.tmp 24) (.tmp 23) 154, none⟩])
    (.seq (.cond (.tmp 25)
      .skip
      (.exit 0))
    (.seq (.block 1 (.seq (.reg false [⟨some 26, .move (.tmp 24), none⟩,
         ⟨some 9, .assign (.tmp 26), none⟩])
      (.seq (.seq (.reg false [⟨some 27, .move (.tmp 8), none⟩,
          ⟨some 28, .move (.tmp 9), none⟩,
          ⟨some 29, .call { callee := .value (.func 88), args := #[.tmp 27, .tmp 28], argTypes := #[151, 154] }, none⟩,
          ⟨some 30, .unOp .not 4 (.tmp 29), none⟩])
       (.cond (.tmp 30)
        (.exit 1)
        .skip))
      (.seq (.reg false [⟨some 31, .move (.tmp 9), none⟩,
         ⟨some 32, .makeFunc (.func 89) #[.tmp 31] #[], none⟩,
         ⟨some 33, .call { callee := .value (.func 91), args := #[.tmp 32], argTypes := #[176] }, none⟩,
         ⟨some 10, .assign (.tmp 33), none⟩])
      (.seq (.reg false [⟨some 34, .move (.tmp 10), none⟩,
         ⟨some 35, .call { callee := .builtin .len, args := #[.tmp 34], argTypes := #[24] }, none⟩,
         ⟨some 36, .move (.tmp 6), none⟩,
         ⟨some 37, .call { callee := .builtin .len, args := #[.tmp 36], argTypes := #[24] }, none⟩,
         ⟨some 38, .binOp .gtr 3 (.tmp 35) (.tmp 37) 3, none⟩,
         ⟨some 39, .move (.tmp 38), none⟩,
         ⟨some 40, .move (.tmp 10), some (39, false)⟩,
         ⟨some 41, .call { callee := .builtin .len, args := #[.tmp 40], argTypes := #[24] }, some (39, false)⟩,
         ⟨some 42, .move (.tmp 6), some (39, false)⟩,
         ⟨some 43, .call { callee := .builtin .len, args := #[.tmp 42], argTypes := #[24] }, some (39, false)⟩,
         ⟨some 44, .binOp .eql 3 (.tmp 41) (.tmp 43) 3, some (39, false)⟩,
         ⟨some 45, .move (.tmp 44), some (39, false)⟩,
         ⟨some 46, .move (.tmp 10), some (45, true)⟩,
         ⟨some 47, .move (.tmp 6), some (45, true)⟩,
         ⟨some 48, .call { callee := .value (.func 69), args := #[.tmp 46, .tmp 47], argTypes := #[24, 24] }, some (45, true)⟩,
         ⟨some 49, .binOp .lss 3 (.tmp 48) (.const (.int .i64 0)) 3, some (45, true)⟩,
         ⟨some 50, .pick (.tmp 45) (.tmp 49) (.const (.bool false)), some (39, false)⟩,
         ⟨some 51, .pick (.tmp 39) (.const (.bool true)) (.tmp 50), none⟩])
      (.cond (.tmp 51)
       (.reg false [⟨some 52, .move (.tmp 10), none⟩,
          ⟨some 6, .assign (.tmp 52), none⟩])
       .skip))))))
    (.reg false [⟨some 53, .binOp .add 154 (.tmp 24) (.const (.int .u64 1)) 154, none⟩,
      ⟨some 24, .move (.tmp 53), none⟩])))))))
 (.seq (.reg false [⟨some 54, .move (.tmp 6), none⟩,
    ⟨some 6, .assign (.tmp 54), none⟩,
    ⟨some 7, .assign (.const (.int .i64 0)), none⟩])
 .ret)))))⟩
theorem sf46 : sfOf Tryd.f46 = some s46 := by kernel_rfl
theorem hb46 : hasBody Tryd.prog 46 = true := by kernel_rfl
end Go.Dw.Seat
end
section
namespace Go.Dw.Seat
open Go Go.Dw Go.Proofs
def s52 : SF := ⟨108, [.tmp 4, .tmp 5],
 (.seq (.reg false [⟨some 2, .box 105 (.tmp 0), none⟩,
    ⟨some 4, .assign (.const (.slice none 0 0)), none⟩,
    ⟨some 5, .assign (.const (.slice none 0 0)), none⟩])
 (.seq (.reg false [⟨some 12, .buildSlice 53 0 #[], none⟩,
    ⟨some 13, .build 142 #[(1, (.const (.int .i64 1000)))], none⟩,
    ⟨some 14, .buildSlice 54 1 #[(0, (.tmp 13))], none⟩,
    ⟨some 6, .assign (.tmp 12), none⟩,
    ⟨some 7, .assign (.tmp 14), none⟩])
 (.seq (.seq (.reg false [⟨some 8, .assign (.const (.int .i64 0)), none⟩])
  (.block 0 (.loop (.seq (.seq (.reg false [⟨some 15, .move (.tmp 8), none⟩,
        ⟨some 16, .fieldAddr 105 (.tmp 2) 0, none⟩,
        ⟨some 17, .load 103 (.tmp 16), none⟩,
        ⟨some 18, .call { callee := .builtin .len, args := #[.tmp 17], argTypes := #[103] }, none⟩,
        ⟨some 19, .binOp .lss 3 (.tmp 15) (.tmp 18) 3, none⟩,
        ⟨some 20, .move (.tmp 19), none⟩,
        ⟨some 21, .move (.tmp 8), some (20, true)⟩,
        ⟨some 22, .move (.tmp 1), some (20, true)⟩,
        ⟨some 23, .binOp .lss 3 (.tmp 21) (.tmp 22) 3, some (20, true)⟩,
        ⟨some 24, .pick (.tmp 20) (.tmp 23) (.const (.bool false)), none⟩])
     (.cond (.tmp 24)
      .skip
      (.exit 0)))
    (.seq (.block 1 (.seq (.reg false [⟨some 27, .fieldAddr 105 (.tmp 2) 0, none⟩,
         ⟨some 28, .load 103 (.tmp 27), none⟩,
         ⟨some 29, .move (.tmp 8), none⟩,
         ⟨some 30, .indexAddr 103 (.tmp 28) (.tmp 29), none⟩,
         ⟨some 31, .load 80 (.tmp 30), none⟩,
         ⟨some 9, .alloc 80, none⟩,
         ⟨none, .store 80 (.tmp 9) (.tmp 31), none⟩])
      (.reg false [⟨some 32, .move (.tmp 6), none⟩,
        ⟨some 33, .indexAddr 80 (.tmp 9) (.const (.int .i64 0)), none⟩,
        ⟨some 34, .load 5 (.tmp 33), none⟩,
        ⟨some 35, .convert 5 3 (.tmp 34), none⟩,
        ⟨some 36, .binOp .mul 3 (.const (.int .i64 4)) (.tmp 35) 3, none⟩,
        ⟨some 37, .indexAddr 80 (.tmp 9) (.const (.int .i64 0)), none⟩,
        ⟨some 38, .load 5 (.tmp 37), none⟩,
        ⟨some 39, .convert 5 3 (.tmp 38), none⟩,
        ⟨some 40, .binOp .mul 3 (.const (.int .i64 4)) (.tmp 39) 3, none⟩,
        ⟨some 41, .indexAddr 80 (.tmp 9) (.const (.int .i64 1)), none⟩,
        ⟨some 42, .load 5 (.tmp 41), none⟩,
        ⟨some 43, .convert 5 3 (.tmp 42), none⟩,
        ⟨some 44, .binOp .rem 3 (.tmp 43) (.const (.int .i64 50)) 3, none⟩,
        ⟨some 45, .binOp .add 3 (.tmp 40) (.tmp 44) 3, none⟩,
        ⟨some 46, .indexAddr 80 (.tmp 9) (.const (.int .i64 2)), none⟩,
        ⟨some 47, .load 5 (.tmp 46), none⟩,
        ⟨some 48, .convert 5 3 (.tmp 47), none⟩,
        ⟨some 49, .indexAddr 80 (.tmp 9) (.const (.int .i64 2)), none⟩,
        ⟨some 50, .load 5 (.tmp 49), none⟩,
        ⟨some 51, .convert 5 3 (.tmp 50), none⟩,
        ⟨some 52, .indexAddr 80 (.tmp 9) (.const (.int .i64 3)), none⟩,
        ⟨some 53, .load 5 (.tmp 52), none⟩,
        ⟨some 54, .convert 5 3 (.tmp 53), none⟩,
        ⟨some 55, .binOp .rem 3 (.tmp 54) (.const (.int .i64 30)) 3, none⟩,
        ⟨some 56, .binOp .add 3 (.tmp 51) (.tmp 55) 3, none⟩,
        ⟨some 57, .call { callee := .value (.func 57), args := #[.tmp 36, .tmp 45, .tmp 48, .tmp 56], argTypes := #[3, 3, 3, 3] }, none⟩,
        ⟨some 58, .buildSlice 53 1 #[(0, (.tmp 57))], none⟩,
        ⟨some 59, .call { callee := .builtin .append, args := #[.tmp 32, .tmp 58], argTypes := #[53, 53] }, none⟩,
        ⟨some 6, .assign (.tmp 59), none⟩])))
    (.reg false [⟨some 25, .move (.tmp 8), none⟩,
      ⟨some 26, .binOp .add 3 (.tmp 25) (.const (.int .i64 1)) 3, none⟩,
      ⟨some 8, .assign (.tmp 26), none⟩]))))))
 (.seq (.seq (.reg false [⟨some 10, .assign (.const (.int .i64 0)), none⟩])
  (.block 2 (.loop (.seq (.seq (.reg false [⟨some 60, .move (.tmp 10), none⟩,
        ⟨some 61, .fieldAddr 105 (.tmp 2) 1, none⟩,
        ⟨some 62, .load 81 (.tmp 61), none⟩,
        ⟨some 63, .call { callee := .builtin .len, args := #[.tmp 62], argTypes := #[81] }, none⟩,
        ⟨some 64, .binOp .lss 3 (.tmp 60) (.tmp 63) 3, none⟩,
        ⟨some 65, .move (.tmp 64), none⟩,
        ⟨some 66, .move (.tmp 10), some (65, true)⟩,
        ⟨some 67, .binOp .lss 3 (.tmp 66) (.const (.int .i64 6)) 3, some (65, true)⟩,
        ⟨some 68, .pick (.tmp 65) (.tmp 67) (.const (.bool false)), none⟩])
     (.cond (.tmp 68)
      .skip
      (.exit 2)))
    (.seq (.block 3 (.seq (.reg false [⟨some 71, .move (.tmp 7), none⟩,
         ⟨some 72, .move (.tmp 7), none⟩,
         ⟨some 73, .call { callee := .builtin .len, args := #[.tmp 72], argTypes := #[54] }, none⟩,
         ⟨some 74, .binOp .sub 3 (.tmp 73) (.const (.int .i64 1)) 3, none⟩,
         ⟨some 75, .indexAddr 54 (.tmp 71) (.tmp 74), none⟩,
         ⟨some 76, .load 142 (.tmp 75), none⟩,
         ⟨some 11, .alloc 142, none⟩,
         ⟨none, .store 142 (.tmp 11) (.tmp 76), none⟩])
      (.reg true [⟨some 77, .move (.tmp 7), none⟩,
        ⟨some 78, .fieldAddr 142 (.tmp 11) 0, none⟩,
        ⟨some 79, .load 3 (.tmp 78), none⟩,
        ⟨some 80, .binOp .add 3 (.tmp 79) (.const (.int .i64 1)) 3, none⟩,
        ⟨some 81, .fieldAddr 105 (.tmp 2) 1, none⟩,
        ⟨some 82, .load 81 (.tmp 81), none⟩,
        ⟨some 83, .move (.tmp 10), none⟩,
        ⟨some 84, .indexAddr 81 (.tmp 82) (.tmp 83), none⟩,
        ⟨some 85, .indexAddr 100 (.tmp 84) (.const (.int .i64 0)), none⟩,
        ⟨some 86, .load 5 (.tmp 85), none⟩,
        ⟨some 87, .convert 5 3 (.tmp 86), none⟩,
        ⟨some 88, .binOp .rem 3 (.tmp 87) (.const (.int .i64 60)) 3, none⟩,
        ⟨some 89, .binOp .add 3 (.tmp 80) (.tmp 88) 3, none⟩,
        ⟨some 90, .fieldAddr 142 (.tmp 11) 1, none⟩,
        ⟨some 91, .load 3 (.tmp 90), none⟩,
        ⟨some 92, .fieldAddr 105 (.tmp 2) 1, none⟩,
        ⟨some 93, .load 81 (.tmp 92), none⟩,
        ⟨some 94, .move (.tmp 10), none⟩,
        ⟨some 95, .indexAddr 81 (.tmp 93) (.tmp 94), none⟩,
        ⟨some 96, .indexAddr 100 (.tmp 95) (.const (.int .i64 1)), none⟩,
        ⟨some 97, .load 5 (.tmp 96), none⟩,
        ⟨some 98, .convert 5 3 (.tmp 97), none⟩,
        ⟨some 99, .binOp .quo 3 (.tmp 98) (.const (.int .i64 3)) 3, none⟩,
        ⟨some 100, .binOp .sub 3 (.const (.int .i64 255)) (.tmp 99) 3, none⟩,
        ⟨some 101, .binOp .mul 3 (.tmp 91) (.tmp 100) 3, none⟩,
        ⟨some 102, .binOp .quo 3 (.tmp 101) (.const (.int .i64 255)) 3, none⟩,
        ⟨some 103, .build 142 #[(0, (.tmp 89)), (1, (.tmp 102))], none⟩,
        ⟨some 104, .buildSlice 54 1 #[(0, (.tmp 103))], none⟩,
        ⟨some 105, .call { callee := .builtin .append, args := #[.tmp 77, .tmp 104], argTypes := #[54, 54] }, none⟩,
        ⟨some 7, .assign (.tmp 105), none⟩])))
    (.reg false [⟨some 69, .move (.tmp 10), none⟩,
      ⟨some 70, .binOp .add 3 (.tmp 69) (.const (.int .i64 1)) 3, none⟩,
      ⟨some 10, .assign (.tmp 70), none⟩]))))))
 (.seq (.reg false [⟨some 106, .move (.tmp 6), none⟩,
    ⟨some 107, .move (.tmp 7), none⟩,
    ⟨some 4, .assign (.tmp 106), none⟩,
    ⟨some 5, .assign (.tmp 107), none⟩])
 .ret)))))⟩
theorem sf52 : sfOf Tryd.f52 = some s52 := by kernel_rfl
theorem hb52 : hasBody Tryd.prog 52 = true := by kernel_rfl
def s57 : SF := ⟨16, [.cell 8 70],
 (.seq (.reg false [⟨some 8, .alloc 70, none⟩])
 (.seq (.reg false [⟨some 9, .move (.tmp 0), none⟩,
    ⟨some 10, .move (.tmp 1), none⟩,
    ⟨some 11, .call { callee := .value (.func 31), args := #[.tmp 9, .tmp 10], argTypes := #[3, 3] }, none⟩,
    ⟨some 12, .move (.tmp 2), none⟩,
    ⟨some 13, .move (.tmp 3), none⟩,
    ⟨some 14, .call { callee := .value (.func 31), args := #[.tmp 12, .tmp 13], argTypes := #[3, 3] }, none⟩,
    ⟨some 15, .build 70 #[(0, (.tmp 11)), (1, (.tmp 14))], none⟩,
    ⟨none, .store 70 (.tmp 8) (.tmp 15), none⟩])
 .ret))⟩
theorem sf57 : sfOf Tryd.f57 = some s57 := by kernel_rfl
theorem hb57 : hasBody Tryd.prog 57 = true := by kernel_rfl
def s58 : SF := ⟨5, [.tmp 0],
 (.seq (.reg false [⟨some 0, .assign (.const (.slice none 0 0)), none⟩])
 (.seq (.reg false [⟨some 1, .build 142 #[(1, (.const (.int .i64 1000)))], none⟩,
    ⟨some 2, .build 142 #[(0, (.const (.int .i64 10))), (1, (.const (.int .i64 800)))], none⟩,
    ⟨some 3, .build 142 #[(0, (.const (.int .i64 30))), (1, (.const (.int .i64 600)))], none⟩,
    ⟨some 4, .buildSlice 54 3 #[(0, (.tmp 1)), (1, (.tmp 2)), (2, (.tmp 3))], none⟩,
    ⟨some 0, .assign (.tmp 4), none⟩])
 .ret))⟩
theorem sf58 : sfOf Tryd.f58 = some s58 := by kernel_rfl
theorem hb58 : hasBody Tryd.prog 58 = true := by kernel_rfl
def s59 : SF := ⟨11, [.tmp 6],
 (.seq (.reg false [⟨some 3, .box 3 (.tmp 0), none⟩,
    ⟨some 4, .box 3 (.tmp 1), none⟩,
    ⟨some 6, .assign (.const (.bool false)), none⟩])
 (.seq (.reg false [⟨some 7, .move (.tmp 2), none⟩,
    ⟨some 8, .makeFunc (.func 93) #[] #[.tmp 3, .tmp 4], none⟩,
    ⟨some 9, .call { callee := .value (.func 92), args := #[.tmp 7, .tmp 8], argTypes := #[24, 160] }, none⟩,
    ⟨some 10, .unOp .not 4 (.tmp 9), none⟩,
    ⟨some 6, .assign (.tmp 10), none⟩])
 .ret))⟩
theorem sf59 : sfOf Tryd.f59 = some s59 := by kernel_rfl
theorem hb59 : hasBody Tryd.prog 59 = true := by kernel_rfl
def s60 : SF := ⟨24, [.cell 6 123],
 (.seq (.reg false [⟨some 3, .box 23 (.tmp 0), none⟩,
    ⟨some 6, .alloc 123, none⟩])
 (.seq (.reg false [⟨some 10, .load 23 (.tmp 3), none⟩,
    ⟨some 11, .move (.tmp 2), none⟩,
    ⟨some 12, .build 123 #[(0, (.tmp 10)), (1, (.tmp 11))], none⟩,
    ⟨some 7, .alloc 123, none⟩,
    ⟨none, .store 123 (.tmp 7) (.tmp 12), none⟩])
 (.seq (.seq (.reg false [⟨some 13, .move (.tmp 1), none⟩,
     ⟨some 14, .call { callee := .builtin .len, args := #[.tmp 13], argTypes := #[24] }, none⟩,
     ⟨some 15, .move (.const (.int .i64 0)), none⟩])
  (.block 0 (.loop (.seq (.reg false [⟨some 16, .binOp .lss 3 (.tmp 15) (.tmp 14) 3, none⟩])
    (.seq (.cond (.tmp 16)
      .skip
      (.exit 0))
    (.seq (.block 1 (.seq (.reg false [⟨some 17, .indexAddr 24 (.tmp 13) (.tmp 15), none⟩,
         ⟨some 18, .load 3 (.tmp 17), none⟩,
         ⟨some 9, .assign (.tmp 18), none⟩])
      (.reg false [⟨some 19, .load 123 (.tmp 7), none⟩,
        ⟨some 20, .move (.tmp 9), none⟩,
        ⟨some 21, .call { callee := .value (.func 94), args := #[.tmp 19, .tmp 20], argTypes := #[123, 3] }, none⟩,
        ⟨none, .store 123 (.tmp 7) (.tmp 21), none⟩])))
    (.reg false [⟨some 22, .binOp .add 3 (.tmp 15) (.const (.int .i64 1)) 3, none⟩,
      ⟨some 15, .move (.tmp 22), none⟩])))))))
 (.seq (.reg false [⟨some 23, .load 123 (.tmp 7), none⟩,
    ⟨none, .store 123 (.tmp 6) (.tmp 23), none⟩])
 .ret))))⟩
theorem sf60 : sfOf Tryd.f60 = some s60 := by kernel_rfl
theorem hb60 : hasBody Tryd.prog 60 = true := by kernel_rfl
def s61 : SF := ⟨14, [.tmp 2],
 (.seq (.reg false [⟨some 1, .box 123 (.tmp 0), none⟩,
    ⟨some 2, .assign (.const (.int .i64 0)), none⟩])
 (.seq (.block 0 (.seq (.reg false [⟨some 4, .load 123 (.tmp 1), none⟩,
      ⟨some 5, .fieldAddr 123 (.tmp 1) 3, none⟩,
      ⟨some 6, .load 121 (.tmp 5), none⟩,
      ⟨some 7, .call { callee := .value (.func 95), args := #[.tmp 4, .tmp 6, .const (.int .i64 0)], argTypes := #[123, 121, 3] }, none⟩,
      ⟨some 3, .assign (.tmp 7), none⟩])
   (.cond (.tmp 3)
    (.seq (.reg false [⟨some 2, .assign (.const (.int .i64 1)), none⟩])
     .ret)
    (.seq (.reg false [⟨some 9, .load 123 (.tmp 1), none⟩,
        ⟨some 10, .fieldAddr 123 (.tmp 1) 4, none⟩,
        ⟨some 11, .load 121 (.tmp 10), none⟩,
        ⟨some 12, .call { callee := .value (.func 95), args := #[.tmp 9, .tmp 11, .const (.int .i64 100000)], argTypes := #[123, 121, 3] }, none⟩,
        ⟨some 13, .unOp .not 4 (.tmp 12), none⟩,
        ⟨some 8, .assign (.tmp 13), none⟩])
     (.cond (.tmp 8)
      (.seq (.reg false [⟨some 2, .assign (.const (.int .i64 2)), none⟩])
       .ret)
      .skip)))))
 (.seq (.reg false [⟨some 2, .assign (.const (.int .i64 3)), none⟩])
 .ret)))⟩
theorem sf61 : sfOf Tryd.f61 = some s61 := by kernel_rfl
theorem hb61 : hasBody Tryd.prog 61 = true := by kernel_rfl
def s62 : SF := ⟨24, [.tmp 6],
 (.seq (.reg false [⟨some 3, .box 123 (.tmp 0), none⟩,
    ⟨some 6, .assign (.const (.int .i64 0)), none⟩])
 (.seq (.reg false [⟨some 7, .assign (.const (.int .i64 0)), none⟩])
 (.block 0 (.loop (.seq (.block 1 (.seq (.seq (.reg false [⟨some 10, .load 123 (.tmp 3), none⟩,
         ⟨some 11, .call { callee := .value (.func 61), args := #[.tmp 10], argTypes := #[123] }, none⟩,
         ⟨some 12, .move (.tmp 1), none⟩,
         ⟨some 13, .binOp .eql 29 (.tmp 11) (.tmp 12) 29, none⟩])
      (.cond (.tmp 13)
       (.seq (.reg false [⟨some 14, .move (.tmp 7), none⟩,
           ⟨some 6, .assign (.tmp 14), none⟩])
        .ret)
       .skip))
     (.seq (.seq (.reg false [⟨some 15, .fieldAddr 123 (.tmp 3) 2, none⟩,
         ⟨some 16, .load 3 (.tmp 15), none⟩,
         ⟨some 17, .fieldAddr 123 (.tmp 3) 0, none⟩,
         ⟨some 18, .fieldAddr 23 (.tmp 17) 0, none⟩,
         ⟨some 19, .load 3 (.tmp 18), none⟩,
         ⟨some 20, .binOp .eql 3 (.tmp 16) (.tmp 19) 3, none⟩])
      (.cond (.tmp 20)
       (.seq (.reg false [⟨some 6, .assign (.const (.int .i64 (-1))), none⟩])
        .ret)
       .skip))
     (.reg false [⟨some 21, .load 123 (.tmp 3), none⟩,
       ⟨some 22, .move (.tmp 2), none⟩,
       ⟨some 23, .call { callee := .value (.func 94), args := #[.tmp 21, .tmp 22], argTypes := #[123, 3] }, none⟩,
       ⟨none, .store 123 (.tmp 3) (.tmp 23), none⟩]))))
   (.reg false [⟨some 8, .move (.tmp 7), none⟩,
     ⟨some 9, .binOp .add 3 (.tmp 8) (.const (.int .i64 1)) 3, none⟩,
     ⟨some 7, .assign (.tmp 9), none⟩]))))))⟩
theorem sf62 : sfOf Tryd.f62 = some s62 := by kernel_rfl
theorem hb62 : hasBody Tryd.prog 62 = true := by kernel_rfl
def s65 : SF := ⟨14, [.cell 4 45],
 (.seq (.reg false [⟨some 4, .alloc 45, none⟩])
 (.seq (.reg false [⟨some 5, .move (.tmp 1), none⟩,
    ⟨some 6, .move (.tmp 0), none⟩,
    ⟨some 7, .binOp .sub 3 (.tmp 5) (.tmp 6) 3, none⟩,
    ⟨some 8, .call { callee := .builtin .max, args := #[.const (.int .i64 0), .tmp 7], argTypes := #[3, 3] }, none⟩,
    ⟨some 9, .move (.tmp 1), none⟩,
    ⟨some 10, .move (.tmp 0), none⟩,
    ⟨some 11, .binOp .add 3 (.tmp 9) (.tmp 10) 3, none⟩,
    ⟨some 12, .call { callee := .builtin .min, args := #[.const (.int .i64 100000), .tmp 11], argTypes := #[3, 3] }, none⟩,
    ⟨some 13, .build 45 #[(0, (.tmp 8)), (1, (.tmp 12))], none⟩,
    ⟨none, .store 45 (.tmp 4) (.tmp 13), none⟩])
 .ret))⟩
theorem sf65 : sfOf Tryd.f65 = some s65 := by kernel_rfl
theorem hb65 : hasBody Tryd.prog 65 = true := by kernel_rfl
def s66 : SF := ⟨38, [.tmp 6],
 (.seq (.reg false [⟨some 5, .box 45 (.tmp 2), none⟩,
    ⟨some 6, .assign (.const (.slice none 0 0)), none⟩])
 (.seq (.seq (.reg false [⟨some 10, .move (.tmp 1), none⟩,
     ⟨some 11, .call { callee := .builtin .len, args := #[.tmp 10], argTypes := #[24] }, none⟩,
     ⟨some 12, .move (.const (.int .i64 0)), none⟩])
  (.block 0 (.loop (.seq (.reg false [⟨some 13, .binOp .lss 3 (.tmp 12) (.tmp 11) 3, none⟩])
    (.seq (.cond (.tmp 13)
      .skip
      (.exit 0))
    (.seq (.block 1 (.seq (.reg false [⟨some 14, .move (.tmp 12), none⟩,
         ⟨some 15, .indexAddr 24 (.tmp 10) (.tmp 12), none⟩,
         ⟨some 16, .load 3 (.tmp 15), none⟩,
         ⟨some 7, .assign (.tmp 14), none⟩,
         ⟨some 8, .assign (.tmp 16), none⟩])
      (.seq (.reg false [⟨some 17, .move (.tmp 0), none⟩,
         ⟨some 18, .move (.tmp 8), none⟩,
         ⟨some 19, .call { callee := .value (.func 65), args := #[.tmp 17, .tmp 18], argTypes := #[119, 3] }, none⟩,
         ⟨some 9, .alloc 45, none⟩,
         ⟨none, .store 45 (.tmp 9) (.tmp 19), none⟩])
      (.seq (.reg false [⟨some 20, .fieldAddr 45 (.tmp 9) 1, none⟩,
         ⟨some 21, .load 3 (.tmp 20), none⟩,
         ⟨some 22, .fieldAddr 45 (.tmp 5) 0, none⟩,
         ⟨some 23, .load 3 (.tmp 22), none⟩,
         ⟨some 24, .binOp .lss 3 (.tmp 21) (.tmp 23) 3, none⟩,
         ⟨some 25, .move (.tmp 24), none⟩,
         ⟨some 26, .fieldAddr 45 (.tmp 9) 0, some (25, false)⟩,
         ⟨some 27, .load 3 (.tmp 26), some (25, false)⟩,
         ⟨some 28, .fieldAddr 45 (.tmp 5) 1, some (25, false)⟩,
         ⟨some 29, .load 3 (.tmp 28), some (25, false)⟩,
         ⟨some 30, .binOp .gtr 3 (.tmp 27) (.tmp 29) 3, some (25, false)⟩,
         ⟨some 31, .pick (.tmp 25) (.const (.bool true)) (.tmp 30), none⟩])
      (.cond (.tmp 31)
       (.reg false [⟨some 32, .move (.tmp 6), none⟩,
          ⟨some 33, .move (.tmp 7), none⟩,
          ⟨some 34, .buildSlice 24 1 #[(0, (.tmp 33))], none⟩,
          ⟨some 35, .call { callee := .builtin .append, args := #[.tmp 32, .tmp 34], argTypes := #[24, 24] }, none⟩,
          ⟨some 6, .assign (.tmp 35), none⟩])
       .skip)))))
    (.reg false [⟨some 36, .binOp .add 3 (.tmp 12) (.const (.int .i64 1)) 3, none⟩,
      ⟨some 12, .move (.tmp 36), none⟩])))))))
 (.seq (.reg false [⟨some 37, .move (.tmp 6), none⟩,
    ⟨some 6, .assign (.tmp 37), none⟩])
 .ret)))⟩
theorem sf66 : sfOf Tryd.f66 = some s66 := by kernel_rfl
theorem hb66 : hasBody Tryd.prog 66 = true := by kernel_rfl
def s67 : SF := ⟨18, [.tmp 2],
 (.seq (.reg false [⟨some 2, .assign (.const (.int .i64 0)), none⟩])
 (.seq (.reg false [⟨some 3, .assign (.const (.int .i64 0)), none⟩])
 (.seq (.seq (.reg false [⟨some 6, .move (.tmp 0), none⟩,
     ⟨some 7, .call { callee := .builtin .len, args := #[.tmp 6], argTypes := #[24] }, none⟩,
     ⟨some 8, .move (.const (.int .i64 0)), none⟩])
  (.block 0 (.loop (.seq (.reg false [⟨some 9, .binOp .lss 3 (.tmp 8) (.tmp 7) 3, none⟩])
    (.seq (.cond (.tmp 9)
      .skip
      (.exit 0))
    (.seq (.block 1 (.seq (.reg false [⟨some 10, .indexAddr 24 (.tmp 6) (.tmp 8), none⟩,
         ⟨some 11, .load 3 (.tmp 10), none⟩,
         ⟨some 5, .assign (.tmp 11), none⟩])
      (.seq (.reg false [⟨some 12, .move (.tmp 5), none⟩,
         ⟨some 13, .move (.tmp 3), none⟩,
         ⟨some 14, .binOp .neq 3 (.tmp 12) (.tmp 13) 3, none⟩])
      (.cond (.tmp 14)
       (.seq (.reg false [⟨some 15, .move (.tmp 5), none⟩,
           ⟨some 2, .assign (.tmp 15), none⟩])
        .ret)
       .skip))))
    (.reg false [⟨some 16, .binOp .add 3 (.tmp 8) (.const (.int .i64 1)) 3, none⟩,
      ⟨some 8, .move (.tmp 16), none⟩])))))))
 (.seq (.reg false [⟨some 17, .move (.tmp 3), none⟩,
    ⟨some 2, .assign (.tmp 17), none⟩])
 .ret))))⟩
theorem sf67 : sfOf Tryd.f67 = some s67 := by kernel_rfl
theorem hb67 : hasBody Tryd.prog 67 = true := by kernel_rfl
def s68 : SF := ⟨20, [.tmp 4],
 (.seq (.reg false [⟨some 4, .assign (.const (.int .i64 0)), none⟩])
 (.seq (.reg false [⟨some 7, .move (.tmp 0), none⟩,
    ⟨some 8, .call { callee := .value (.func 96), args := #[.tmp 7], argTypes := #[3] }, none⟩,
    ⟨some 5, .assign (.tmp 8), none⟩])
 (.seq (.reg false [⟨some 9, .move (.tmp 1), none⟩,
    ⟨some 10, .call { callee := .value (.func 96), args := #[.tmp 9], argTypes := #[3] }, none⟩,
    ⟨some 6, .assign (.tmp 10), none⟩])
 (.seq (.seq (.reg false [⟨some 11, .move (.tmp 5), none⟩])
  (.cond (.tmp 11)
   (.seq (.seq (.reg false [⟨some 12, .move (.tmp 6), none⟩])
     (.cond (.tmp 12)
      (.seq (.reg false [⟨some 4, .assign (.const (.int .i64 0)), none⟩])
       .ret)
      .skip))
    (.seq (.reg false [⟨some 4, .assign (.const (.int .i64 (-1))), none⟩])
    .ret))
   .skip))
 (.seq (.seq (.reg false [⟨some 13, .move (.tmp 6), none⟩])
  (.cond (.tmp 13)
   (.seq (.reg false [⟨some 4, .assign (.const (.int .i64 1)), none⟩])
    .ret)
   .skip))
 (.seq (.seq (.reg false [⟨some 14, .move (.tmp 0), none⟩,
     ⟨some 15, .move (.tmp 1), none⟩,
     ⟨some 16, .binOp .lss 3 (.tmp 14) (.tmp 15) 3, none⟩])
  (.cond (.tmp 16)
   (.seq (.reg false [⟨some 4, .assign (.const (.int .i64 (-1))), none⟩])
    .ret)
   .skip))
 (.seq (.seq (.reg false [⟨some 17, .move (.tmp 0), none⟩,
     ⟨some 18, .move (.tmp 1), none⟩,
     ⟨some 19, .binOp .gtr 3 (.tmp 17) (.tmp 18) 3, none⟩])
  (.cond (.tmp 19)
   (.seq (.reg false [⟨some 4, .assign (.const (.int .i64 1)), none⟩])
    .ret)
   .skip))
 (.seq (.reg false [⟨some 4, .assign (.const (.int .i64 0)), none⟩])
 .ret))))))))⟩
theorem sf68 : sfOf Tryd.f68 = some s68 := by kernel_rfl
theorem hb68 : hasBody Tryd.prog 68 = true := by kernel_rfl
def s69 : SF := ⟨36, [.tmp 4],
 (.seq (.reg false [⟨some 4, .assign (.const (.int .i64 0)), none⟩])
 (.seq (.seq (.reg false [⟨some 9, .move (.tmp 0), none⟩,
     ⟨some 10, .call { callee := .builtin .len, args := #[.tmp 9], argTypes := #[24] }, none⟩,
     ⟨some 11, .move (.const (.int .i64 0)), none⟩])
  (.block 0 (.loop (.seq (.reg false [⟨some 12, .binOp .lss 3 (.tmp 11) (.tmp 10) 3, none⟩])
    (.seq (.cond (.tmp 12)
      .skip
      (.exit 0))
    (.seq (.block 1 (.seq (.reg false [⟨some 13, .move (.tmp 11), none⟩,
         ⟨some 14, .indexAddr 24 (.tmp 9) (.tmp 11), none⟩,
         ⟨some 15, .load 3 (.tmp 14), none⟩,
         ⟨some 5, .assign (.tmp 13), none⟩,
         ⟨some 6, .assign (.tmp 15), none⟩])
      (.seq (.seq (.reg false [⟨some 16, .move (.tmp 5), none⟩,
          ⟨some 17, .move (.tmp 1), none⟩,
          ⟨some 18, .call { callee := .builtin .len, args := #[.tmp 17], argTypes := #[24] }, none⟩,
          ⟨some 19, .binOp .geq 3 (.tmp 16) (.tmp 18) 3, none⟩])
       (.cond (.tmp 19)
        (.seq (.reg false [⟨some 4, .assign (.const (.int .i64 1)), none⟩])
         .ret)
        .skip))
      (.seq (.reg false [⟨some 20, .move (.tmp 1), none⟩,
         ⟨some 21, .move (.tmp 5), none⟩,
         ⟨some 22, .indexAddr 24 (.tmp 20) (.tmp 21), none⟩,
         ⟨some 23, .load 3 (.tmp 22), none⟩,
         ⟨some 7, .assign (.tmp 23), none⟩])
      (.seq (.reg false [⟨some 24, .move (.tmp 6), none⟩,
         ⟨some 25, .move (.tmp 7), none⟩,
         ⟨some 26, .call { callee := .value (.func 68), args := #[.tmp 24, .tmp 25], argTypes := #[3, 3] }, none⟩,
         ⟨some 8, .assign (.tmp 26), none⟩])
      (.seq (.reg false [⟨some 27, .move (.tmp 8), none⟩,
         ⟨some 28, .binOp .neq 3 (.tmp 27) (.const (.int .i64 0)) 3, none⟩])
      (.cond (.tmp 28)
       (.seq (.reg false [⟨some 29, .move (.tmp 8), none⟩,
           ⟨some 4, .assign (.tmp 29), none⟩])
        .ret)
       .skip)))))))
    (.reg false [⟨some 30, .binOp .add 3 (.tmp 11) (.const (.int .i64 1)) 3, none⟩,
      ⟨some 11, .move (.tmp 30), none⟩])))))))
 (.seq (.seq (.reg false [⟨some 31, .move (.tmp 0), none⟩,
     ⟨some 32, .call { callee := .builtin .len, args := #[.tmp 31], argTypes := #[24] }, none⟩,
     ⟨some 33, .move (.tmp 1), none⟩,
     ⟨some 34, .call { callee := .builtin .len, args := #[.tmp 33], argTypes := #[24] }, none⟩,
     ⟨some 35, .binOp .lss 3 (.tmp 32) (.tmp 34) 3, none⟩])
  (.cond (.tmp 35)
   (.seq (.reg false [⟨some 4, .assign (.const (.int .i64 (-1))), none⟩])
    .ret)
   .skip))
 (.seq (.reg false [⟨some 4, .assign (.const (.int .i64 0)), none⟩])
 .ret))))⟩
theorem sf69 : sfOf Tryd.f69 = some s69 := by kernel_rfl
theorem hb69 : hasBody Tryd.prog 69 = true := by kernel_rfl
def s72 : SF := ⟨22, [.tmp 6],
 (.seq (.reg false [⟨some 3, .box 45 (.tmp 0), none⟩,
    ⟨some 6, .assign (.const (.bool false)), none⟩])
 (.seq (.reg false [⟨some 7, .move (.tmp 1), none⟩,
    ⟨some 8, .move (.tmp 2), none⟩,
    ⟨some 9, .fieldAddr 45 (.tmp 3) 0, none⟩,
    ⟨some 10, .load 3 (.tmp 9), none⟩,
    ⟨some 11, .fieldAddr 45 (.tmp 3) 1, none⟩,
    ⟨some 12, .load 3 (.tmp 11), none⟩,
    ⟨some 13, .buildSlice 24 2 #[(0, (.tmp 10)), (1, (.tmp 12))], none⟩,
    ⟨some 14, .call { callee := .value (.func 59), args := #[.tmp 7, .tmp 8, .tmp 13], argTypes := #[3, 3, 24] }, none⟩,
    ⟨some 15, .move (.tmp 14), none⟩,
    ⟨some 16, .fieldAddr 45 (.tmp 3) 0, some (15, true)⟩,
    ⟨some 17, .load 3 (.tmp 16), some (15, true)⟩,
    ⟨some 18, .fieldAddr 45 (.tmp 3) 1, some (15, true)⟩,
    ⟨some 19, .load 3 (.tmp 18), some (15, true)⟩,
    ⟨some 20, .binOp .leq 3 (.tmp 17) (.tmp 19) 3, some (15, true)⟩,
    ⟨some 21, .pick (.tmp 15) (.tmp 20) (.const (.bool false)), none⟩,
    ⟨some 6, .assign (.tmp 21), none⟩])
 .ret))⟩
theorem sf72 : sfOf Tryd.f72 = some s72 := by kernel_rfl
theorem hb72 : hasBody Tryd.prog 72 = true := by kernel_rfl
def s73 : SF := ⟨17, [.tmp 5],
 (.seq (.reg false [⟨some 5, .assign (.const (.int .i64 0)), none⟩])
 (.seq (.reg true [⟨some 6, .move (.tmp 0), none⟩,
    ⟨some 7, .move (.tmp 1), none⟩,
    ⟨some 8, .fieldAddr 47 (.tmp 2) 2, none⟩,
    ⟨some 9, .load 3 (.tmp 8), none⟩,
    ⟨some 10, .binOp .mul 3 (.tmp 7) (.tmp 9) 3, none⟩,
    ⟨some 11, .call { callee := .value (.func 74), args := #[.tmp 10], argTypes := #[3] }, none⟩,
    ⟨some 12, .binOp .mul 3 (.tmp 6) (.tmp 11) 3, none⟩,
    ⟨some 13, .fieldAddr 47 (.tmp 2) 3, none⟩,
    ⟨some 14, .load 3 (.tmp 13), none⟩,
    ⟨some 15, .binOp .mul 3 (.tmp 12) (.tmp 14) 3, none⟩,
    ⟨some 16, .binOp .quo 3 (.tmp 15) (.const (.int .i64 100000)) 3, none⟩,
    ⟨some 5, .assign (.tmp 16), none⟩])
 .ret))⟩
theorem sf73 : sfOf Tryd.f73 = some s73 := by kernel_rfl
theorem hb73 : hasBody Tryd.prog 73 = true := by kernel_rfl
def s74 : SF := ⟨7, [.tmp 2],
 (.seq (.reg false [⟨some 1, .box 3 (.tmp 0), none⟩,
    ⟨some 2, .assign (.const (.int .i64 0)), none⟩])
 (.seq (.reg false [⟨some 3, .load 3 (.tmp 1), none⟩,
    ⟨some 4, .binOp .add 3 (.tmp 3) (.const (.int .i64 1)) 3, none⟩,
    ⟨some 5, .makeFunc (.func 98) #[] #[.tmp 1], none⟩,
    ⟨some 6, .call { callee := .value (.func 97), args := #[.tmp 4, .tmp 5], argTypes := #[3, 160] }, none⟩,
    ⟨some 2, .assign (.tmp 6), none⟩])
 .ret))⟩
theorem sf74 : sfOf Tryd.f74 = some s74 := by kernel_rfl
theorem hb74 : hasBody Tryd.prog 74 = true := by kernel_rfl
def s76 : SF := ⟨15, [.tmp 4],
 (.seq (.reg false [⟨some 4, .assign (.const (.int .i64 0)), none⟩])
 (.seq (.reg false [⟨some 5, .assign (.func 99), none⟩])
 (.seq (.block 0 (.seq (.reg false [⟨some 7, .move (.tmp 0), none⟩,
      ⟨some 8, .call { callee := .builtin .len, args := #[.tmp 7], argTypes := #[53] }, none⟩,
      ⟨some 9, .move (.tmp 1), none⟩,
      ⟨some 10, .binOp .gtr 3 (.tmp 8) (.tmp 9) 3, none⟩,
      ⟨some 6, .assign (.tmp 10), none⟩])
   (.cond (.tmp 6)
    (.seq (.reg false [⟨some 4, .assign (.const (.int .i64 5)), none⟩])
     .ret)
    (.seq (.reg false [⟨some 12, .move (.tmp 0), none⟩,
        ⟨some 13, .move (.tmp 5), none⟩,
        ⟨some 14, .call { callee := .value (.func 100), args := #[.tmp 12, .tmp 13], argTypes := #[53, 164] }, none⟩,
        ⟨some 11, .assign (.tmp 14), none⟩])
     (.cond (.tmp 11)
      (.seq (.reg false [⟨some 4, .assign (.const (.int .i64 2)), none⟩])
       .ret)
      .skip)))))
 (.seq (.reg false [⟨some 4, .assign (.const (.int .i64 0)), none⟩])
 .ret))))⟩
theorem sf76 : sfOf Tryd.f76 = some s76 := by kernel_rfl
theorem hb76 : hasBody Tryd.prog 76 = true := by kernel_rfl
def s77 : SF := ⟨4, [.tmp 2],
 (.seq (.reg false [⟨some 1, .box 53 (.tmp 0), none⟩,
    ⟨some 2, .assign (.const .nilFunc), none⟩])
 (.seq (.reg false [⟨some 3, .makeFunc (.func 101) #[] #[.tmp 1], none⟩,
    ⟨some 2, .assign (.tmp 3), none⟩])
 .ret))⟩
theorem sf77 : sfOf Tryd.f77 = some s77 := by kernel_rfl
theorem hb77 : hasBody Tryd.prog 77 = true := by kernel_rfl
def s78 : SF := ⟨76, [.cell 4 138, .tmp 5],
 (.seq (.reg false [⟨some 4, .alloc 138, none⟩,
    ⟨some 5, .assign (.const (.int .i64 0)), none⟩])
 (.seq (.seq (.reg false [⟨some 8, .move (.tmp 0), none⟩,
     ⟨some 9, .call { callee := .builtin .len, args := #[.tmp 8], argTypes := #[54] }, none⟩,
     ⟨some 10, .buildSlice 24 1 #[(0, (.tmp 9))], none⟩,
     ⟨some 11, .call { callee := .value (.func 59), args := #[.const (.int .i64 1), .const (.int .i64 10), .tmp 10], argTypes := #[3, 3, 24] }, none⟩,
     ⟨some 12, .unOp .not 4 (.tmp 11), none⟩,
     ⟨some 13, .move (.tmp 12), none⟩,
     ⟨some 14, .move (.tmp 0), some (13, false)⟩,
     ⟨some 15, .indexAddr 54 (.tmp 14) (.const (.int .i64 0)), some (13, false)⟩,
     ⟨some 16, .fieldAddr 142 (.tmp 15) 0, some (13, false)⟩,
     ⟨some 17, .load 3 (.tmp 16), some (13, false)⟩,
     ⟨some 18, .binOp .neq 3 (.tmp 17) (.const (.int .i64 0)) 3, some (13, false)⟩,
     ⟨some 19, .pick (.tmp 13) (.const (.bool true)) (.tmp 18), none⟩])
  (.cond (.tmp 19)
   (.seq (.reg false [⟨some 20, .load 138 (.tmp 4), none⟩,
       ⟨none, .store 138 (.tmp 4) (.tmp 20), none⟩,
       ⟨some 5, .assign (.const (.int .i64 4)), none⟩])
    .ret)
   .skip))
 (.seq (.seq (.reg false [⟨some 21, .move (.tmp 0), none⟩,
     ⟨some 22, .call { callee := .builtin .len, args := #[.tmp 21], argTypes := #[54] }, none⟩,
     ⟨some 23, .move (.const (.int .i64 0)), none⟩])
  (.block 0 (.loop (.seq (.reg false [⟨some 24, .binOp .lss 3 (.tmp 23) (.tmp 22) 3, none⟩])
    (.seq (.cond (.tmp 24)
      .skip
      (.exit 0))
    (.seq (.block 1 (.seq (.reg false [⟨some 25, .move (.tmp 23), none⟩,
         ⟨some 26, .indexAddr 54 (.tmp 21) (.tmp 23), none⟩,
         ⟨some 27, .load 142 (.tmp 26), none⟩,
         ⟨some 7, .alloc 142, none⟩,
         ⟨some 6, .assign (.tmp 25), none⟩,
         ⟨none, .store 142 (.tmp 7) (.tmp 27), none⟩])
      (.seq (.reg true [⟨some 28, .fieldAddr 142 (.tmp 7) 0, none⟩,
         ⟨some 29, .load 3 (.tmp 28), none⟩,
         ⟨some 30, .buildSlice 24 1 #[(0, (.tmp 29))], none⟩,
         ⟨some 31, .call { callee := .value (.func 59), args := #[.const (.int .i64 0), .const (.int .i64 10000), .tmp 30], argTypes := #[3, 3, 24] }, none⟩,
         ⟨some 32, .unOp .not 4 (.tmp 31), none⟩,
         ⟨some 33, .move (.tmp 32), none⟩,
         ⟨some 34, .fieldAddr 142 (.tmp 7) 1, some (33, false)⟩,
         ⟨some 35, .load 3 (.tmp 34), some (33, false)⟩,
         ⟨some 36, .buildSlice 24 1 #[(0, (.tmp 35))], some (33, false)⟩,
         ⟨some 37, .call { callee := .value (.func 59), args := #[.const (.int .i64 0), .const (.int .i64 1000), .tmp 36], argTypes := #[3, 3, 24] }, some (33, false)⟩,
         ⟨some 38, .unOp .not 4 (.tmp 37), some (33, false)⟩,
         ⟨some 39, .pick (.tmp 33) (.const (.bool true)) (.tmp 38), none⟩,
         ⟨some 40, .move (.tmp 39), none⟩,
         ⟨some 41, .move (.tmp 6), some (40, false)⟩,
         ⟨some 42, .binOp .gtr 3 (.tmp 41) (.const (.int .i64 0)) 3, some (40, false)⟩,
         ⟨some 43, .move (.tmp 42), some (40, false)⟩,
         ⟨some 44, .fieldAddr 142 (.tmp 7) 0, some (43, true)⟩,
         ⟨some 45, .load 3 (.tmp 44), some (43, true)⟩,
         ⟨some 46, .move (.tmp 0), some (43, true)⟩,
         ⟨some 47, .move (.tmp 6), some (43, true)⟩,
         ⟨some 48, .binOp .sub 3 (.tmp 47) (.const (.int .i64 1)) 3, some (43, true)⟩,
         ⟨some 49, .indexAddr 54 (.tmp 46) (.tmp 48), some (43, true)⟩,
         ⟨some 50, .fieldAddr 142 (.tmp 49) 0, some (43, true)⟩,
         ⟨some 51, .load 3 (.tmp 50), some (43, true)⟩,
         ⟨some 52, .binOp .leq 3 (.tmp 45) (.tmp 51) 3, some (43, true)⟩,
         ⟨some 53, .move (.tmp 52), some (43, true)⟩,
         ⟨some 54, .fieldAddr 142 (.tmp 7) 1, some (53, false)⟩,
         ⟨some 55, .load 3 (.tmp 54), some (53, false)⟩,
         ⟨some 56, .move (.tmp 0), some (53, false)⟩,
         ⟨some 57, .move (.tmp 6), some (53, false)⟩,
         ⟨some 58, .binOp .sub 3 (.tmp 57) (.const (.int .i64 1)) 3, some (53, false)⟩,
         ⟨some 59, .indexAddr 54 (.tmp 56) (.tmp 58), some (53, false)⟩,
         ⟨some 60, .fieldAddr 142 (.tmp 59) 1, some (53, false)⟩,
         ⟨some 61, .load 3 (.tmp 60), some (53, false)⟩,
         ⟨some 62, .binOp .gtr 3 (.tmp 55) (.tmp 61) 3, some (53, false)⟩,
         ⟨some 63, .pick (.tmp 53) (.const (.bool true)) (.tmp 62), some (43, true)⟩,
         ⟨some 64, .pick (.tmp 43) (.tmp 63) (.const (.bool false)), some (40, false)⟩,
         ⟨some 65, .pick (.tmp 40) (.const (.bool true)) (.tmp 64), none⟩])
      (.cond (.tmp 65)
       (.seq (.reg false [⟨some 66, .load 138 (.tmp 4), none⟩,
           ⟨none, .store 138 (.tmp 4) (.tmp 66), none⟩,
           ⟨some 5, .assign (.const (.int .i64 4)), none⟩])
        .ret)
       .skip))))
    (.reg false [⟨some 67, .binOp .add 3 (.tmp 23) (.const (.int .i64 1)) 3, none⟩,
      ⟨some 23, .move (.tmp 67), none⟩])))))))
 (.seq (.seq (.reg false [⟨some 68, .move (.tmp 1), none⟩,
     ⟨some 69, .buildSlice 24 1 #[(0, (.tmp 68))], none⟩,
     ⟨some 70, .call { callee := .value (.func 59), args := #[.const (.int .i64 0), .const (.int .i64 10000), .tmp 69], argTypes := #[3, 3, 24] }, none⟩,
     ⟨some 71, .unOp .not 4 (.tmp 70), none⟩])
  (.cond (.tmp 71)
   (.seq (.reg false [⟨some 72, .load 138 (.tmp 4), none⟩,
       ⟨none, .store 138 (.tmp 4) (.tmp 72), none⟩,
       ⟨some 5, .assign (.const (.int .i64 3)), none⟩])
    .ret)
   .skip))
 (.seq (.reg false [⟨some 73, .move (.tmp 0), none⟩,
    ⟨some 74, .move (.tmp 1), none⟩,
    ⟨some 75, .build 138 #[(0, (.tmp 73)), (1, (.tmp 74))], none⟩,
    ⟨none, .store 138 (.tmp 4) (.tmp 75), none⟩,
    ⟨some 5, .assign (.const (.int .i64 0)), none⟩])
 .ret)))))⟩
theorem sf78 : sfOf Tryd.f78 = some s78 := by kernel_rfl
theorem hb78 : hasBody Tryd.prog 78 = true := by kernel_rfl
def s79 : SF := ⟨24, [.cell 4 3, .cell 5 4],
 (.seq (.reg false [⟨some 2, .box 53 (.tmp 0), none⟩,
    ⟨some 3, .box 3 (.tmp 1), none⟩,
    ⟨some 4, .alloc 3, none⟩,
    ⟨some 5, .alloc 4, none⟩])
 (.seq (.seq (.reg false [⟨some 8, .load 53 (.tmp 2), none⟩,
     ⟨some 9, .call { callee := .value (.func 77), args := #[.tmp 8], argTypes := #[53] }, none⟩])
  (.block 0 (.rng (.tmp 9) [10, 11]
    (.seq (.reg false [⟨some 6, .assign (.tmp 10), none⟩])
     (.reg false [⟨some 7, .alloc 45, none⟩,
       ⟨none, .store 45 (.tmp 7) (.tmp 11), none⟩]))
    (.block 1 (.seq (.reg true [⟨some 12, .fieldAddr 45 (.tmp 7) 1, none⟩,
         ⟨some 13, .load 3 (.tmp 12), none⟩,
         ⟨some 14, .load 53 (.tmp 2), none⟩,
         ⟨some 15, .move (.tmp 6), none⟩,
         ⟨some 16, .indexAddr 53 (.tmp 14) (.tmp 15), none⟩,
         ⟨some 17, .load 70 (.tmp 16), none⟩,
         ⟨some 18, .load 3 (.tmp 3), none⟩,
         ⟨some 19, .call { callee := .value (.func 84), args := #[.tmp 17, .tmp 18], argTypes := #[70, 3] }, none⟩,
         ⟨some 20, .binOp .gtr 3 (.tmp 13) (.tmp 19) 3, none⟩])
      (.cond (.tmp 20)
       (.reg false [⟨some 21, .move (.tmp 6), none⟩,
          ⟨none, .store 3 (.tmp 4) (.tmp 21), none⟩,
          ⟨none, .store 4 (.tmp 5) (.const (.bool true)), none⟩])
       .skip))))))
 (.seq (.ord (.op ⟨some 22, .load 3 (.tmp 4), none⟩ (.alt (.op ⟨some 23, .load 4 (.tmp 5), none⟩ (.op ⟨none, .store 3 (.tmp 4) (.tmp 22), none⟩ (.op ⟨none, .store 4 (.tmp 5) (.tmp 23), none⟩ .done)))
 (.op ⟨none, .store 3 (.tmp 4) (.tmp 22), none⟩ (.op ⟨some 23, .load 4 (.tmp 5), none⟩ (.op ⟨none, .store 4 (.tmp 5) (.tmp 23), none⟩ .done))))))
 .ret)))⟩
theorem sf79 : sfOf Tryd.f79 = some s79 := by kernel_rfl
theorem hb79 : hasBody Tryd.prog 79 = true := by kernel_rfl
def s84 : SF := ⟨11, [.tmp 4],
 (.seq (.reg false [⟨some 2, .box 70 (.tmp 0), none⟩,
    ⟨some 4, .assign (.const (.int .i64 0)), none⟩])
 (.seq (.reg false [⟨some 5, .fieldAddr 70 (.tmp 2) 0, none⟩,
    ⟨some 6, .fieldAddr 45 (.tmp 5) 0, none⟩,
    ⟨some 7, .load 3 (.tmp 6), none⟩,
    ⟨some 8, .move (.tmp 1), none⟩,
    ⟨some 9, .binOp .mul 3 (.tmp 7) (.tmp 8) 3, none⟩,
    ⟨some 10, .binOp .quo 3 (.tmp 9) (.const (.int .i64 1000)) 3, none⟩,
    ⟨some 4, .assign (.tmp 10), none⟩])
 .ret))⟩
theorem sf84 : sfOf Tryd.f84 = some s84 := by kernel_rfl
theorem hb84 : hasBody Tryd.prog 84 = true := by kernel_rfl
def s85 : SF := ⟨21, [.tmp 2],
 (.seq (.reg false [⟨some 1, .box 138 (.tmp 0), none⟩,
    ⟨some 2, .assign (.const (.int .i64 0)), none⟩])
 (.seq (.seq (.reg false [⟨some 5, .fieldAddr 138 (.tmp 1) 0, none⟩,
     ⟨some 6, .load 54 (.tmp 5), none⟩,
     ⟨some 7, .call { callee := .builtin .len, args := #[.tmp 6], argTypes := #[54] }, none⟩,
     ⟨some 8, .move (.const (.int .i64 0)), none⟩])
  (.block 0 (.loop (.seq (.reg false [⟨some 9, .binOp .lss 3 (.tmp 8) (.tmp 7) 3, none⟩])
    (.seq (.cond (.tmp 9)
      .skip
      (.exit 0))
    (.seq (.block 1 (.seq (.reg false [⟨some 10, .indexAddr 54 (.tmp 6) (.tmp 8), none⟩,
         ⟨some 11, .load 142 (.tmp 10), none⟩,
         ⟨some 4, .alloc 142, none⟩,
         ⟨none, .store 142 (.tmp 4) (.tmp 11), none⟩])
      (.seq (.reg false [⟨some 12, .fieldAddr 142 (.tmp 4) 0, none⟩,
         ⟨some 13, .load 3 (.tmp 12), none⟩,
         ⟨some 14, .fieldAddr 138 (.tmp 1) 1, none⟩,
         ⟨some 15, .load 3 (.tmp 14), none⟩,
         ⟨some 16, .binOp .leq 3 (.tmp 13) (.tmp 15) 3, none⟩])
      (.cond (.tmp 16)
       (.reg false [⟨some 17, .fieldAddr 142 (.tmp 4) 1, none⟩,
          ⟨some 18, .load 3 (.tmp 17), none⟩,
          ⟨some 2, .assign (.tmp 18), none⟩])
       .skip))))
    (.reg false [⟨some 19, .binOp .add 3 (.tmp 8) (.const (.int .i64 1)) 3, none⟩,
      ⟨some 8, .move (.tmp 19), none⟩])))))))
 (.seq (.reg false [⟨some 20, .move (.tmp 2), none⟩,
    ⟨some 2, .assign (.tmp 20), none⟩])
 .ret)))⟩
theorem sf85 : sfOf Tryd.f85 = some s85 := by kernel_rfl
theorem hb85 : hasBody Tryd.prog 85 = true := by kernel_rfl
def s87 : SF := ⟨31, [.tmp 6, .tmp 7],
 (.seq (.reg false [⟨some 6, .assign (.const (.pointer none)), none⟩,
    ⟨some 7, .assign (.const (.int .i64 0)), none⟩])
 (.seq (.seq (.reg false [⟨some 11, .move (.tmp 0), none⟩,
     ⟨some 12, .call { callee := .value (.func 76), args := #[.tmp 11, .const (.int .i64 10)], argTypes := #[53, 3] }, none⟩,
     ⟨some 8, .assign (.tmp 12), none⟩])
  (.seq (.reg false [⟨some 13, .move (.tmp 8), none⟩,
     ⟨some 14, .binOp .neq 27 (.tmp 13) (.const (.int .i64 0)) 27, none⟩])
  (.cond (.tmp 14)
   (.seq (.reg false [⟨some 15, .move (.tmp 8), none⟩,
       ⟨some 6, .assign (.const (.pointer none)), none⟩,
       ⟨some 7, .assign (.tmp 15), none⟩])
    .ret)
   .skip)))
 (.seq (.reg false [⟨some 17, .move (.tmp 1), none⟩,
    ⟨some 18, .move (.tmp 2), none⟩,
    ⟨some 19, .call { callee := .value (.func 78), args := #[.tmp 17, .tmp 18], argTypes := #[54, 3] }, none⟩,
    ⟨some 16, .move (.tmp 19), none⟩,
    ⟨some 20, .extract (.tmp 16) 0, none⟩,
    ⟨some 21, .extract (.tmp 16) 1, none⟩,
    ⟨some 9, .alloc 138, none⟩,
    ⟨none, .store 138 (.tmp 9) (.tmp 20), none⟩,
    ⟨some 10, .assign (.tmp 21), none⟩])
 (.seq (.seq (.reg false [⟨some 22, .move (.tmp 10), none⟩,
     ⟨some 23, .binOp .neq 27 (.tmp 22) (.const (.int .i64 0)) 27, none⟩])
  (.cond (.tmp 23)
   (.seq (.reg false [⟨some 24, .move (.tmp 10), none⟩,
       ⟨some 6, .assign (.const (.pointer none)), none⟩,
       ⟨some 7, .assign (.tmp 24), none⟩])
    .ret)
   .skip))
 (.seq (.reg false [⟨some 25, .move (.tmp 0), none⟩,
    ⟨some 26, .load 138 (.tmp 9), none⟩,
    ⟨some 27, .call { callee := .value (.func 85), args := #[.tmp 26], argTypes := #[138] }, none⟩,
    ⟨some 28, .makeMap 170 none, none⟩,
    ⟨some 29, .build 172 #[(0, (.tmp 25)), (1, (.tmp 27)), (2, (.tmp 28))], none⟩,
    ⟨some 30, .box 172 (.tmp 29), none⟩,
    ⟨some 6, .assign (.tmp 30), none⟩,
    ⟨some 7, .assign (.const (.int .i64 0)), none⟩])
 .ret)))))⟩
theorem sf87 : sfOf Tryd.f87 = some s87 := by kernel_rfl
theorem hb87 : hasBody Tryd.prog 87 = true := by kernel_rfl
def s88 : SF := ⟨35, [.tmp 4],
 (.seq (.reg false [⟨some 2, .box 151 (.tmp 0), none⟩,
    ⟨some 3, .box 154 (.tmp 1), none⟩,
    ⟨some 4, .assign (.const (.bool false)), none⟩])
 (.seq (.seq (.reg false [⟨some 8, .load 154 (.tmp 3), none⟩,
     ⟨some 9, .binOp .eql 154 (.tmp 8) (.const (.int .u64 0)) 154, none⟩])
  (.cond (.tmp 9)
   (.seq (.reg false [⟨some 4, .assign (.const (.bool true)), none⟩])
    .ret)
   .skip))
 (.seq (.ord (.op ⟨some 11, .load 151 (.tmp 2), none⟩ (.op ⟨some 12, .nilCheck (.tmp 11), none⟩ (.op ⟨some 13, .fieldAddr 172 (.tmp 12) 2, none⟩ (.op ⟨some 14, .load 170 (.tmp 13), none⟩ (.op ⟨some 15, .load 154 (.tmp 3), none⟩ (.op ⟨some 16, .lookup 170 (.tmp 14) (.tmp 15) true, none⟩ (.op ⟨some 10, .move (.tmp 16), none⟩ (.op ⟨some 17, .extract (.tmp 10) 0, none⟩ (.op ⟨some 5, .alloc 4, none⟩ (.alt (.op ⟨some 18, .extract (.tmp 10) 1, none⟩ (.op ⟨none, .store 4 (.tmp 5) (.tmp 17), none⟩ (.op ⟨some 6, .assign (.tmp 18), none⟩ .done)))
 (.op ⟨none, .store 4 (.tmp 5) (.tmp 17), none⟩ (.op ⟨some 18, .extract (.tmp 10) 1, none⟩ (.op ⟨some 6, .assign (.tmp 18), none⟩ .done))))))))))))))
 (.seq (.seq (.reg false [⟨some 19, .move (.tmp 6), none⟩])
  (.cond (.tmp 19)
   (.seq (.reg false [⟨some 20, .load 4 (.tmp 5), none⟩,
       ⟨some 4, .assign (.tmp 20), none⟩])
    .ret)
   .skip))
 (.seq (.seq (.reg false [⟨some 21, .load 154 (.tmp 3), none⟩,
     ⟨some 22, .makeFunc (.func 89) #[.tmp 21] #[], none⟩])
  (.block 0 (.rng (.tmp 22) [23]
    (.reg false [⟨some 7, .assign (.tmp 23), none⟩])
    (.block 1 (.seq (.reg false [⟨some 24, .load 151 (.tmp 2), none⟩,
         ⟨some 25, .move (.tmp 7), none⟩,
         ⟨some 26, .load 154 (.tmp 3), none⟩,
         ⟨some 27, .call { callee := .value (.func 90), args := #[.tmp 24, .tmp 25, .tmp 26], argTypes := #[151, 3, 154] }, none⟩])
      (.cond (.tmp 27)
       (.seq (.reg false [⟨none, .store 4 (.tmp 5) (.const (.bool true)), none⟩])
        (.exit 0))
       .skip))))))
 (.seq (.reg true [⟨some 28, .load 151 (.tmp 2), none⟩,
    ⟨some 29, .nilCheck (.tmp 28), none⟩,
    ⟨some 30, .fieldAddr 172 (.tmp 29) 2, none⟩,
    ⟨some 31, .load 170 (.tmp 30), none⟩,
    ⟨some 32, .load 154 (.tmp 3), none⟩,
    ⟨some 33, .load 4 (.tmp 5), none⟩,
    ⟨none, .mapUpdate 170 (.tmp 31) (.tmp 32) (.tmp 33), none⟩])
 (.seq (.reg false [⟨some 34, .load 4 (.tmp 5), none⟩,
    ⟨some 4, .assign (.tmp 34), none⟩])
 .ret)))))))⟩
theorem sf88 : sfOf Tryd.f88 = some s88 := by kernel_rfl
theorem hb88 : hasBody Tryd.prog 88 = true := by kernel_rfl
def s89 : SF := ⟨15, [],
 (.block 0 (.loop (.seq (.seq (.reg false [⟨some 4, .move (.tmp 0), none⟩,
       ⟨some 5, .binOp .neq 154 (.tmp 4) (.const (.int .u64 0)) 154, none⟩])
    (.cond (.tmp 5)
     .skip
     (.exit 0)))
   (.seq (.block 1 (.seq (.reg false [⟨some 10, .move (.tmp 1), none⟩,
        ⟨some 11, .move (.tmp 0), none⟩,
        ⟨some 12, .call { callee := .value (.func 103), args := #[.tmp 11], argTypes := #[96] }, none⟩,
        ⟨some 13, .call { callee := .value (.tmp 10), args := #[.tmp 12], argTypes := #[3] }, none⟩,
        ⟨some 14, .unOp .not 4 (.tmp 13), none⟩])
     (.cond (.tmp 14)
      .ret
      .skip)))
   (.reg false [⟨some 6, .move (.tmp 0), none⟩,
     ⟨some 7, .move (.tmp 0), none⟩,
     ⟨some 8, .binOp .sub 154 (.tmp 7) (.const (.int .u64 1)) 154, none⟩,
     ⟨some 9, .binOp .and 154 (.tmp 6) (.tmp 8) 154, none⟩,
     ⟨some 0, .assign (.tmp 9), none⟩])))))⟩
theorem sf89 : sfOf Tryd.f89 = some s89 := by kernel_rfl
theorem hb89 : hasBody Tryd.prog 89 = true := by kernel_rfl
def s90 : SF := ⟨33, [.tmp 6],
 (.seq (.reg false [⟨some 6, .assign (.const (.bool false)), none⟩])
 (.seq (.reg false [⟨some 8, .move (.tmp 2), none⟩,
    ⟨some 9, .move (.tmp 1), none⟩,
    ⟨some 10, .binOp .shl 154 (.const (.int .u64 1)) (.tmp 9) 3, none⟩,
    ⟨some 11, .binOp .andNot 154 (.tmp 8) (.tmp 10) 154, none⟩,
    ⟨some 7, .assign (.tmp 11), none⟩])
 (.seq (.regL [⟨some 12, .move (.tmp 0), none⟩,
    ⟨some 13, .nilCheck (.tmp 12), none⟩,
    ⟨some 14, .fieldAddr 172 (.tmp 13) 0, none⟩,
    ⟨some 15, .load 53 (.tmp 14), none⟩,
    ⟨some 16, .move (.tmp 1), none⟩,
    ⟨some 17, .indexAddr 53 (.tmp 15) (.tmp 16), none⟩,
    ⟨some 18, .load 70 (.tmp 17), none⟩,
    ⟨some 19, .move (.tmp 0), none⟩,
    ⟨some 20, .nilCheck (.tmp 19), none⟩,
    ⟨some 21, .fieldAddr 172 (.tmp 20) 1, none⟩,
    ⟨some 22, .load 3 (.tmp 21), none⟩,
    ⟨some 23, .call { callee := .value (.func 84), args := #[.tmp 18, .tmp 22], argTypes := #[70, 3] }, none⟩,
    ⟨some 24, .move (.tmp 0), none⟩,
    ⟨some 25, .move (.tmp 7), none⟩,
    ⟨some 26, .call { callee := .value (.func 104), args := #[.tmp 24, .tmp 25], argTypes := #[151, 154] }, none⟩,
    ⟨some 27, .binOp .geq 3 (.tmp 23) (.tmp 26) 3, none⟩,
    ⟨some 28, .move (.tmp 27), none⟩,
    ⟨some 29, .move (.tmp 0), some (28, true)⟩,
    ⟨some 30, .move (.tmp 7), some (28, true)⟩]
  ⟨some 31, .call { callee := .value (.func 88), args := #[.tmp 29, .tmp 30], argTypes := #[151, 154] }, some (28, true)⟩
  [⟨some 32, .pick (.tmp 28) (.tmp 31) (.const (.bool false)), none⟩,
    ⟨some 6, .assign (.tmp 32), none⟩])
 .ret)))⟩
theorem sf90 : sfOf Tryd.f90 = some s90 := by kernel_rfl
theorem hb90 : hasBody Tryd.prog 90 = true := by kernel_rfl
def s91 : SF := ⟨5, [.tmp 2],
 (.seq (.reg false [⟨some 2, .assign (.const (.slice none 0 0)), none⟩])
 (.seq (.reg false [⟨some 3, .move (.tmp 0), none⟩,
    ⟨some 4, .call { callee := .value (.func 105), args := #[.const (.slice none 0 0), .tmp 3], argTypes := #[24, 176] }, none⟩,
    ⟨some 2, .assign (.tmp 4), none⟩])
 .ret))⟩
theorem sf91 : sfOf Tryd.f91 = some s91 := by kernel_rfl
theorem hb91 : hasBody Tryd.prog 91 = true := by kernel_rfl
def s92 : SF := ⟨9, [.tmp 4],
 (.seq (.reg false [⟨some 4, .assign (.const (.bool false)), none⟩])
 (.seq (.reg false [⟨some 5, .move (.tmp 0), none⟩,
    ⟨some 6, .move (.tmp 1), none⟩,
    ⟨some 7, .call { callee := .value (.func 106), args := #[.tmp 5, .tmp 6], argTypes := #[24, 160] }, none⟩,
    ⟨some 8, .binOp .geq 3 (.tmp 7) (.const (.int .i64 0)) 3, none⟩,
    ⟨some 4, .assign (.tmp 8), none⟩])
 .ret))⟩
theorem sf92 : sfOf Tryd.f92 = some s92 := by kernel_rfl
theorem hb92 : hasBody Tryd.prog 92 = true := by kernel_rfl
def s93 : SF := ⟨13, [.tmp 4],
 (.seq (.reg false [⟨some 4, .assign (.const (.bool false)), none⟩])
 (.seq (.reg false [⟨some 5, .move (.tmp 0), none⟩,
    ⟨some 6, .load 3 (.tmp 1), none⟩,
    ⟨some 7, .binOp .lss 3 (.tmp 5) (.tmp 6) 3, none⟩,
    ⟨some 8, .move (.tmp 7), none⟩,
    ⟨some 9, .move (.tmp 0), some (8, false)⟩,
    ⟨some 10, .load 3 (.tmp 2), some (8, false)⟩,
    ⟨some 11, .binOp .gtr 3 (.tmp 9) (.tmp 10) 3, some (8, false)⟩,
    ⟨some 12, .pick (.tmp 8) (.const (.bool true)) (.tmp 11), none⟩,
    ⟨some 4, .assign (.tmp 12), none⟩])
 .ret))⟩
theorem sf93 : sfOf Tryd.f93 = some s93 := by kernel_rfl
theorem hb93 : hasBody Tryd.prog 93 = true := by kernel_rfl
def s94 : SF := ⟨33, [.cell 4 123],
 (.seq (.reg false [⟨some 2, .box 123 (.tmp 0), none⟩,
    ⟨some 4, .alloc 123, none⟩])
 (.seq (.reg false [⟨some 6, .fieldAddr 123 (.tmp 2) 1, none⟩,
    ⟨some 7, .load 119 (.tmp 6), none⟩,
    ⟨some 8, .move (.tmp 1), none⟩,
    ⟨some 9, .call { callee := .value (.func 65), args := #[.tmp 7, .tmp 8], argTypes := #[119, 3] }, none⟩,
    ⟨some 5, .alloc 45, none⟩,
    ⟨none, .store 45 (.tmp 5) (.tmp 9), none⟩])
 (.seq (.reg false [⟨some 10, .fieldAddr 123 (.tmp 2) 2, none⟩,
    ⟨some 11, .load 3 (.tmp 10), none⟩,
    ⟨some 12, .binOp .add 3 (.tmp 11) (.const (.int .i64 1)) 3, none⟩,
    ⟨some 13, .fieldAddr 123 (.tmp 2) 2, none⟩,
    ⟨none, .store 3 (.tmp 13) (.tmp 12), none⟩])
 (.seq (.reg true [⟨some 14, .fieldAddr 123 (.tmp 2) 3, none⟩,
    ⟨some 15, .load 121 (.tmp 14), none⟩,
    ⟨some 16, .fieldAddr 45 (.tmp 5) 0, none⟩,
    ⟨some 17, .load 3 (.tmp 16), none⟩,
    ⟨some 18, .fieldAddr 123 (.tmp 2) 0, none⟩,
    ⟨some 19, .fieldAddr 23 (.tmp 18) 2, none⟩,
    ⟨some 20, .load 3 (.tmp 19), none⟩,
    ⟨some 21, .call { callee := .value (.func 107), args := #[.tmp 15, .tmp 17, .tmp 20], argTypes := #[121, 3, 3] }, none⟩,
    ⟨some 22, .fieldAddr 123 (.tmp 2) 4, none⟩,
    ⟨some 23, .load 121 (.tmp 22), none⟩,
    ⟨some 24, .fieldAddr 45 (.tmp 5) 1, none⟩,
    ⟨some 25, .load 3 (.tmp 24), none⟩,
    ⟨some 26, .fieldAddr 123 (.tmp 2) 0, none⟩,
    ⟨some 27, .fieldAddr 23 (.tmp 26) 2, none⟩,
    ⟨some 28, .load 3 (.tmp 27), none⟩,
    ⟨some 29, .call { callee := .value (.func 107), args := #[.tmp 23, .tmp 25, .tmp 28], argTypes := #[121, 3, 3] }, none⟩,
    ⟨some 30, .fieldAddr 123 (.tmp 2) 3, none⟩,
    ⟨none, .store 121 (.tmp 30) (.tmp 21), none⟩,
    ⟨some 31, .fieldAddr 123 (.tmp 2) 4, none⟩,
    ⟨none, .store 121 (.tmp 31) (.tmp 29), none⟩])
 (.seq (.reg false [⟨some 32, .load 123 (.tmp 2), none⟩,
    ⟨none, .store 123 (.tmp 4) (.tmp 32), none⟩])
 .ret)))))⟩
theorem sf94 : sfOf Tryd.f94 = some s94 := by kernel_rfl
theorem hb94 : hasBody Tryd.prog 94 = true := by kernel_rfl
def s95 : SF := ⟨40, [.tmp 6],
 (.seq (.reg false [⟨some 3, .box 123 (.tmp 0), none⟩,
    ⟨some 4, .box 121 (.tmp 1), none⟩,
    ⟨some 6, .assign (.const (.bool false)), none⟩])
 (.seq (.seq (.reg false [⟨some 7, .fieldAddr 123 (.tmp 3) 0, none⟩,
     ⟨some 8, .fieldAddr 23 (.tmp 7) 0, none⟩,
     ⟨some 9, .load 3 (.tmp 8), none⟩,
     ⟨some 10, .fieldAddr 123 (.tmp 3) 2, none⟩,
     ⟨some 11, .load 3 (.tmp 10), none⟩,
     ⟨some 12, .binOp .sub 3 (.tmp 9) (.tmp 11) 3, none⟩,
     ⟨some 13, .move (.const (.int .i64 0)), none⟩])
  (.block 0 (.loop (.seq (.reg false [⟨some 14, .binOp .lss 3 (.tmp 13) (.tmp 12) 3, none⟩])
    (.seq (.cond (.tmp 14)
      .skip
      (.exit 0))
    (.seq (.block 1 (.reg false [⟨some 15, .load 121 (.tmp 4), none⟩,
        ⟨some 16, .move (.tmp 2), none⟩,
        ⟨some 17, .fieldAddr 123 (.tmp 3) 0, none⟩,
        ⟨some 18, .fieldAddr 23 (.tmp 17) 2, none⟩,
        ⟨some 19, .load 3 (.tmp 18), none⟩,
        ⟨some 20, .call { callee := .value (.func 107), args := #[.tmp 15, .tmp 16, .tmp 19], argTypes := #[121, 3, 3] }, none⟩,
        ⟨none, .store 121 (.tmp 4) (.tmp 20), none⟩]))
    (.reg false [⟨some 21, .binOp .add 3 (.tmp 13) (.const (.int .i64 1)) 3, none⟩,
      ⟨some 13, .move (.tmp 21), none⟩])))))))
 (.seq (.reg false [⟨some 22, .fieldAddr 121 (.tmp 4) 0, none⟩,
    ⟨some 23, .load 3 (.tmp 22), none⟩,
    ⟨some 24, .fieldAddr 123 (.tmp 3) 0, none⟩,
    ⟨some 25, .fieldAddr 23 (.tmp 24) 0, none⟩,
    ⟨some 26, .load 3 (.tmp 25), none⟩,
    ⟨some 27, .fieldAddr 123 (.tmp 3) 0, none⟩,
    ⟨some 28, .fieldAddr 23 (.tmp 27) 1, none⟩,
    ⟨some 29, .load 3 (.tmp 28), none⟩,
    ⟨some 30, .binOp .mul 3 (.tmp 26) (.tmp 29) 3, none⟩,
    ⟨some 31, .binOp .geq 3 (.tmp 23) (.tmp 30) 3, none⟩,
    ⟨some 32, .move (.tmp 31), none⟩,
    ⟨some 33, .fieldAddr 121 (.tmp 4) 1, some (32, true)⟩,
    ⟨some 34, .load 3 (.tmp 33), some (32, true)⟩,
    ⟨some 35, .fieldAddr 123 (.tmp 3) 0, some (32, true)⟩,
    ⟨some 36, .fieldAddr 23 (.tmp 35) 3, some (32, true)⟩,
    ⟨some 37, .load 3 (.tmp 36), some (32, true)⟩,
    ⟨some 38, .binOp .leq 3 (.tmp 34) (.tmp 37) 3, some (32, true)⟩,
    ⟨some 39, .pick (.tmp 32) (.tmp 38) (.const (.bool false)), none⟩,
    ⟨some 6, .assign (.tmp 39), none⟩])
 .ret)))⟩
theorem sf95 : sfOf Tryd.f95 = some s95 := by kernel_rfl
theorem hb95 : hasBody Tryd.prog 95 = true := by kernel_rfl
def s96 : SF := ⟨6, [.tmp 2],
 (.seq (.reg false [⟨some 2, .assign (.const (.bool false)), none⟩])
 (.seq (.reg false [⟨some 3, .move (.tmp 0), none⟩,
    ⟨some 4, .move (.tmp 0), none⟩,
    ⟨some 5, .binOp .neq 3 (.tmp 3) (.tmp 4) 3, none⟩,
    ⟨some 2, .assign (.tmp 5), none⟩])
 .ret))⟩
theorem sf96 : sfOf Tryd.f96 = some s96 := by kernel_rfl
theorem hb96 : hasBody Tryd.prog 96 = true := by kernel_rfl
def s97 : SF := ⟨26, [.tmp 4],
 (.seq (.reg false [⟨some 4, .assign (.const (.int .i64 0)), none⟩])
 (.seq (.reg false [⟨some 8, .move (.tmp 0), none⟩,
    ⟨some 5, .assign (.const (.int .i64 0)), none⟩,
    ⟨some 6, .assign (.tmp 8), none⟩])
 (.seq (.block 0 (.loop (.seq (.seq (.reg false [⟨some 9, .move (.tmp 5), none⟩,
        ⟨some 10, .move (.tmp 6), none⟩,
        ⟨some 11, .binOp .lss 3 (.tmp 9) (.tmp 10) 3, none⟩])
     (.cond (.tmp 11)
      .skip
      (.exit 0)))
    (.block 1 (.seq (.reg false [⟨some 12, .move (.tmp 5), none⟩,
        ⟨some 13, .move (.tmp 6), none⟩,
        ⟨some 14, .binOp .add 3 (.tmp 12) (.tmp 13) 3, none⟩,
        ⟨some 15, .convert 3 96 (.tmp 14), none⟩,
        ⟨some 16, .binOp .shr 96 (.tmp 15) (.const (.int .u64 1)) 96, none⟩,
        ⟨some 17, .convert 96 3 (.tmp 16), none⟩,
        ⟨some 7, .assign (.tmp 17), none⟩])
     (.seq (.reg false [⟨some 18, .move (.tmp 1), none⟩,
        ⟨some 19, .move (.tmp 7), none⟩,
        ⟨some 20, .call { callee := .value (.tmp 18), args := #[.tmp 19], argTypes := #[3] }, none⟩,
        ⟨some 21, .unOp .not 4 (.tmp 20), none⟩])
     (.cond (.tmp 21)
      (.reg false [⟨some 22, .move (.tmp 7), none⟩,
         ⟨some 23, .binOp .add 3 (.tmp 22) (.const (.int .i64 1)) 3, none⟩,
         ⟨some 5, .assign (.tmp 23), none⟩])
      (.reg false [⟨some 24, .move (.tmp 7), none⟩,
         ⟨some 6, .assign (.tmp 24), none⟩]))))))))
 (.seq (.reg false [⟨some 25, .move (.tmp 5), none⟩,
    ⟨some 4, .assign (.tmp 25), none⟩])
 .ret))))⟩
theorem sf97 : sfOf Tryd.f97 = some s97 := by kernel_rfl
theorem hb97 : hasBody Tryd.prog 97 = true := by kernel_rfl
def s98 : SF := ⟨11, [.tmp 3],
 (.seq (.reg false [⟨some 3, .assign (.const (.bool false)), none⟩])
 (.seq (.reg false [⟨some 4, .move (.tmp 0), none⟩,
    ⟨some 5, .binOp .add 3 (.tmp 4) (.const (.int .i64 1)) 3, none⟩,
    ⟨some 6, .move (.tmp 0), none⟩,
    ⟨some 7, .binOp .add 3 (.tmp 6) (.const (.int .i64 1)) 3, none⟩,
    ⟨some 8, .binOp .mul 3 (.tmp 5) (.tmp 7) 3, none⟩,
    ⟨some 9, .load 3 (.tmp 1), none⟩,
    ⟨some 10, .binOp .gtr 3 (.tmp 8) (.tmp 9) 3, none⟩,
    ⟨some 3, .assign (.tmp 10), none⟩])
 .ret))⟩
theorem sf98 : sfOf Tryd.f98 = some s98 := by kernel_rfl
theorem hb98 : hasBody Tryd.prog 98 = true := by kernel_rfl
def s99 : SF := ⟨13, [.tmp 2],
 (.seq (.reg false [⟨some 1, .box 70 (.tmp 0), none⟩,
    ⟨some 2, .assign (.const (.bool false)), none⟩])
 (.seq (.reg false [⟨some 3, .fieldAddr 70 (.tmp 1) 0, none⟩,
    ⟨some 4, .load 45 (.tmp 3), none⟩,
    ⟨some 5, .call { callee := .value (.func 72), args := #[.tmp 4, .const (.int .i64 0), .const (.int .i64 20000000)], argTypes := #[45, 3, 3] }, none⟩,
    ⟨some 6, .unOp .not 4 (.tmp 5), none⟩,
    ⟨some 7, .move (.tmp 6), none⟩,
    ⟨some 8, .fieldAddr 70 (.tmp 1) 1, some (7, false)⟩,
    ⟨some 9, .load 45 (.tmp 8), some (7, false)⟩,
    ⟨some 10, .call { callee := .value (.func 72), args := #[.tmp 9, .const (.int .i64 0), .const (.int .i64 100000)], argTypes := #[45, 3, 3] }, some (7, false)⟩,
    ⟨some 11, .unOp .not 4 (.tmp 10), some (7, false)⟩,
    ⟨some 12, .pick (.tmp 7) (.const (.bool true)) (.tmp 11), none⟩,
    ⟨some 2, .assign (.tmp 12), none⟩])
 .ret))⟩
theorem sf99 : sfOf Tryd.f99 = some s99 := by kernel_rfl
theorem hb99 : hasBody Tryd.prog 99 = true := by kernel_rfl
def s100 : SF := ⟨9, [.tmp 4],
 (.seq (.reg false [⟨some 4, .assign (.const (.bool false)), none⟩])
 (.seq (.reg false [⟨some 5, .move (.tmp 0), none⟩,
    ⟨some 6, .move (.tmp 1), none⟩,
    ⟨some 7, .call { callee := .value (.func 108), args := #[.tmp 5, .tmp 6], argTypes := #[53, 164] }, none⟩,
    ⟨some 8, .binOp .geq 3 (.tmp 7) (.const (.int .i64 0)) 3, none⟩,
    ⟨some 4, .assign (.tmp 8), none⟩])
 .ret))⟩
theorem sf100 : sfOf Tryd.f100 = some s100 := by kernel_rfl
theorem hb100 : hasBody Tryd.prog 100 = true := by kernel_rfl
def s101 : SF := ⟨28, [],
 (.seq (.reg false [⟨some 2, .box 166 (.tmp 0), none⟩])
 (.seq (.reg false [⟨some 3, .alloc 45, none⟩])
 (.seq (.reg false [⟨some 6, .load 53 (.tmp 1), none⟩,
    ⟨some 7, .call { callee := .value (.func 102), args := #[.tmp 6], argTypes := #[53] }, none⟩])
 (.block 0 (.rng (.tmp 7) [8, 9]
   (.seq (.reg false [⟨some 4, .assign (.tmp 8), none⟩])
    (.reg false [⟨some 5, .alloc 70, none⟩,
      ⟨none, .store 70 (.tmp 5) (.tmp 9), none⟩]))
   (.block 1 (.seq (.seq (.reg false [⟨some 10, .load 166 (.tmp 2), none⟩,
         ⟨some 11, .move (.tmp 4), none⟩,
         ⟨some 12, .load 45 (.tmp 3), none⟩,
         ⟨some 13, .call { callee := .value (.tmp 10), args := #[.tmp 11, .tmp 12], argTypes := #[3, 45] }, none⟩,
         ⟨some 14, .unOp .not 4 (.tmp 13), none⟩])
      (.cond (.tmp 14)
       .ret
       .skip))
     (.reg false [⟨some 15, .fieldAddr 45 (.tmp 3) 0, none⟩,
       ⟨some 16, .load 3 (.tmp 15), none⟩,
       ⟨some 17, .fieldAddr 70 (.tmp 5) 1, none⟩,
       ⟨some 18, .fieldAddr 45 (.tmp 17) 0, none⟩,
       ⟨some 19, .load 3 (.tmp 18), none⟩,
       ⟨some 20, .binOp .add 3 (.tmp 16) (.tmp 19) 3, none⟩,
       ⟨some 21, .fieldAddr 45 (.tmp 3) 1, none⟩,
       ⟨some 22, .load 3 (.tmp 21), none⟩,
       ⟨some 23, .fieldAddr 70 (.tmp 5) 1, none⟩,
       ⟨some 24, .fieldAddr 45 (.tmp 23) 1, none⟩,
       ⟨some 25, .load 3 (.tmp 24), none⟩,
       ⟨some 26, .binOp .add 3 (.tmp 22) (.tmp 25) 3, none⟩,
       ⟨some 27, .build 45 #[(0, (.tmp 20)), (1, (.tmp 26))], none⟩,
       ⟨none, .store 45 (.tmp 3) (.tmp 27), none⟩]))))))))⟩
theorem sf101 : sfOf Tryd.f101 = some s101 := by kernel_rfl
theorem hb101 : hasBody Tryd.prog 101 = true := by kernel_rfl
def s102 : SF := ⟨4, [.tmp 2],
 (.seq (.reg false [⟨some 1, .box 53 (.tmp 0), none⟩,
    ⟨some 2, .assign (.const .nilFunc), none⟩])
 (.seq (.reg false [⟨some 3, .makeFunc (.func 109) #[] #[.tmp 1], none⟩,
    ⟨some 2, .assign (.tmp 3), none⟩])
 .ret))⟩
theorem sf102 : sfOf Tryd.f102 = some s102 := by kernel_rfl
theorem hb102 : hasBody Tryd.prog 102 = true := by kernel_rfl
def s103 : SF := ⟨8, [.tmp 2],
 (.seq (.reg false [⟨some 2, .assign (.const (.int .i64 0)), none⟩])
 (.seq (.cond (.const (.bool false))
   (.seq (.reg false [⟨some 3, .move (.tmp 0), none⟩,
       ⟨some 4, .convert 96 183 (.tmp 3), none⟩,
       ⟨some 5, .call { callee := .value (.func 110), args := #[.tmp 4], argTypes := #[183] }, none⟩,
       ⟨some 2, .assign (.tmp 5), none⟩])
    .ret)
   .skip)
 (.seq (.reg false [⟨some 6, .move (.tmp 0), none⟩,
    ⟨some 7, .call { callee := .value (.func 111), args := #[.tmp 6], argTypes := #[185] }, none⟩,
    ⟨some 2, .assign (.tmp 7), none⟩])
 .ret)))⟩
theorem sf103 : sfOf Tryd.f103 = some s103 := by kernel_rfl
theorem hb103 : hasBody Tryd.prog 103 = true := by kernel_rfl
def s104 : SF := ⟨21, [.cell 4 3],
 (.seq (.reg false [⟨some 2, .box 151 (.tmp 0), none⟩,
    ⟨some 4, .alloc 3, none⟩])
 (.seq (.seq (.reg false [⟨some 6, .move (.tmp 1), none⟩,
     ⟨some 7, .makeFunc (.func 89) #[.tmp 6] #[], none⟩])
  (.block 0 (.rng (.tmp 7) [8]
    (.reg false [⟨some 5, .assign (.tmp 8), none⟩])
    (.block 1 (.reg true [⟨some 9, .load 3 (.tmp 4), none⟩,
        ⟨some 10, .load 151 (.tmp 2), none⟩,
        ⟨some 11, .nilCheck (.tmp 10), none⟩,
        ⟨some 12, .fieldAddr 172 (.tmp 11) 0, none⟩,
        ⟨some 13, .load 53 (.tmp 12), none⟩,
        ⟨some 14, .move (.tmp 5), none⟩,
        ⟨some 15, .indexAddr 53 (.tmp 13) (.tmp 14), none⟩,
        ⟨some 16, .fieldAddr 70 (.tmp 15) 1, none⟩,
        ⟨some 17, .fieldAddr 45 (.tmp 16) 1, none⟩,
        ⟨some 18, .load 3 (.tmp 17), none⟩,
        ⟨some 19, .binOp .add 3 (.tmp 9) (.tmp 18) 3, none⟩,
        ⟨none, .store 3 (.tmp 4) (.tmp 19), none⟩])))))
 (.seq (.reg false [⟨some 20, .load 3 (.tmp 4), none⟩,
    ⟨none, .store 3 (.tmp 4) (.tmp 20), none⟩])
 .ret)))⟩
theorem sf104 : sfOf Tryd.f104 = some s104 := by kernel_rfl
theorem hb104 : hasBody Tryd.prog 104 = true := by kernel_rfl
def s105 : SF := ⟨13, [.tmp 4],
 (.seq (.reg false [⟨some 2, .box 24 (.tmp 0), none⟩,
    ⟨some 4, .assign (.const (.slice none 0 0)), none⟩])
 (.seq (.seq (.reg false [⟨some 6, .move (.tmp 1), none⟩])
  (.block 0 (.rng (.tmp 6) [7]
    (.reg false [⟨some 5, .assign (.tmp 7), none⟩])
    (.block 1 (.reg false [⟨some 8, .load 24 (.tmp 2), none⟩,
        ⟨some 9, .move (.tmp 5), none⟩,
        ⟨some 10, .buildSlice 24 1 #[(0, (.tmp 9))], none⟩,
        ⟨some 11, .call { callee := .builtin .append, args := #[.tmp 8, .tmp 10], argTypes := #[24, 24] }, none⟩,
        ⟨none, .store 24 (.tmp 2) (.tmp 11), none⟩])))))
 (.seq (.reg false [⟨some 12, .load 24 (.tmp 2), none⟩,
    ⟨some 4, .assign (.tmp 12), none⟩])
 .ret)))⟩
theorem sf105 : sfOf Tryd.f105 = some s105 := by kernel_rfl
theorem hb105 : hasBody Tryd.prog 105 = true := by kernel_rfl
def s106 : SF := ⟨19, [.tmp 4],
 (.seq (.reg false [⟨some 4, .assign (.const (.int .i64 0)), none⟩])
 (.seq (.seq (.reg false [⟨some 6, .move (.tmp 0), none⟩,
     ⟨some 7, .call { callee := .builtin .len, args := #[.tmp 6], argTypes := #[24] }, none⟩,
     ⟨some 8, .move (.const (.int .i64 0)), none⟩])
  (.block 0 (.loop (.seq (.reg false [⟨some 9, .binOp .lss 3 (.tmp 8) (.tmp 7) 3, none⟩])
    (.seq (.cond (.tmp 9)
      .skip
      (.exit 0))
    (.seq (.block 1 (.seq (.reg false [⟨some 10, .move (.tmp 8), none⟩,
         ⟨some 5, .assign (.tmp 10), none⟩])
      (.seq (.reg false [⟨some 11, .move (.tmp 1), none⟩,
         ⟨some 12, .move (.tmp 0), none⟩,
         ⟨some 13, .move (.tmp 5), none⟩,
         ⟨some 14, .indexAddr 24 (.tmp 12) (.tmp 13), none⟩,
         ⟨some 15, .load 3 (.tmp 14), none⟩,
         ⟨some 16, .call { callee := .value (.tmp 11), args := #[.tmp 15], argTypes := #[3] }, none⟩])
      (.cond (.tmp 16)
       (.seq (.reg false [⟨some 17, .move (.tmp 5), none⟩,
           ⟨some 4, .assign (.tmp 17), none⟩])
        .ret)
       .skip))))
    (.reg false [⟨some 18, .binOp .add 3 (.tmp 8) (.const (.int .i64 1)) 3, none⟩,
      ⟨some 8, .move (.tmp 18), none⟩])))))))
 (.seq (.reg false [⟨some 4, .assign (.const (.int .i64 (-1))), none⟩])
 .ret)))⟩
theorem sf106 : sfOf Tryd.f106 = some s106 := by kernel_rfl
theorem hb106 : hasBody Tryd.prog 106 = true := by kernel_rfl
def s107 : SF := ⟨20, [.cell 6 121],
 (.seq (.reg false [⟨some 3, .box 121 (.tmp 0), none⟩,
    ⟨some 6, .alloc 121, none⟩])
 (.seq (.reg false [⟨some 7, .fieldAddr 121 (.tmp 3) 0, none⟩,
    ⟨some 8, .load 3 (.tmp 7), none⟩,
    ⟨some 9, .move (.tmp 1), none⟩,
    ⟨some 10, .binOp .add 3 (.tmp 8) (.tmp 9) 3, none⟩,
    ⟨some 11, .fieldAddr 121 (.tmp 3) 0, none⟩,
    ⟨none, .store 3 (.tmp 11) (.tmp 10), none⟩])
 (.seq (.seq (.reg false [⟨some 12, .move (.tmp 1), none⟩,
     ⟨some 13, .move (.tmp 2), none⟩,
     ⟨some 14, .binOp .lss 3 (.tmp 12) (.tmp 13) 3, none⟩])
  (.cond (.tmp 14)
   (.reg false [⟨some 15, .fieldAddr 121 (.tmp 3) 1, none⟩,
      ⟨some 16, .load 3 (.tmp 15), none⟩,
      ⟨some 17, .binOp .add 3 (.tmp 16) (.const (.int .i64 1)) 3, none⟩,
      ⟨some 18, .fieldAddr 121 (.tmp 3) 1, none⟩,
      ⟨none, .store 3 (.tmp 18) (.tmp 17), none⟩])
   .skip))
 (.seq (.reg false [⟨some 19, .load 121 (.tmp 3), none⟩,
    ⟨none, .store 121 (.tmp 6) (.tmp 19), none⟩])
 .ret))))⟩
theorem sf107 : sfOf Tryd.f107 = some s107 := by kernel_rfl
theorem hb107 : hasBody Tryd.prog 107 = true := by kernel_rfl
def s108 : SF := ⟨19, [.tmp 4],
 (.seq (.reg false [⟨some 4, .assign (.const (.int .i64 0)), none⟩])
 (.seq (.seq (.reg false [⟨some 6, .move (.tmp 0), none⟩,
     ⟨some 7, .call { callee := .builtin .len, args := #[.tmp 6], argTypes := #[53] }, none⟩,
     ⟨some 8, .move (.const (.int .i64 0)), none⟩])
  (.block 0 (.loop (.seq (.reg false [⟨some 9, .binOp .lss 3 (.tmp 8) (.tmp 7) 3, none⟩])
    (.seq (.cond (.tmp 9)
      .skip
      (.exit 0))
    (.seq (.block 1 (.seq (.reg false [⟨some 10, .move (.tmp 8), none⟩,
         ⟨some 5, .assign (.tmp 10), none⟩])
      (.seq (.reg false [⟨some 11, .move (.tmp 1), none⟩,
         ⟨some 12, .move (.tmp 0), none⟩,
         ⟨some 13, .move (.tmp 5), none⟩,
         ⟨some 14, .indexAddr 53 (.tmp 12) (.tmp 13), none⟩,
         ⟨some 15, .load 70 (.tmp 14), none⟩,
         ⟨some 16, .call { callee := .value (.tmp 11), args := #[.tmp 15], argTypes := #[70] }, none⟩])
      (.cond (.tmp 16)
       (.seq (.reg false [⟨some 17, .move (.tmp 5), none⟩,
           ⟨some 4, .assign (.tmp 17), none⟩])
        .ret)
       .skip))))
    (.reg false [⟨some 18, .binOp .add 3 (.tmp 8) (.const (.int .i64 1)) 3, none⟩,
      ⟨some 8, .move (.tmp 18), none⟩])))))))
 (.seq (.reg false [⟨some 4, .assign (.const (.int .i64 (-1))), none⟩])
 .ret)))⟩
theorem sf108 : sfOf Tryd.f108 = some s108 := by kernel_rfl
theorem hb108 : hasBody Tryd.prog 108 = true := by kernel_rfl
end Go.Dw.Seat
end
section
namespace Go.Dw.Seat
open Go Go.Dw Go.Proofs
def s109 : SF := ⟨19, [],
 (.seq (.reg false [⟨some 4, .load 53 (.tmp 1), none⟩,
    ⟨some 5, .call { callee := .builtin .len, args := #[.tmp 4], argTypes := #[53] }, none⟩,
    ⟨some 6, .binOp .sub 3 (.tmp 5) (.const (.int .i64 1)) 3, none⟩,
    ⟨some 3, .assign (.tmp 6), none⟩])
 (.block 0 (.loop (.seq (.seq (.reg false [⟨some 7, .move (.tmp 3), none⟩,
       ⟨some 8, .binOp .geq 3 (.tmp 7) (.const (.int .i64 0)) 3, none⟩])
    (.cond (.tmp 8)
     .skip
     (.exit 0)))
   (.seq (.block 1 (.seq (.reg false [⟨some 11, .move (.tmp 0), none⟩,
        ⟨some 12, .move (.tmp 3), none⟩,
        ⟨some 13, .load 53 (.tmp 1), none⟩,
        ⟨some 14, .move (.tmp 3), none⟩,
        ⟨some 15, .indexAddr 53 (.tmp 13) (.tmp 14), none⟩,
        ⟨some 16, .load 70 (.tmp 15), none⟩,
        ⟨some 17, .call { callee := .value (.tmp 11), args := #[.tmp 12, .tmp 16], argTypes := #[3, 70] }, none⟩,
        ⟨some 18, .unOp .not 4 (.tmp 17), none⟩])
     (.cond (.tmp 18)
      .ret
      .skip)))
   (.reg false [⟨some 9, .move (.tmp 3), none⟩,
     ⟨some 10, .binOp .sub 3 (.tmp 9) (.const (.int .i64 1)) 3, none⟩,
     ⟨some 3, .assign (.tmp 10), none⟩]))))))⟩
theorem sf109 : sfOf Tryd.f109 = some s109 := by kernel_rfl
theorem hb109 : hasBody Tryd.prog 109 = true := by kernel_rfl
def s111 : SF := ⟨14, [.tmp 2],
 (.seq (.reg false [⟨some 2, .assign (.const (.int .i64 0)), none⟩])
 (.seq (.seq (.reg false [⟨some 3, .move (.tmp 0), none⟩,
     ⟨some 4, .binOp .eql 185 (.tmp 3) (.const (.int .u64 0)) 185, none⟩])
  (.cond (.tmp 4)
   (.seq (.reg false [⟨some 2, .assign (.const (.int .i64 64)), none⟩])
    .ret)
   .skip))
 (.seq (.reg false [⟨some 5, .move (.tmp 0), none⟩,
    ⟨some 6, .move (.tmp 0), none⟩,
    ⟨some 7, .unOp .neg 185 (.tmp 6), none⟩,
    ⟨some 8, .binOp .and 185 (.tmp 5) (.tmp 7) 185, none⟩,
    ⟨some 9, .binOp .mul 185 (.tmp 8) (.const (.int .u64 285870213051353865)) 185, none⟩,
    ⟨some 10, .binOp .shr 185 (.tmp 9) (.const (.int .u64 58)) 96, none⟩,
    ⟨some 11, .indexAddr 187 (.global 1) (.tmp 10), none⟩,
    ⟨some 12, .load 5 (.tmp 11), none⟩,
    ⟨some 13, .convert 5 3 (.tmp 12), none⟩,
    ⟨some 2, .assign (.tmp 13), none⟩])
 .ret)))⟩
theorem sf111 : sfOf Tryd.f111 = some s111 := by kernel_rfl
theorem hb111 : hasBody Tryd.prog 111 = true := by kernel_rfl
end Go.Dw.Seat
end
section
set_option linter.unusedSimpArgs false
set_option maxRecDepth 100000
namespace Go.Dw.Seat
open Go Go.Dw Go.Proofs Go.IntWalk
theorem c122 (b : Bool) (l : List (Int)) (hl : l.length ≤ 2 ^ 36) (g : FuncId) (fs caps : List C) (p : Int → Bool) (hp : ∀ x ∈ l, DCall Tryd.prog g (fs.map D.c ++ [dI x] ++ caps.map D.c) [] (bD (p x)) []) : DCall Tryd.prog 106 [.c (.sl b 1 (rows eI l)), .c (.fn (.func g) fs caps)] [] (dI (idxI p l)) [] := by
  refine DCall.of Tryd.func106 sf106 hb106 (Nat.le_of_ble_eq_true rfl) (okRes_nil fun _ => rfl) ?_; simp only [s106, idxs, Nat.reduceAdd]
  repeat' (first
    | (with_reducible refine DW.seq ?_)
    | (with_reducible refine DW.block ?_)
    | (with_reducible refine DW.skip ?_)
    | (with_reducible refine DW.exit ?_)
    | (with_reducible refine DW.ret ?_)
    | (with_reducible refine DW.reg ?_)
    | (simp (disch := omega) only [go_sem, Nat.reduceLT, Nat.reduceLeDiff, Nat.reduceAdd, Nat.reduceMul, Nat.reduceEqDiff, ↓reduceIte, reduceCtorEq, Nat.reduceBEq, Nat.reduceBNe, Nat.reducePow, Int.reduceLE, Int.reduceLT, Int.reduceNeg, Int.reduceToNat, Int.reduceEq, Int.reduceAdd, Int.reduceSub, Int.reduceMul, Int.reduceBEq, Int.reduceBNe, Blk.men, Blk.keysIn])
    | (exact retS_of rfl rfl rfl)
    | (refine DW.cond_tt rfl ?_)
    | (refine DW.cond_ff rfl ?_)
    | (refine DW.cond rfl ?_ ?_ <;> intro hc <;> (try simp only [go_sem] at hc))
    | (refine g_split ?_ ?_ <;> intro hc <;> (try simp only [hc]) <;> (try simp only [go_sem] at hc)))
  refine DW.loop (ι := { i : Nat // i ≤ l.length ∧ ∀ j u, j < i → l[j]? = some u → p u = false }) (fun i => ⟨19, [(8, dI i.1), (7, dI l.length), (1, .c (.fn (.func g) fs caps)), (0, .c (.sl b 1 (rows eI l)))], []⟩) (fun i => l.length - i.1) ⟨0, Nat.zero_le _, fun j u h => by omega⟩ ?_ ?_
  · refine Ent.to ?_ ?_ <;> simp (disch := omega) only [wkT_cons, wkX_cons, wkT_nil, wkX_nil, get, Nat.reduceEqDiff, ↓reduceIte, ex_some, wk_self, wk_top, wk_nil, wkB_self, and_self, dI, i64_in, and_true, true_and, Int.natCast_add, Int.natCast_one, Int.ofNat_zero, Int.natCast_zero]
  rintro ⟨i, hi, hij⟩
  rcases at_or l i hi with ⟨v, hv, hlt, hd⟩ | ⟨he, hd⟩
  · have hcall := hp v (List.mem_of_getElem? hv)
    repeat' (first
    | (with_reducible refine DW.seq ?_)
    | (with_reducible refine DW.block ?_)
    | (with_reducible refine DW.skip ?_)
    | (with_reducible refine DW.exit ?_)
    | (with_reducible refine DW.ret ?_)
    | (with_reducible refine DW.reg ?_)
    | (simp (disch := omega) only [go_sem, Nat.reduceLT, Nat.reduceLeDiff, Nat.reduceAdd, Nat.reduceMul, Nat.reduceEqDiff, ↓reduceIte, reduceCtorEq, Nat.reduceBEq, Nat.reduceBNe, Nat.reducePow, Int.reduceLE, Int.reduceLT, Int.reduceNeg, Int.reduceToNat, Int.reduceEq, Int.reduceAdd, Int.reduceSub, Int.reduceMul, Int.reduceBEq, Int.reduceBNe, Blk.men, Blk.keysIn, hd, hv, closeDs_fn, List.map_cons, List.map_nil])
    | (exact retS_of rfl rfl rfl)
    | (refine DW.cond_tt rfl ?_)
    | (refine DW.cond_ff rfl ?_)
    | (refine DW.cond rfl ?_ ?_ <;> intro hc <;> (try simp only [go_sem] at hc))
    | (refine g_split ?_ ?_ <;> intro hc <;> (try simp only [hc]) <;> (try simp only [go_sem] at hc)))
    refine call_c hcall (by decide) ?_
    simp (disch := omega) only [go_sem, Nat.reduceLT, Nat.reduceLeDiff, Nat.reduceAdd, Nat.reduceMul, Nat.reduceEqDiff, ↓reduceIte, reduceCtorEq, Nat.reduceBEq, Nat.reduceBNe, Nat.reducePow, Int.reduceLE, Int.reduceLT, Int.reduceNeg, Int.reduceToNat, Int.reduceEq, Int.reduceAdd, Int.reduceSub, Int.reduceMul, Int.reduceBEq, Int.reduceBNe, Blk.men, Blk.keysIn]
    refine DW.cond rfl ?_ ?_ <;> intro hc
    · repeat' (first
    | (with_reducible refine DW.seq ?_)
    | (with_reducible refine DW.block ?_)
    | (with_reducible refine DW.skip ?_)
    | (with_reducible refine DW.exit ?_)
    | (with_reducible refine DW.ret ?_)
    | (with_reducible refine DW.reg ?_)
    | (simp (disch := omega) only [go_sem, Nat.reduceLT, Nat.reduceLeDiff, Nat.reduceAdd, Nat.reduceMul, Nat.reduceEqDiff, ↓reduceIte, reduceCtorEq, Nat.reduceBEq, Nat.reduceBNe, Nat.reducePow, Int.reduceLE, Int.reduceLT, Int.reduceNeg, Int.reduceToNat, Int.reduceEq, Int.reduceAdd, Int.reduceSub, Int.reduceMul, Int.reduceBEq, Int.reduceBNe, Blk.men, Blk.keysIn])
    | (exact retS_of rfl rfl rfl)
    | (refine DW.cond_tt rfl ?_)
    | (refine DW.cond_ff rfl ?_)
    | (refine DW.cond rfl ?_ ?_ <;> intro hc <;> (try simp only [go_sem] at hc))
    | (refine g_split ?_ ?_ <;> intro hc <;> (try simp only [hc]) <;> (try simp only [go_sem] at hc)))
      refine retS_of rfl ?_ rfl; simp only [oneD, St.op, get, Nat.reduceEqDiff, ↓reduceIte, Option.getD_some, bD, dI]
      simp only [idxI, idxOf_some hij hv hc]
    · repeat' (first
    | (with_reducible refine DW.seq ?_)
    | (with_reducible refine DW.block ?_)
    | (with_reducible refine DW.skip ?_)
    | (with_reducible refine DW.exit ?_)
    | (with_reducible refine DW.ret ?_)
    | (with_reducible refine DW.reg ?_)
    | (simp (disch := omega) only [go_sem, Nat.reduceLT, Nat.reduceLeDiff, Nat.reduceAdd, Nat.reduceMul, Nat.reduceEqDiff, ↓reduceIte, reduceCtorEq, Nat.reduceBEq, Nat.reduceBNe, Nat.reducePow, Int.reduceLE, Int.reduceLT, Int.reduceNeg, Int.reduceToNat, Int.reduceEq, Int.reduceAdd, Int.reduceSub, Int.reduceMul, Int.reduceBEq, Int.reduceBNe, Blk.men, Blk.keysIn])
    | (exact retS_of rfl rfl rfl)
    | (refine DW.cond_tt rfl ?_)
    | (refine DW.cond_ff rfl ?_)
    | (refine DW.cond rfl ?_ ?_ <;> intro hc <;> (try simp only [go_sem] at hc))
    | (refine g_split ?_ ?_ <;> intro hc <;> (try simp only [hc]) <;> (try simp only [go_sem] at hc)))
      refine ⟨⟨i + 1, by omega, fun j u hj hu => by
        rcases Nat.lt_or_ge j i with h | h
        · exact hij j u h hu
        · have : j = i := by omega
          subst this
          rw [hv] at hu; cases hu; exact hc⟩, ?_, Ent.to ?_ ?_⟩ <;> first | (show _ < _; (try simp only); omega) | (simp (disch := omega) only [wkT_cons, wkX_cons, wkT_nil, wkX_nil, get, Nat.reduceEqDiff, ↓reduceIte, ex_some, wk_self, wk_top, wk_nil, wkB_self, and_self, dI, i64_in, and_true, true_and, Int.natCast_add, Int.natCast_one, Int.ofNat_zero, Int.natCast_zero])
  · repeat' (first
    | (with_reducible refine DW.seq ?_)
    | (with_reducible refine DW.block ?_)
    | (with_reducible refine DW.skip ?_)
    | (with_reducible refine DW.exit ?_)
    | (with_reducible refine DW.ret ?_)
    | (with_reducible refine DW.reg ?_)
    | (simp (disch := omega) only [go_sem, Nat.reduceLT, Nat.reduceLeDiff, Nat.reduceAdd, Nat.reduceMul, Nat.reduceEqDiff, ↓reduceIte, reduceCtorEq, Nat.reduceBEq, Nat.reduceBNe, Nat.reducePow, Int.reduceLE, Int.reduceLT, Int.reduceNeg, Int.reduceToNat, Int.reduceEq, Int.reduceAdd, Int.reduceSub, Int.reduceMul, Int.reduceBEq, Int.reduceBNe, Blk.men, Blk.keysIn, hd])
    | (exact retS_of rfl rfl rfl)
    | (refine DW.cond_tt rfl ?_)
    | (refine DW.cond_ff rfl ?_)
    | (refine DW.cond rfl ?_ ?_ <;> intro hc <;> (try simp only [go_sem] at hc))
    | (refine g_split ?_ ?_ <;> intro hc <;> (try simp only [hc]) <;> (try simp only [go_sem] at hc)))
    refine retS_of rfl ?_ rfl; simp only [oneD, St.op, get, Nat.reduceEqDiff, ↓reduceIte, Option.getD_some, bD, dI]
    simp only [idxI, idxOf_none (he ▸ hij)]
theorem c110 (b : Bool) (l : List (Int)) (hl : l.length ≤ 2 ^ 36) (g : FuncId) (fs caps : List C) (p : Int → Bool) (hp : ∀ x ∈ l, DCall Tryd.prog g (fs.map D.c ++ [dI x] ++ caps.map D.c) [] (bD (p x)) []) : DCall Tryd.prog 92 [.c (.sl b 1 (rows eI l)), .c (.fn (.func g) fs caps)] [] (bD (l.any p)) [] := by
  refine DCall.of Tryd.func92 sf92 hb92 (Nat.le_of_ble_eq_true rfl) (okRes_nil fun _ => rfl) ?_; simp only [s92, idxs, Nat.reduceAdd]
  repeat' (first
    | (with_reducible refine DW.seq ?_)
    | (with_reducible refine DW.block ?_)
    | (with_reducible refine DW.skip ?_)
    | (with_reducible refine DW.exit ?_)
    | (with_reducible refine DW.ret ?_)
    | (with_reducible refine DW.reg ?_)
    | (simp (disch := omega) only [go_sem, Nat.reduceLT, Nat.reduceLeDiff, Nat.reduceAdd, Nat.reduceMul, Nat.reduceEqDiff, ↓reduceIte, reduceCtorEq, Nat.reduceBEq, Nat.reduceBNe, Nat.reducePow, Int.reduceLE, Int.reduceLT, Int.reduceNeg, Int.reduceToNat, Int.reduceEq, Int.reduceAdd, Int.reduceSub, Int.reduceMul, Int.reduceBEq, Int.reduceBNe, Blk.men, Blk.keysIn])
    | (exact retS_of rfl rfl rfl)
    | (refine DW.cond_tt rfl ?_)
    | (refine DW.cond_ff rfl ?_)
    | (refine DW.cond rfl ?_ ?_ <;> intro hc <;> (try simp only [go_sem] at hc))
    | (refine g_split ?_ ?_ <;> intro hc <;> (try simp only [hc]) <;> (try simp only [go_sem] at hc)))
  refine call_c (c122 b l hl g fs caps p hp) (by decide) ?_
  repeat' (first
    | (with_reducible refine DW.seq ?_)
    | (with_reducible refine DW.block ?_)
    | (with_reducible refine DW.skip ?_)
    | (with_reducible refine DW.exit ?_)
    | (with_reducible refine DW.ret ?_)
    | (with_reducible refine DW.reg ?_)
    | (simp (disch := omega) only [go_sem, Nat.reduceLT, Nat.reduceLeDiff, Nat.reduceAdd, Nat.reduceMul, Nat.reduceEqDiff, ↓reduceIte, reduceCtorEq, Nat.reduceBEq, Nat.reduceBNe, Nat.reducePow, Int.reduceLE, Int.reduceLT, Int.reduceNeg, Int.reduceToNat, Int.reduceEq, Int.reduceAdd, Int.reduceSub, Int.reduceMul, Int.reduceBEq, Int.reduceBNe, Blk.men, Blk.keysIn])
    | (exact retS_of rfl rfl rfl)
    | (refine DW.cond_tt rfl ?_)
    | (refine DW.cond_ff rfl ?_)
    | (refine DW.cond rfl ?_ ?_ <;> intro hc <;> (try simp only [go_sem] at hc))
    | (refine g_split ?_ ?_ <;> intro hc <;> (try simp only [hc]) <;> (try simp only [go_sem] at hc)))
  refine retS_of rfl ?_ rfl; simp only [oneD, St.op, get, Nat.reduceEqDiff, ↓reduceIte, Option.getD_some, bD, dI]
  rw [idxI_any]
def wthn (lo hi : Int) (l : List Int) : Bool := !(l.any fun n => decide (n < lo) || decide (hi < n))
theorem crW1 (n lo hi : Int) (p q : Bool) : DCall Tryd.prog 93 [dI n, .c (.ro p [.v (.int .i64 lo)] 0), .c (.ro q [.v (.int .i64 hi)] 0)] [] (bD (decide (n < lo) || decide (hi < n))) [] := by
  refine DCall.of Tryd.func93 sf93 hb93 (Nat.le_of_ble_eq_true rfl) (okRes_nil fun _ => rfl) ?_; simp only [s93, idxs, Nat.reduceAdd]
  repeat' (first
    | (with_reducible refine DW.seq ?_)
    | (with_reducible refine DW.block ?_)
    | (with_reducible refine DW.skip ?_)
    | (with_reducible refine DW.exit ?_)
    | (with_reducible refine DW.ret ?_)
    | (with_reducible refine DW.reg ?_)
    | (simp (disch := omega) only [go_sem, Nat.reduceLT, Nat.reduceLeDiff, Nat.reduceAdd, Nat.reduceMul, Nat.reduceEqDiff, ↓reduceIte, reduceCtorEq, Nat.reduceBEq, Nat.reduceBNe, Nat.reducePow, Int.reduceLE, Int.reduceLT, Int.reduceNeg, Int.reduceToNat, Int.reduceEq, Int.reduceAdd, Int.reduceSub, Int.reduceMul, Int.reduceBEq, Int.reduceBNe, Blk.men, Blk.keysIn])
    | (exact retS_of rfl rfl rfl)
    | (refine DW.cond_tt rfl ?_)
    | (refine DW.cond_ff rfl ?_)
    | (refine DW.cond rfl ?_ ?_ <;> intro hc <;> (try simp only [go_sem] at hc))
    | (refine g_split ?_ ?_ <;> intro hc <;> (try simp only [hc]) <;> (try simp only [go_sem] at hc)))
theorem crWithin (b : Bool) (lo hi : Int) (l : List Int) (hl : l.length ≤ 2 ^ 36) : DCall Tryd.prog 59 [dI lo, dI hi, dIs b l] [] (bD (wthn lo hi l)) [] := by
  refine DCall.of Tryd.func59 sf59 hb59 (Nat.le_of_ble_eq_true rfl) (okRes_nil fun _ => rfl) ?_; simp only [s59, idxs, Nat.reduceAdd]
  repeat' (first
    | (with_reducible refine DW.seq ?_)
    | (with_reducible refine DW.block ?_)
    | (with_reducible refine DW.skip ?_)
    | (with_reducible refine DW.exit ?_)
    | (with_reducible refine DW.ret ?_)
    | (with_reducible refine DW.reg ?_)
    | (simp (disch := omega) only [go_sem, Nat.reduceLT, Nat.reduceLeDiff, Nat.reduceAdd, Nat.reduceMul, Nat.reduceEqDiff, ↓reduceIte, reduceCtorEq, Nat.reduceBEq, Nat.reduceBNe, Nat.reducePow, Int.reduceLE, Int.reduceLT, Int.reduceNeg, Int.reduceToNat, Int.reduceEq, Int.reduceAdd, Int.reduceSub, Int.reduceMul, Int.reduceBEq, Int.reduceBNe, Blk.men, Blk.keysIn])
    | (exact retS_of rfl rfl rfl)
    | (refine DW.cond_tt rfl ?_)
    | (refine DW.cond_ff rfl ?_)
    | (refine DW.cond rfl ?_ ?_ <;> intro hc <;> (try simp only [go_sem] at hc))
    | (refine g_split ?_ ?_ <;> intro hc <;> (try simp only [hc]) <;> (try simp only [go_sem] at hc)))
  (refine call_c (c110 b l hl 93 [] [.ro true [.v (.int .i64 lo)] 0, .ro true [.v (.int .i64 hi)] 0] (fun n => decide (n < lo) || decide (hi < n)) (fun x _ => crW1 x lo hi true true)) (by decide) ?_; simp (disch := omega) only [go_sem, Nat.reduceLT, Nat.reduceLeDiff, Nat.reduceAdd, Nat.reduceMul, Nat.reduceEqDiff, ↓reduceIte, reduceCtorEq, Nat.reduceBEq, Nat.reduceBNe, Nat.reducePow, Int.reduceLE, Int.reduceLT, Int.reduceNeg, Int.reduceToNat, Int.reduceEq, Int.reduceAdd, Int.reduceSub, Int.reduceMul, Int.reduceBEq, Int.reduceBNe, Blk.men, Blk.keysIn])
  repeat' (first
    | (with_reducible refine DW.seq ?_)
    | (with_reducible refine DW.block ?_)
    | (with_reducible refine DW.skip ?_)
    | (with_reducible refine DW.exit ?_)
    | (with_reducible refine DW.ret ?_)
    | (with_reducible refine DW.reg ?_)
    | (simp (disch := omega) only [go_sem, Nat.reduceLT, Nat.reduceLeDiff, Nat.reduceAdd, Nat.reduceMul, Nat.reduceEqDiff, ↓reduceIte, reduceCtorEq, Nat.reduceBEq, Nat.reduceBNe, Nat.reducePow, Int.reduceLE, Int.reduceLT, Int.reduceNeg, Int.reduceToNat, Int.reduceEq, Int.reduceAdd, Int.reduceSub, Int.reduceMul, Int.reduceBEq, Int.reduceBNe, Blk.men, Blk.keysIn])
    | (exact retS_of rfl rfl rfl)
    | (refine DW.cond_tt rfl ?_)
    | (refine DW.cond_ff rfl ?_)
    | (refine DW.cond rfl ?_ ?_ <;> intro hc <;> (try simp only [go_sem] at hc))
    | (refine g_split ?_ ?_ <;> intro hc <;> (try simp only [hc]) <;> (try simp only [go_sem] at hc)))
theorem wthn_yes {lo hi : Int} {l : List Int} (h : ∀ v ∈ l, lo ≤ v ∧ v ≤ hi) : wthn lo hi l = true := by
  simp only [wthn, Bool.not_eq_true', List.any_eq_false, Bool.or_eq_true, decide_eq_true_eq]
  intro v hv
  have := h v hv
  omega
def spanOk (lo hi least most : Int) : Bool := wthn least most [lo, hi] && decide (lo ≤ hi)
theorem spanOk_yes {lo hi least most : Int} (h : least ≤ lo ∧ lo ≤ hi ∧ hi ≤ most) : spanOk lo hi least most = true := by
  unfold spanOk
  rw [wthn_yes (by simp; omega), decide_eq_true h.2.1]; rfl
theorem crSpanG (lo hi least most : Int) : DCall Tryd.prog 72 [.agg [dI lo, dI hi], dI least, dI most] [] (bD (spanOk lo hi least most)) [] := by
  have h1 := crWithin true least most [lo, hi] (by simp)
  unfold spanOk
  cases h : wthn least most [lo, hi] <;> rw [h] at h1 <;> simp only [Bool.true_and, Bool.false_and]
  · refine DCall.of Tryd.func72 sf72 hb72 (Nat.le_of_ble_eq_true rfl) (okRes_nil fun _ => rfl) ?_; simp only [s72, idxs, Nat.reduceAdd]
    repeat' (first
    | (with_reducible refine DW.seq ?_)
    | (with_reducible refine DW.block ?_)
    | (with_reducible refine DW.skip ?_)
    | (with_reducible refine DW.exit ?_)
    | (with_reducible refine DW.ret ?_)
    | (with_reducible refine DW.reg ?_)
    | (simp (disch := omega) only [go_sem, Nat.reduceLT, Nat.reduceLeDiff, Nat.reduceAdd, Nat.reduceMul, Nat.reduceEqDiff, ↓reduceIte, reduceCtorEq, Nat.reduceBEq, Nat.reduceBNe, Nat.reducePow, Int.reduceLE, Int.reduceLT, Int.reduceNeg, Int.reduceToNat, Int.reduceEq, Int.reduceAdd, Int.reduceSub, Int.reduceMul, Int.reduceBEq, Int.reduceBNe, Blk.men, Blk.keysIn])
    | (exact retS_of rfl rfl rfl)
    | (refine DW.cond_tt rfl ?_)
    | (refine call_c (h1) (by decide) ?_)
    | (refine DW.cond_ff rfl ?_)
    | (refine DW.cond rfl ?_ ?_ <;> intro hc <;> (try simp only [go_sem] at hc))
    | (refine g_split ?_ ?_ <;> intro hc <;> (try simp only [hc]) <;> (try simp only [go_sem] at hc)))
  · refine DCall.of Tryd.func72 sf72 hb72 (Nat.le_of_ble_eq_true rfl) (okRes_nil fun _ => rfl) ?_; simp only [s72, idxs, Nat.reduceAdd]
    repeat' (first
    | (with_reducible refine DW.seq ?_)
    | (with_reducible refine DW.block ?_)
    | (with_reducible refine DW.skip ?_)
    | (with_reducible refine DW.exit ?_)
    | (with_reducible refine DW.ret ?_)
    | (with_reducible refine DW.reg ?_)
    | (simp (disch := omega) only [go_sem, Nat.reduceLT, Nat.reduceLeDiff, Nat.reduceAdd, Nat.reduceMul, Nat.reduceEqDiff, ↓reduceIte, reduceCtorEq, Nat.reduceBEq, Nat.reduceBNe, Nat.reducePow, Int.reduceLE, Int.reduceLT, Int.reduceNeg, Int.reduceToNat, Int.reduceEq, Int.reduceAdd, Int.reduceSub, Int.reduceMul, Int.reduceBEq, Int.reduceBNe, Blk.men, Blk.keysIn])
    | (exact retS_of rfl rfl rfl)
    | (refine DW.cond_tt rfl ?_)
    | (refine call_c (h1) (by decide) ?_)
    | (refine DW.cond_ff rfl ?_)
    | (refine DW.cond rfl ?_ ?_ <;> intro hc <;> (try simp only [go_sem] at hc))
    | (refine g_split ?_ ?_ <;> intro hc <;> (try simp only [hc]) <;> (try simp only [go_sem] at hc)))
end Go.Dw.Seat
end
