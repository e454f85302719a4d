/- Helpers of a proof. -/
import Derived.Test.YtecgononbfgigaaW35
import Derived.Test.YtecgononbfgigaaProg
set_option linter.unusedVariables false
set_option linter.unusedSimpArgs false
section
namespace Go.Dw.Seat
open Go Go.Dw Go.Proofs
theorem el0 : elemI Try.prog 0 = none := by kernel_rfl
theorem ty1 : tyI Try.prog 1 = some ⟨false, 1, [.nilFunc], 8⟩ := by kernel_rfl
theorem el1 : elemI Try.prog 1 = none := by kernel_rfl
theorem ty2 : tyI Try.prog 2 = some ⟨false, 1, [(.int .i64 0)], 8⟩ := by kernel_rfl
theorem el2 : elemI Try.prog 2 = none := by kernel_rfl
theorem it2 : intI Try.prog 2 = some .i64 := by kernel_rfl
theorem ty3 : tyI Try.prog 3 = some ⟨false, 1, [(.int .i64 0)], 8⟩ := by kernel_rfl
theorem el3 : elemI Try.prog 3 = none := by kernel_rfl
theorem it3 : intI Try.prog 3 = some .i64 := by kernel_rfl
theorem ty4 : tyI Try.prog 4 = some ⟨false, 1, [(.bool false)], 1⟩ := by kernel_rfl
theorem el4 : elemI Try.prog 4 = none := by kernel_rfl
theorem bl4 : blI Try.prog 4 = true := by kernel_rfl
theorem ty5 : tyI Try.prog 5 = some ⟨false, 1, [(.int .u8 0)], 1⟩ := by kernel_rfl
theorem el5 : elemI Try.prog 5 = none := by kernel_rfl
theorem it5 : intI Try.prog 5 = some .u8 := by kernel_rfl
theorem ty6 : tyI Try.prog 6 = some ⟨false, 1, [(.int .u8 0)], 1⟩ := by kernel_rfl
theorem el6 : elemI Try.prog 6 = none := by kernel_rfl
theorem it6 : intI Try.prog 6 = some .u8 := by kernel_rfl
theorem ty7 : tyI Try.prog 7 = some ⟨true, 4, [(.int .i64 0), (.int .i64 0), (.bool false), (.int .u8 0)], 24⟩ := by kernel_rfl
theorem el7 : elemI Try.prog 7 = none := by kernel_rfl
theorem eq7 : eqTy Try.prog 7 = some (.st [(0, 1, .it), (1, 1, .it), (2, 1, .bl), (3, 1, .it)]) := by kernel_rfl
theorem pl7 : placesI Try.prog 7 = some [(0, 1), (1, 1), (2, 1), (3, 1)] := by kernel_rfl
theorem fi7_0 : fieldI Try.prog 7 0 = some (0, 1, false) := by kernel_rfl
theorem fi7_1 : fieldI Try.prog 7 1 = some (1, 1, false) := by kernel_rfl
theorem fi7_2 : fieldI Try.prog 7 2 = some (2, 1, false) := by kernel_rfl
theorem fi7_3 : fieldI Try.prog 7 3 = some (3, 1, false) := by kernel_rfl
theorem ty8 : tyI Try.prog 8 = some ⟨true, 4, [(.int .i64 0), (.int .i64 0), (.bool false), (.int .u8 0)], 24⟩ := by kernel_rfl
theorem el8 : elemI Try.prog 8 = none := by kernel_rfl
theorem eq8 : eqTy Try.prog 8 = some (.st [(0, 1, .it), (1, 1, .it), (2, 1, .bl), (3, 1, .it)]) := by kernel_rfl
theorem pl8 : placesI Try.prog 8 = some [(0, 1), (1, 1), (2, 1), (3, 1)] := by kernel_rfl
theorem fi8_0 : fieldI Try.prog 8 0 = some (0, 1, false) := by kernel_rfl
theorem fi8_1 : fieldI Try.prog 8 1 = some (1, 1, false) := by kernel_rfl
theorem fi8_2 : fieldI Try.prog 8 2 = some (2, 1, false) := by kernel_rfl
theorem fi8_3 : fieldI Try.prog 8 3 = some (3, 1, false) := by kernel_rfl
theorem ty9 : tyI Try.prog 9 = some ⟨false, 1, [(.string ⟨#[]⟩)], 16⟩ := by kernel_rfl
theorem el9 : elemI Try.prog 9 = none := by kernel_rfl
theorem ty10 : tyI Try.prog 10 = some ⟨false, 1, [(.string ⟨#[]⟩)], 16⟩ := by kernel_rfl
theorem el10 : elemI Try.prog 10 = none := by kernel_rfl
theorem ty11 : tyI Try.prog 11 = some ⟨false, 1, [(.string ⟨#[]⟩)], 16⟩ := by kernel_rfl
theorem el11 : elemI Try.prog 11 = none := by kernel_rfl
theorem ty12 : tyI Try.prog 12 = some ⟨false, 1, [(.int .u64 0)], 8⟩ := by kernel_rfl
theorem el12 : elemI Try.prog 12 = none := by kernel_rfl
theorem it12 : intI Try.prog 12 = some .u64 := by kernel_rfl
theorem ty13 : tyI Try.prog 13 = some ⟨true, 2, [(.string ⟨#[]⟩), (.int .u64 0)], 24⟩ := by kernel_rfl
theorem el13 : elemI Try.prog 13 = none := by kernel_rfl
theorem pl13 : placesI Try.prog 13 = some [(0, 1), (1, 1)] := by kernel_rfl
theorem fi13_0 : fieldI Try.prog 13 0 = some (0, 1, false) := by kernel_rfl
theorem fi13_1 : fieldI Try.prog 13 1 = some (1, 1, false) := by kernel_rfl
theorem ty14 : tyI Try.prog 14 = some ⟨true, 2, [(.string ⟨#[]⟩), (.int .u64 0)], 24⟩ := by kernel_rfl
theorem el14 : elemI Try.prog 14 = none := by kernel_rfl
theorem pl14 : placesI Try.prog 14 = some [(0, 1), (1, 1)] := by kernel_rfl
theorem fi14_0 : fieldI Try.prog 14 0 = some (0, 1, false) := by kernel_rfl
theorem fi14_1 : fieldI Try.prog 14 1 = some (1, 1, false) := by kernel_rfl
theorem ty15 : tyI Try.prog 15 = some ⟨false, 1, [(.pointer none)], 8⟩ := by kernel_rfl
theorem el15 : elemI Try.prog 15 = none := by kernel_rfl
theorem ty16 : tyI Try.prog 16 = some ⟨false, 1, [(.pointer none)], 8⟩ := by kernel_rfl
theorem el16 : elemI Try.prog 16 = none := by kernel_rfl
theorem ty17 : tyI Try.prog 17 = some ⟨false, 1, [(.pointer none)], 8⟩ := by kernel_rfl
theorem el17 : elemI Try.prog 17 = none := by kernel_rfl
theorem ty18 : tyI Try.prog 18 = some ⟨true, 1, [(.pointer none)], 8⟩ := by kernel_rfl
theorem el18 : elemI Try.prog 18 = none := by kernel_rfl
theorem pl18 : placesI Try.prog 18 = some [(0, 1)] := by kernel_rfl
theorem fi18_0 : fieldI Try.prog 18 0 = some (0, 1, false) := by kernel_rfl
theorem ty19 : tyI Try.prog 19 = some ⟨true, 1, [(.pointer none)], 8⟩ := by kernel_rfl
theorem el19 : elemI Try.prog 19 = none := by kernel_rfl
theorem pl19 : placesI Try.prog 19 = some [(0, 1)] := by kernel_rfl
theorem fi19_0 : fieldI Try.prog 19 0 = some (0, 1, false) := by kernel_rfl
theorem ty20 : tyI Try.prog 20 = some ⟨false, 1, [.nilIface], 16⟩ := by kernel_rfl
theorem el20 : elemI Try.prog 20 = none := by kernel_rfl
theorem ty21 : tyI Try.prog 21 = some ⟨false, 1, [(.int .i32 0)], 4⟩ := by kernel_rfl
theorem el21 : elemI Try.prog 21 = none := by kernel_rfl
theorem it21 : intI Try.prog 21 = some .i32 := by kernel_rfl
theorem ty22 : tyI Try.prog 22 = some ⟨false, 1, [(.slice none 0 0)], 24⟩ := by kernel_rfl
theorem el22 : elemI Try.prog 22 = some 3 := by kernel_rfl
theorem ty23 : tyI Try.prog 23 = some ⟨true, 2, [(.int .i64 0), (.slice none 0 0)], 32⟩ := by kernel_rfl
theorem el23 : elemI Try.prog 23 = none := by kernel_rfl
theorem pl23 : placesI Try.prog 23 = some [(0, 1), (1, 1)] := by kernel_rfl
theorem fi23_0 : fieldI Try.prog 23 0 = some (0, 1, false) := by kernel_rfl
theorem fi23_1 : fieldI Try.prog 23 1 = some (1, 1, false) := by kernel_rfl
theorem ty24 : tyI Try.prog 24 = some ⟨true, 2, [(.int .i64 0), (.slice none 0 0)], 32⟩ := by kernel_rfl
theorem el24 : elemI Try.prog 24 = none := by kernel_rfl
theorem pl24 : placesI Try.prog 24 = some [(0, 1), (1, 1)] := by kernel_rfl
theorem fi24_0 : fieldI Try.prog 24 0 = some (0, 1, false) := by kernel_rfl
theorem fi24_1 : fieldI Try.prog 24 1 = some (1, 1, false) := by kernel_rfl
theorem ty25 : tyI Try.prog 25 = some ⟨false, 1, [(.slice none 0 0)], 24⟩ := by kernel_rfl
theorem el25 : elemI Try.prog 25 = some 48 := by kernel_rfl
theorem ty26 : tyI Try.prog 26 = some ⟨true, 2, [(.slice none 0 0), (.slice none 0 0)], 48⟩ := by kernel_rfl
theorem el26 : elemI Try.prog 26 = none := by kernel_rfl
theorem pl26 : placesI Try.prog 26 = some [(0, 1), (1, 1)] := by kernel_rfl
theorem fi26_0 : fieldI Try.prog 26 0 = some (0, 1, false) := by kernel_rfl
theorem fi26_1 : fieldI Try.prog 26 1 = some (1, 1, false) := by kernel_rfl
theorem ty27 : tyI Try.prog 27 = some ⟨true, 2, [(.slice none 0 0), (.slice none 0 0)], 48⟩ := by kernel_rfl
theorem el27 : elemI Try.prog 27 = none := by kernel_rfl
theorem pl27 : placesI Try.prog 27 = some [(0, 1), (1, 1)] := by kernel_rfl
theorem fi27_0 : fieldI Try.prog 27 0 = some (0, 1, false) := by kernel_rfl
theorem fi27_1 : fieldI Try.prog 27 1 = some (1, 1, false) := by kernel_rfl
theorem ty28 : tyI Try.prog 28 = some ⟨false, 1, [.nilFunc], 8⟩ := by kernel_rfl
theorem el28 : elemI Try.prog 28 = none := by kernel_rfl
theorem ty29 : tyI Try.prog 29 = some ⟨false, 1, [.nilFunc], 8⟩ := by kernel_rfl
theorem el29 : elemI Try.prog 29 = none := by kernel_rfl
theorem ty30 : tyI Try.prog 30 = some ⟨false, 1, [.nilFunc], 8⟩ := by kernel_rfl
theorem el30 : elemI Try.prog 30 = none := by kernel_rfl
theorem ty31 : tyI Try.prog 31 = some ⟨false, 1, [.nilFunc], 8⟩ := by kernel_rfl
theorem el31 : elemI Try.prog 31 = none := by kernel_rfl
theorem ty32 : tyI Try.prog 32 = some ⟨false, 1, [(.slice none 0 0)], 24⟩ := by kernel_rfl
theorem el32 : elemI Try.prog 32 = some 104 := by kernel_rfl
theorem ty33 : tyI Try.prog 33 = some ⟨false, 1, [(.int .i64 0)], 8⟩ := by kernel_rfl
theorem el33 : elemI Try.prog 33 = none := by kernel_rfl
theorem it33 : intI Try.prog 33 = some .i64 := by kernel_rfl
theorem el34 : elemI Try.prog 34 = none := by kernel_rfl
theorem ty35 : tyI Try.prog 35 = some ⟨false, 1, [.nilFunc], 8⟩ := by kernel_rfl
theorem el35 : elemI Try.prog 35 = none := by kernel_rfl
theorem el36 : elemI Try.prog 36 = none := by kernel_rfl
theorem ty37 : tyI Try.prog 37 = some ⟨false, 1, [.nilFunc], 8⟩ := by kernel_rfl
theorem el37 : elemI Try.prog 37 = none := by kernel_rfl
theorem ty38 : tyI Try.prog 38 = some ⟨false, 1, [.nilFunc], 8⟩ := by kernel_rfl
theorem el38 : elemI Try.prog 38 = none := by kernel_rfl
theorem ty39 : tyI Try.prog 39 = some ⟨false, 1, [.nilFunc], 8⟩ := by kernel_rfl
theorem el39 : elemI Try.prog 39 = none := by kernel_rfl
theorem ty40 : tyI Try.prog 40 = some ⟨false, 1, [.nilFunc], 8⟩ := by kernel_rfl
theorem el40 : elemI Try.prog 40 = none := by kernel_rfl
theorem ty41 : tyI Try.prog 41 = some ⟨false, 1, [(.slice none 0 0)], 24⟩ := by kernel_rfl
theorem el41 : elemI Try.prog 41 = some 32 := by kernel_rfl
theorem el42 : elemI Try.prog 42 = none := by kernel_rfl
theorem ty43 : tyI Try.prog 43 = some ⟨false, 1, [.nilFunc], 8⟩ := by kernel_rfl
theorem el43 : elemI Try.prog 43 = none := by kernel_rfl
theorem ty44 : tyI Try.prog 44 = some ⟨false, 1, [.nilFunc], 8⟩ := by kernel_rfl
theorem el44 : elemI Try.prog 44 = none := by kernel_rfl
theorem ty45 : tyI Try.prog 45 = some ⟨false, 1, [.nilFunc], 8⟩ := by kernel_rfl
theorem el45 : elemI Try.prog 45 = none := by kernel_rfl
theorem ty46 : tyI Try.prog 46 = some ⟨false, 1, [.nilFunc], 8⟩ := by kernel_rfl
theorem el46 : elemI Try.prog 46 = none := by kernel_rfl
theorem ty47 : tyI Try.prog 47 = some ⟨true, 4, [(.int .i64 0), (.int .i64 0), (.int .i64 0), (.bool false)], 32⟩ := by kernel_rfl
theorem el47 : elemI Try.prog 47 = none := by kernel_rfl
theorem eq47 : eqTy Try.prog 47 = some (.st [(0, 1, .it), (1, 1, .it), (2, 1, .it), (3, 1, .bl)]) := by kernel_rfl
theorem pl47 : placesI Try.prog 47 = some [(0, 1), (1, 1), (2, 1), (3, 1)] := by kernel_rfl
theorem fi47_0 : fieldI Try.prog 47 0 = some (0, 1, false) := by kernel_rfl
theorem fi47_1 : fieldI Try.prog 47 1 = some (1, 1, false) := by kernel_rfl
theorem fi47_2 : fieldI Try.prog 47 2 = some (2, 1, false) := by kernel_rfl
theorem fi47_3 : fieldI Try.prog 47 3 = some (3, 1, false) := by kernel_rfl
theorem ty48 : tyI Try.prog 48 = some ⟨true, 4, [(.int .i64 0), (.int .i64 0), (.int .i64 0), (.bool false)], 32⟩ := by kernel_rfl
theorem el48 : elemI Try.prog 48 = none := by kernel_rfl
theorem eq48 : eqTy Try.prog 48 = some (.st [(0, 1, .it), (1, 1, .it), (2, 1, .it), (3, 1, .bl)]) := by kernel_rfl
theorem pl48 : placesI Try.prog 48 = some [(0, 1), (1, 1), (2, 1), (3, 1)] := by kernel_rfl
theorem fi48_0 : fieldI Try.prog 48 0 = some (0, 1, false) := by kernel_rfl
theorem fi48_1 : fieldI Try.prog 48 1 = some (1, 1, false) := by kernel_rfl
theorem fi48_2 : fieldI Try.prog 48 2 = some (2, 1, false) := by kernel_rfl
theorem fi48_3 : fieldI Try.prog 48 3 = some (3, 1, false) := by kernel_rfl
theorem el49 : elemI Try.prog 49 = none := by kernel_rfl
theorem ty50 : tyI Try.prog 50 = some ⟨false, 1, [.nilFunc], 8⟩ := by kernel_rfl
theorem el50 : elemI Try.prog 50 = none := by kernel_rfl
theorem ty51 : tyI Try.prog 51 = some ⟨false, 1, [.nilFunc], 8⟩ := by kernel_rfl
theorem el51 : elemI Try.prog 51 = none := by kernel_rfl
theorem el52 : elemI Try.prog 52 = none := by kernel_rfl
theorem ty53 : tyI Try.prog 53 = some ⟨false, 1, [.nilFunc], 8⟩ := by kernel_rfl
theorem el53 : elemI Try.prog 53 = none := by kernel_rfl
theorem ty54 : tyI Try.prog 54 = some ⟨false, 1, [.nilFunc], 8⟩ := by kernel_rfl
theorem el54 : elemI Try.prog 54 = none := by kernel_rfl
theorem ty55 : tyI Try.prog 55 = some ⟨true, 2, [(.slice none 0 0), (.slice none 0 0)], 48⟩ := by kernel_rfl
theorem el55 : elemI Try.prog 55 = none := by kernel_rfl
theorem ar55 : arrI Try.prog 55 = some (2, 32) := by kernel_rfl
theorem pl55 : placesI Try.prog 55 = some [(0, 1), (1, 1)] := by kernel_rfl
theorem ty56 : tyI Try.prog 56 = some ⟨false, 1, [.nilFunc], 8⟩ := by kernel_rfl
theorem el56 : elemI Try.prog 56 = none := by kernel_rfl
theorem el57 : elemI Try.prog 57 = none := by kernel_rfl
theorem ty58 : tyI Try.prog 58 = some ⟨false, 1, [.nilFunc], 8⟩ := by kernel_rfl
theorem el58 : elemI Try.prog 58 = none := by kernel_rfl
theorem ty59 : tyI Try.prog 59 = some ⟨false, 1, [.nilFunc], 8⟩ := by kernel_rfl
theorem el59 : elemI Try.prog 59 = none := by kernel_rfl
theorem ty60 : tyI Try.prog 60 = some ⟨false, 1, [.nilFunc], 8⟩ := by kernel_rfl
theorem el60 : elemI Try.prog 60 = none := by kernel_rfl
theorem el61 : elemI Try.prog 61 = none := by kernel_rfl
theorem ty62 : tyI Try.prog 62 = some ⟨false, 1, [.nilFunc], 8⟩ := by kernel_rfl
theorem el62 : elemI Try.prog 62 = none := by kernel_rfl
theorem ty63 : tyI Try.prog 63 = some ⟨false, 1, [.nilFunc], 8⟩ := by kernel_rfl
theorem el63 : elemI Try.prog 63 = none := by kernel_rfl
theorem ty64 : tyI Try.prog 64 = some ⟨false, 1, [.nilFunc], 8⟩ := by kernel_rfl
theorem el64 : elemI Try.prog 64 = none := by kernel_rfl
theorem ty65 : tyI Try.prog 65 = some ⟨false, 1, [(.slice none 0 0)], 24⟩ := by kernel_rfl
theorem el65 : elemI Try.prog 65 = some 22 := by kernel_rfl
theorem el66 : elemI Try.prog 66 = none := by kernel_rfl
theorem ty67 : tyI Try.prog 67 = some ⟨false, 1, [.nilFunc], 8⟩ := by kernel_rfl
theorem el67 : elemI Try.prog 67 = none := by kernel_rfl
theorem ty68 : tyI Try.prog 68 = some ⟨false, 1, [.nilFunc], 8⟩ := by kernel_rfl
theorem el68 : elemI Try.prog 68 = none := by kernel_rfl
theorem ty69 : tyI Try.prog 69 = some ⟨false, 1, [.nilFunc], 8⟩ := by kernel_rfl
theorem el69 : elemI Try.prog 69 = none := by kernel_rfl
theorem ty70 : tyI Try.prog 70 = some ⟨false, 1, [.nilFunc], 8⟩ := by kernel_rfl
theorem el70 : elemI Try.prog 70 = none := by kernel_rfl
theorem ty71 : tyI Try.prog 71 = some ⟨true, 3, [(.int .i64 0), (.int .i64 0), (.int .i64 0)], 24⟩ := by kernel_rfl
theorem el71 : elemI Try.prog 71 = none := by kernel_rfl
theorem eq71 : eqTy Try.prog 71 = some (.st [(0, 1, .it), (1, 1, .it), (2, 1, .it)]) := by kernel_rfl
theorem pl71 : placesI Try.prog 71 = some [(0, 1), (1, 1), (2, 1)] := by kernel_rfl
theorem fi71_0 : fieldI Try.prog 71 0 = some (0, 1, false) := by kernel_rfl
theorem fi71_1 : fieldI Try.prog 71 1 = some (1, 1, false) := by kernel_rfl
theorem fi71_2 : fieldI Try.prog 71 2 = some (2, 1, false) := by kernel_rfl
theorem ty72 : tyI Try.prog 72 = some ⟨true, 3, [(.int .i64 0), (.int .i64 0), (.int .i64 0)], 24⟩ := by kernel_rfl
theorem el72 : elemI Try.prog 72 = none := by kernel_rfl
theorem eq72 : eqTy Try.prog 72 = some (.st [(0, 1, .it), (1, 1, .it), (2, 1, .it)]) := by kernel_rfl
theorem pl72 : placesI Try.prog 72 = some [(0, 1), (1, 1), (2, 1)] := by kernel_rfl
theorem fi72_0 : fieldI Try.prog 72 0 = some (0, 1, false) := by kernel_rfl
theorem fi72_1 : fieldI Try.prog 72 1 = some (1, 1, false) := by kernel_rfl
theorem fi72_2 : fieldI Try.prog 72 2 = some (2, 1, false) := by kernel_rfl
theorem ty73 : tyI Try.prog 73 = some ⟨false, 1, [(.slice none 0 0)], 24⟩ := by kernel_rfl
theorem el73 : elemI Try.prog 73 = some 85 := by kernel_rfl
theorem ty74 : tyI Try.prog 74 = some ⟨true, 2, [(.slice none 0 0), (.slice none 0 0)], 48⟩ := by kernel_rfl
theorem el74 : elemI Try.prog 74 = none := by kernel_rfl
theorem pl74 : placesI Try.prog 74 = some [(0, 1), (1, 1)] := by kernel_rfl
theorem fi74_0 : fieldI Try.prog 74 0 = some (0, 1, false) := by kernel_rfl
theorem fi74_1 : fieldI Try.prog 74 1 = some (1, 1, false) := by kernel_rfl
theorem ty75 : tyI Try.prog 75 = some ⟨true, 2, [(.slice none 0 0), (.slice none 0 0)], 48⟩ := by kernel_rfl
theorem el75 : elemI Try.prog 75 = none := by kernel_rfl
theorem pl75 : placesI Try.prog 75 = some [(0, 1), (1, 1)] := by kernel_rfl
theorem fi75_0 : fieldI Try.prog 75 0 = some (0, 1, false) := by kernel_rfl
theorem fi75_1 : fieldI Try.prog 75 1 = some (1, 1, false) := by kernel_rfl
theorem ty76 : tyI Try.prog 76 = some ⟨false, 1, [.nilFunc], 8⟩ := by kernel_rfl
theorem el76 : elemI Try.prog 76 = none := by kernel_rfl
theorem el77 : elemI Try.prog 77 = none := by kernel_rfl
theorem ty78 : tyI Try.prog 78 = some ⟨false, 1, [.nilFunc], 8⟩ := by kernel_rfl
theorem el78 : elemI Try.prog 78 = none := by kernel_rfl
theorem ty79 : tyI Try.prog 79 = some ⟨false, 1, [.nilFunc], 8⟩ := by kernel_rfl
theorem el79 : elemI Try.prog 79 = none := by kernel_rfl
theorem ty80 : tyI Try.prog 80 = some ⟨true, 2, [(.int .i64 0), (.int .i64 0)], 16⟩ := by kernel_rfl
theorem el80 : elemI Try.prog 80 = none := by kernel_rfl
theorem eq80 : eqTy Try.prog 80 = some (.st [(0, 1, .it), (1, 1, .it)]) := by kernel_rfl
theorem pl80 : placesI Try.prog 80 = some [(0, 1), (1, 1)] := by kernel_rfl
theorem fi80_0 : fieldI Try.prog 80 0 = some (0, 1, false) := by kernel_rfl
theorem fi80_1 : fieldI Try.prog 80 1 = some (1, 1, false) := by kernel_rfl
theorem ty81 : tyI Try.prog 81 = some ⟨true, 2, [(.int .i64 0), (.int .i64 0)], 16⟩ := by kernel_rfl
theorem el81 : elemI Try.prog 81 = none := by kernel_rfl
theorem eq81 : eqTy Try.prog 81 = some (.st [(0, 1, .it), (1, 1, .it)]) := by kernel_rfl
theorem pl81 : placesI Try.prog 81 = some [(0, 1), (1, 1)] := by kernel_rfl
theorem fi81_0 : fieldI Try.prog 81 0 = some (0, 1, false) := by kernel_rfl
theorem fi81_1 : fieldI Try.prog 81 1 = some (1, 1, false) := by kernel_rfl
theorem el82 : elemI Try.prog 82 = none := by kernel_rfl
theorem ty83 : tyI Try.prog 83 = some ⟨false, 1, [.nilFunc], 8⟩ := by kernel_rfl
theorem el83 : elemI Try.prog 83 = none := by kernel_rfl
theorem ty84 : tyI Try.prog 84 = some ⟨true, 4, [(.int .i64 0), (.int .i64 0), (.int .i64 0), (.int .i64 0)], 32⟩ := by kernel_rfl
theorem el84 : elemI Try.prog 84 = none := by kernel_rfl
theorem eq84 : eqTy Try.prog 84 = some (.st [(0, 2, (.st [(0, 1, .it), (1, 1, .it)])), (2, 2, (.st [(0, 1, .it), (1, 1, .it)]))]) := by kernel_rfl
theorem pl84 : placesI Try.prog 84 = some [(0, 2), (2, 2)] := by kernel_rfl
theorem fi84_0 : fieldI Try.prog 84 0 = some (0, 2, true) := by kernel_rfl
theorem fi84_1 : fieldI Try.prog 84 1 = some (2, 2, true) := by kernel_rfl
theorem ty85 : tyI Try.prog 85 = some ⟨true, 4, [(.int .i64 0), (.int .i64 0), (.int .i64 0), (.int .i64 0)], 32⟩ := by kernel_rfl
theorem el85 : elemI Try.prog 85 = none := by kernel_rfl
theorem eq85 : eqTy Try.prog 85 = some (.st [(0, 2, (.st [(0, 1, .it), (1, 1, .it)])), (2, 2, (.st [(0, 1, .it), (1, 1, .it)]))]) := by kernel_rfl
theorem pl85 : placesI Try.prog 85 = some [(0, 2), (2, 2)] := by kernel_rfl
theorem fi85_0 : fieldI Try.prog 85 0 = some (0, 2, true) := by kernel_rfl
theorem fi85_1 : fieldI Try.prog 85 1 = some (2, 2, true) := by kernel_rfl
theorem ty86 : tyI Try.prog 86 = some ⟨false, 1, [.nilFunc], 8⟩ := by kernel_rfl
theorem el86 : elemI Try.prog 86 = none := by kernel_rfl
theorem ty87 : tyI Try.prog 87 = some ⟨false, 1, [.nilFunc], 8⟩ := by kernel_rfl
theorem el87 : elemI Try.prog 87 = none := by kernel_rfl
theorem ty88 : tyI Try.prog 88 = some ⟨false, 1, [.nilFunc], 8⟩ := by kernel_rfl
theorem el88 : elemI Try.prog 88 = none := by kernel_rfl
theorem ty89 : tyI Try.prog 89 = some ⟨false, 1, [(.slice none 0 0)], 24⟩ := by kernel_rfl
theorem el89 : elemI Try.prog 89 = some 116 := by kernel_rfl
theorem ty90 : tyI Try.prog 90 = some ⟨true, 3, [(.int .u8 0), (.int .u8 0), (.int .u8 0)], 3⟩ := by kernel_rfl
theorem el90 : elemI Try.prog 90 = none := by kernel_rfl
theorem ar90 : arrI Try.prog 90 = some (3, 5) := by kernel_rfl
theorem pl90 : placesI Try.prog 90 = some [(0, 1), (1, 1), (2, 1)] := by kernel_rfl
theorem ty91 : tyI Try.prog 91 = some ⟨true, 6, [(.int .u8 0), (.int .u8 0), (.int .u8 0), (.int .u8 0), (.int .u8 0), (.int .u8 0)], 6⟩ := by kernel_rfl
theorem el91 : elemI Try.prog 91 = none := by kernel_rfl
theorem ar91 : arrI Try.prog 91 = some (2, 90) := by kernel_rfl
theorem pl91 : placesI Try.prog 91 = some [(0, 3), (3, 3)] := by kernel_rfl
theorem ty92 : tyI Try.prog 92 = some ⟨true, 12, [(.int .u8 0), (.slice none 0 0), (.int .u8 0), (.int .u8 0), (.int .u8 0), (.int .u8 0), (.int .u8 0), (.int .u8 0), (.int .u8 0), (.int .u8 0), (.int .u8 0), (.int .u8 0)], 48⟩ := by kernel_rfl
theorem el92 : elemI Try.prog 92 = none := by kernel_rfl
theorem pl92 : placesI Try.prog 92 = some [(0, 1), (1, 1), (2, 3), (5, 6), (11, 1)] := by kernel_rfl
theorem fi92_0 : fieldI Try.prog 92 0 = some (0, 1, false) := by kernel_rfl
theorem fi92_1 : fieldI Try.prog 92 1 = some (1, 1, false) := by kernel_rfl
theorem fi92_2 : fieldI Try.prog 92 2 = some (2, 3, true) := by kernel_rfl
theorem fi92_3 : fieldI Try.prog 92 3 = some (5, 6, true) := by kernel_rfl
theorem fi92_4 : fieldI Try.prog 92 4 = some (11, 1, false) := by kernel_rfl
theorem ty93 : tyI Try.prog 93 = some ⟨true, 12, [(.int .u8 0), (.slice none 0 0), (.int .u8 0), (.int .u8 0), (.int .u8 0), (.int .u8 0), (.int .u8 0), (.int .u8 0), (.int .u8 0), (.int .u8 0), (.int .u8 0), (.int .u8 0)], 48⟩ := by kernel_rfl
theorem el93 : elemI Try.prog 93 = none := by kernel_rfl
theorem pl93 : placesI Try.prog 93 = some [(0, 1), (1, 1), (2, 3), (5, 6), (11, 1)] := by kernel_rfl
theorem fi93_0 : fieldI Try.prog 93 0 = some (0, 1, false) := by kernel_rfl
theorem fi93_1 : fieldI Try.prog 93 1 = some (1, 1, false) := by kernel_rfl
theorem fi93_2 : fieldI Try.prog 93 2 = some (2, 3, true) := by kernel_rfl
theorem fi93_3 : fieldI Try.prog 93 3 = some (5, 6, true) := by kernel_rfl
theorem fi93_4 : fieldI Try.prog 93 4 = some (11, 1, false) := by kernel_rfl
theorem ty94 : tyI Try.prog 94 = some ⟨false, 1, [(.slice none 0 0)], 24⟩ := by kernel_rfl
theorem el94 : elemI Try.prog 94 = some 90 := by kernel_rfl
theorem ty95 : tyI Try.prog 95 = some ⟨false, 1, [.nilFunc], 8⟩ := by kernel_rfl
theorem el95 : elemI Try.prog 95 = none := by kernel_rfl
theorem ty96 : tyI Try.prog 96 = some ⟨false, 1, [.nilFunc], 8⟩ := by kernel_rfl
theorem el96 : elemI Try.prog 96 = none := by kernel_rfl
theorem ty97 : tyI Try.prog 97 = some ⟨false, 1, [.nilFunc], 8⟩ := by kernel_rfl
theorem el97 : elemI Try.prog 97 = none := by kernel_rfl
theorem ty98 : tyI Try.prog 98 = some ⟨false, 1, [.nilFunc], 8⟩ := by kernel_rfl
theorem el98 : elemI Try.prog 98 = none := by kernel_rfl
theorem ty99 : tyI Try.prog 99 = some ⟨false, 1, [.nilFunc], 8⟩ := by kernel_rfl
theorem el99 : elemI Try.prog 99 = none := by kernel_rfl
theorem ty100 : tyI Try.prog 100 = some ⟨false, 1, [.nilFunc], 8⟩ := by kernel_rfl
theorem el100 : elemI Try.prog 100 = none := by kernel_rfl
theorem ty101 : tyI Try.prog 101 = some ⟨false, 1, [.nilFunc], 8⟩ := by kernel_rfl
theorem el101 : elemI Try.prog 101 = none := by kernel_rfl
theorem ty102 : tyI Try.prog 102 = some ⟨false, 1, [(.int .i64 0)], 8⟩ := by kernel_rfl
theorem el102 : elemI Try.prog 102 = none := by kernel_rfl
theorem it102 : intI Try.prog 102 = some .i64 := by kernel_rfl
theorem ty103 : tyI Try.prog 103 = some ⟨true, 3, [(.int .i64 0), (.int .i64 0), (.int .i64 0)], 24⟩ := by kernel_rfl
theorem el103 : elemI Try.prog 103 = none := by kernel_rfl
theorem eq103 : eqTy Try.prog 103 = some (.st [(0, 1, .it), (1, 1, .it), (2, 1, .it)]) := by kernel_rfl
theorem pl103 : placesI Try.prog 103 = some [(0, 1), (1, 1), (2, 1)] := by kernel_rfl
theorem fi103_0 : fieldI Try.prog 103 0 = some (0, 1, false) := by kernel_rfl
theorem fi103_1 : fieldI Try.prog 103 1 = some (1, 1, false) := by kernel_rfl
theorem fi103_2 : fieldI Try.prog 103 2 = some (2, 1, false) := by kernel_rfl
theorem ty104 : tyI Try.prog 104 = some ⟨true, 3, [(.int .i64 0), (.int .i64 0), (.int .i64 0)], 24⟩ := by kernel_rfl
theorem el104 : elemI Try.prog 104 = none := by kernel_rfl
theorem eq104 : eqTy Try.prog 104 = some (.st [(0, 1, .it), (1, 1, .it), (2, 1, .it)]) := by kernel_rfl
theorem pl104 : placesI Try.prog 104 = some [(0, 1), (1, 1), (2, 1)] := by kernel_rfl
theorem fi104_0 : fieldI Try.prog 104 0 = some (0, 1, false) := by kernel_rfl
theorem fi104_1 : fieldI Try.prog 104 1 = some (1, 1, false) := by kernel_rfl
theorem fi104_2 : fieldI Try.prog 104 2 = some (2, 1, false) := by kernel_rfl
theorem ty105 : tyI Try.prog 105 = some ⟨false, 1, [.nilFunc], 8⟩ := by kernel_rfl
theorem el105 : elemI Try.prog 105 = none := by kernel_rfl
theorem ty106 : tyI Try.prog 106 = some ⟨false, 1, [.nilFunc], 8⟩ := by kernel_rfl
theorem el106 : elemI Try.prog 106 = none := by kernel_rfl
theorem ty107 : tyI Try.prog 107 = some ⟨false, 1, [(.slice none 0 0)], 24⟩ := by kernel_rfl
theorem el107 : elemI Try.prog 107 = some 91 := by kernel_rfl
theorem el108 : elemI Try.prog 108 = none := by kernel_rfl
theorem ty109 : tyI Try.prog 109 = some ⟨false, 1, [.nilFunc], 8⟩ := by kernel_rfl
theorem el109 : elemI Try.prog 109 = none := by kernel_rfl
theorem ty110 : tyI Try.prog 110 = some ⟨false, 1, [.nilFunc], 8⟩ := by kernel_rfl
theorem el110 : elemI Try.prog 110 = none := by kernel_rfl
theorem ty111 : tyI Try.prog 111 = some ⟨false, 1, [.nilFunc], 8⟩ := by kernel_rfl
theorem el111 : elemI Try.prog 111 = none := by kernel_rfl
theorem ty112 : tyI Try.prog 112 = some ⟨false, 1, [.nilFunc], 8⟩ := by kernel_rfl
theorem el112 : elemI Try.prog 112 = none := by kernel_rfl
theorem ty113 : tyI Try.prog 113 = some ⟨false, 1, [.nilFunc], 8⟩ := by kernel_rfl
theorem el113 : elemI Try.prog 113 = none := by kernel_rfl
theorem ty114 : tyI Try.prog 114 = some ⟨false, 1, [(.int .u64 0)], 8⟩ := by kernel_rfl
theorem el114 : elemI Try.prog 114 = none := by kernel_rfl
theorem it114 : intI Try.prog 114 = some .u64 := by kernel_rfl
theorem ty115 : tyI Try.prog 115 = some ⟨false, 1, [.nilFunc], 8⟩ := by kernel_rfl
theorem el115 : elemI Try.prog 115 = none := by kernel_rfl
theorem ty116 : tyI Try.prog 116 = some ⟨false, 1, [(.int .u16 0)], 2⟩ := by kernel_rfl
theorem el116 : elemI Try.prog 116 = none := by kernel_rfl
theorem it116 : intI Try.prog 116 = some .u16 := by kernel_rfl
theorem ty117 : tyI Try.prog 117 = some ⟨true, 2, [(.int .u8 0), (.int .u8 0)], 2⟩ := by kernel_rfl
theorem el117 : elemI Try.prog 117 = none := by kernel_rfl
theorem ar117 : arrI Try.prog 117 = some (2, 5) := by kernel_rfl
theorem pl117 : placesI Try.prog 117 = some [(0, 1), (1, 1)] := by kernel_rfl
theorem ty118 : tyI Try.prog 118 = some ⟨false, 1, [(.slice none 0 0)], 24⟩ := by kernel_rfl
theorem el118 : elemI Try.prog 118 = some 167 := by kernel_rfl
theorem ty119 : tyI Try.prog 119 = some ⟨true, 5, [(.int .u16 0), (.int .u8 0), (.int .u8 0), (.slice none 0 0), (.slice none 0 0)], 56⟩ := by kernel_rfl
theorem el119 : elemI Try.prog 119 = none := by kernel_rfl
theorem pl119 : placesI Try.prog 119 = some [(0, 1), (1, 2), (3, 1), (4, 1)] := by kernel_rfl
theorem fi119_0 : fieldI Try.prog 119 0 = some (0, 1, false) := by kernel_rfl
theorem fi119_1 : fieldI Try.prog 119 1 = some (1, 2, true) := by kernel_rfl
theorem fi119_2 : fieldI Try.prog 119 2 = some (3, 1, false) := by kernel_rfl
theorem fi119_3 : fieldI Try.prog 119 3 = some (4, 1, false) := by kernel_rfl
theorem ty120 : tyI Try.prog 120 = some ⟨true, 5, [(.int .u16 0), (.int .u8 0), (.int .u8 0), (.slice none 0 0), (.slice none 0 0)], 56⟩ := by kernel_rfl
theorem el120 : elemI Try.prog 120 = none := by kernel_rfl
theorem pl120 : placesI Try.prog 120 = some [(0, 1), (1, 2), (3, 1), (4, 1)] := by kernel_rfl
theorem fi120_0 : fieldI Try.prog 120 0 = some (0, 1, false) := by kernel_rfl
theorem fi120_1 : fieldI Try.prog 120 1 = some (1, 2, true) := by kernel_rfl
theorem fi120_2 : fieldI Try.prog 120 2 = some (3, 1, false) := by kernel_rfl
theorem fi120_3 : fieldI Try.prog 120 3 = some (4, 1, false) := by kernel_rfl
theorem ty121 : tyI Try.prog 121 = some ⟨false, 1, [(.slice none 0 0)], 24⟩ := by kernel_rfl
theorem el121 : elemI Try.prog 121 = some 127 := by kernel_rfl
theorem el122 : elemI Try.prog 122 = none := by kernel_rfl
theorem ty123 : tyI Try.prog 123 = some ⟨false, 1, [.nilFunc], 8⟩ := by kernel_rfl
theorem el123 : elemI Try.prog 123 = none := by kernel_rfl
theorem ty124 : tyI Try.prog 124 = some ⟨false, 1, [(.slice none 0 0)], 24⟩ := by kernel_rfl
theorem el124 : elemI Try.prog 124 = some 4 := by kernel_rfl
theorem el125 : elemI Try.prog 125 = none := by kernel_rfl
theorem ty126 : tyI Try.prog 126 = some ⟨false, 1, [.nilFunc], 8⟩ := by kernel_rfl
theorem el126 : elemI Try.prog 126 = none := by kernel_rfl
theorem ty127 : tyI Try.prog 127 = some ⟨true, 2, [(.int .i64 0), (.int .i64 0)], 16⟩ := by kernel_rfl
theorem el127 : elemI Try.prog 127 = none := by kernel_rfl
theorem ar127 : arrI Try.prog 127 = some (2, 3) := by kernel_rfl
theorem pl127 : placesI Try.prog 127 = some [(0, 1), (1, 1)] := by kernel_rfl
theorem ty128 : tyI Try.prog 128 = some ⟨false, 1, [.nilFunc], 8⟩ := by kernel_rfl
theorem el128 : elemI Try.prog 128 = none := by kernel_rfl
theorem ty129 : tyI Try.prog 129 = some ⟨false, 1, [.nilFunc], 8⟩ := by kernel_rfl
theorem el129 : elemI Try.prog 129 = none := by kernel_rfl
theorem ty130 : tyI Try.prog 130 = some ⟨false, 1, [.nilFunc], 8⟩ := by kernel_rfl
theorem el130 : elemI Try.prog 130 = none := by kernel_rfl
theorem ty131 : tyI Try.prog 131 = some ⟨false, 1, [.nilFunc], 8⟩ := by kernel_rfl
theorem el131 : elemI Try.prog 131 = none := by kernel_rfl
theorem ty132 : tyI Try.prog 132 = some ⟨false, 1, [.nilFunc], 8⟩ := by kernel_rfl
theorem el132 : elemI Try.prog 132 = none := by kernel_rfl
theorem ty133 : tyI Try.prog 133 = some ⟨false, 1, [.nilFunc], 8⟩ := by kernel_rfl
theorem el133 : elemI Try.prog 133 = none := by kernel_rfl
theorem ty134 : tyI Try.prog 134 = some ⟨true, 2, [(.int .i64 0), (.slice none 0 0)], 32⟩ := by kernel_rfl
theorem el134 : elemI Try.prog 134 = none := by kernel_rfl
theorem pl134 : placesI Try.prog 134 = some [(0, 2)] := by kernel_rfl
theorem fi134_0 : fieldI Try.prog 134 0 = some (0, 2, true) := by kernel_rfl
theorem ty135 : tyI Try.prog 135 = some ⟨true, 2, [(.int .i64 0), (.slice none 0 0)], 32⟩ := by kernel_rfl
theorem el135 : elemI Try.prog 135 = none := by kernel_rfl
theorem pl135 : placesI Try.prog 135 = some [(0, 2)] := by kernel_rfl
theorem fi135_0 : fieldI Try.prog 135 0 = some (0, 2, true) := by kernel_rfl
theorem el136 : elemI Try.prog 136 = none := by kernel_rfl
theorem ty137 : tyI Try.prog 137 = some ⟨false, 1, [.nilFunc], 8⟩ := by kernel_rfl
theorem el137 : elemI Try.prog 137 = none := by kernel_rfl
theorem ty138 : tyI Try.prog 138 = some ⟨false, 1, [.nilFunc], 8⟩ := by kernel_rfl
theorem el138 : elemI Try.prog 138 = none := by kernel_rfl
theorem ty139 : tyI Try.prog 139 = some ⟨false, 1, [.nilFunc], 8⟩ := by kernel_rfl
theorem el139 : elemI Try.prog 139 = none := by kernel_rfl
theorem ty140 : tyI Try.prog 140 = some ⟨false, 1, [.nilFunc], 8⟩ := by kernel_rfl
theorem el140 : elemI Try.prog 140 = none := by kernel_rfl
theorem ty141 : tyI Try.prog 141 = some ⟨false, 1, [.nilFunc], 8⟩ := by kernel_rfl
theorem el141 : elemI Try.prog 141 = none := by kernel_rfl
theorem ty142 : tyI Try.prog 142 = some ⟨false, 1, [.nilFunc], 8⟩ := by kernel_rfl
theorem el142 : elemI Try.prog 142 = none := by kernel_rfl
theorem ty143 : tyI Try.prog 143 = some ⟨false, 1, [.nilFunc], 8⟩ := by kernel_rfl
theorem el143 : elemI Try.prog 143 = none := by kernel_rfl
theorem ty144 : tyI Try.prog 144 = some ⟨false, 1, [.nilFunc], 8⟩ := by kernel_rfl
theorem el144 : elemI Try.prog 144 = none := by kernel_rfl
theorem ty145 : tyI Try.prog 145 = some ⟨false, 1, [.nilFunc], 8⟩ := by kernel_rfl
theorem el145 : elemI Try.prog 145 = none := by kernel_rfl
theorem ty146 : tyI Try.prog 146 = some ⟨false, 1, [.nilFunc], 8⟩ := by kernel_rfl
theorem el146 : elemI Try.prog 146 = none := by kernel_rfl
theorem ty147 : tyI Try.prog 147 = some ⟨false, 1, [.nilFunc], 8⟩ := by kernel_rfl
theorem el147 : elemI Try.prog 147 = none := by kernel_rfl
theorem ty148 : tyI Try.prog 148 = some ⟨true, 3, [(.int .i64 0), (.int .i64 0), (.int .i64 0)], 24⟩ := by kernel_rfl
theorem el148 : elemI Try.prog 148 = none := by kernel_rfl
theorem eq148 : eqTy Try.prog 148 = some (.st [(0, 1, .it), (1, 1, .it), (2, 1, .it)]) := by kernel_rfl
theorem pl148 : placesI Try.prog 148 = some [(0, 1), (1, 1), (2, 1)] := by kernel_rfl
theorem fi148_0 : fieldI Try.prog 148 0 = some (0, 1, false) := by kernel_rfl
theorem fi148_1 : fieldI Try.prog 148 1 = some (1, 1, false) := by kernel_rfl
theorem fi148_2 : fieldI Try.prog 148 2 = some (2, 1, false) := by kernel_rfl
theorem ty149 : tyI Try.prog 149 = some ⟨true, 3, [(.int .i64 0), (.int .i64 0), (.int .i64 0)], 24⟩ := by kernel_rfl
theorem el149 : elemI Try.prog 149 = none := by kernel_rfl
theorem eq149 : eqTy Try.prog 149 = some (.st [(0, 1, .it), (1, 1, .it), (2, 1, .it)]) := by kernel_rfl
theorem pl149 : placesI Try.prog 149 = some [(0, 1), (1, 1), (2, 1)] := by kernel_rfl
theorem fi149_0 : fieldI Try.prog 149 0 = some (0, 1, false) := by kernel_rfl
theorem fi149_1 : fieldI Try.prog 149 1 = some (1, 1, false) := by kernel_rfl
theorem fi149_2 : fieldI Try.prog 149 2 = some (2, 1, false) := by kernel_rfl
theorem ty150 : tyI Try.prog 150 = some ⟨false, 1, [.nilFunc], 8⟩ := by kernel_rfl
theorem el150 : elemI Try.prog 150 = none := by kernel_rfl
theorem el151 : elemI Try.prog 151 = none := by kernel_rfl
theorem ty152 : tyI Try.prog 152 = some ⟨false, 1, [.nilFunc], 8⟩ := by kernel_rfl
theorem el152 : elemI Try.prog 152 = none := by kernel_rfl
theorem ty153 : tyI Try.prog 153 = some ⟨false, 1, [.nilFunc], 8⟩ := by kernel_rfl
theorem el153 : elemI Try.prog 153 = none := by kernel_rfl
theorem ty154 : tyI Try.prog 154 = some ⟨false, 1, [.nilFunc], 8⟩ := by kernel_rfl
theorem el154 : elemI Try.prog 154 = none := by kernel_rfl
theorem ty155 : tyI Try.prog 155 = some ⟨false, 1, [.nilFunc], 8⟩ := by kernel_rfl
theorem el155 : elemI Try.prog 155 = none := by kernel_rfl
theorem ty156 : tyI Try.prog 156 = some ⟨false, 1, [.nilFunc], 8⟩ := by kernel_rfl
theorem el156 : elemI Try.prog 156 = none := by kernel_rfl
theorem ty157 : tyI Try.prog 157 = some ⟨false, 1, [.nilFunc], 8⟩ := by kernel_rfl
theorem el157 : elemI Try.prog 157 = none := by kernel_rfl
theorem ty158 : tyI Try.prog 158 = some ⟨false, 1, [.nilFunc], 8⟩ := by kernel_rfl
theorem el158 : elemI Try.prog 158 = none := by kernel_rfl
theorem ty159 : tyI Try.prog 159 = some ⟨false, 1, [.nilFunc], 8⟩ := by kernel_rfl
theorem el159 : elemI Try.prog 159 = none := by kernel_rfl
theorem ty160 : tyI Try.prog 160 = some ⟨true, 3, [(.int .i64 0), (.int .i64 0), (.int .i64 0)], 24⟩ := by kernel_rfl
theorem el160 : elemI Try.prog 160 = none := by kernel_rfl
theorem eq160 : eqTy Try.prog 160 = some (.st [(0, 3, (.st [(0, 1, .it), (1, 1, .it), (2, 1, .it)]))]) := by kernel_rfl
theorem pl160 : placesI Try.prog 160 = some [(0, 3)] := by kernel_rfl
theorem fi160_0 : fieldI Try.prog 160 0 = some (0, 3, true) := by kernel_rfl
theorem ty161 : tyI Try.prog 161 = some ⟨true, 3, [(.int .i64 0), (.int .i64 0), (.int .i64 0)], 24⟩ := by kernel_rfl
theorem el161 : elemI Try.prog 161 = none := by kernel_rfl
theorem eq161 : eqTy Try.prog 161 = some (.st [(0, 3, (.st [(0, 1, .it), (1, 1, .it), (2, 1, .it)]))]) := by kernel_rfl
theorem pl161 : placesI Try.prog 161 = some [(0, 3)] := by kernel_rfl
theorem fi161_0 : fieldI Try.prog 161 0 = some (0, 3, true) := by kernel_rfl
theorem ty162 : tyI Try.prog 162 = some ⟨false, 1, [.nilFunc], 8⟩ := by kernel_rfl
theorem el162 : elemI Try.prog 162 = none := by kernel_rfl
theorem ty163 : tyI Try.prog 163 = some ⟨false, 1, [.nilFunc], 8⟩ := by kernel_rfl
theorem el163 : elemI Try.prog 163 = none := by kernel_rfl
theorem ty164 : tyI Try.prog 164 = some ⟨false, 1, [.nilFunc], 8⟩ := by kernel_rfl
theorem el164 : elemI Try.prog 164 = none := by kernel_rfl
theorem ty165 : tyI Try.prog 165 = some ⟨false, 1, [.nilFunc], 8⟩ := by kernel_rfl
theorem el165 : elemI Try.prog 165 = none := by kernel_rfl
theorem ty166 : tyI Try.prog 166 = some ⟨false, 1, [.nilFunc], 8⟩ := by kernel_rfl
theorem el166 : elemI Try.prog 166 = none := by kernel_rfl
theorem ty167 : tyI Try.prog 167 = some ⟨true, 6, [(.int .u8 0), (.int .u8 0), (.int .u8 0), (.int .u8 0), (.int .u8 0), (.int .u8 0)], 6⟩ := by kernel_rfl
theorem el167 : elemI Try.prog 167 = none := by kernel_rfl
theorem ar167 : arrI Try.prog 167 = some (6, 5) := by kernel_rfl
theorem pl167 : placesI Try.prog 167 = some [(0, 1), (1, 1), (2, 1), (3, 1), (4, 1), (5, 1)] := by kernel_rfl
theorem ty168 : tyI Try.prog 168 = some ⟨false, 1, [.nilFunc], 8⟩ := by kernel_rfl
theorem el168 : elemI Try.prog 168 = none := by kernel_rfl
theorem ty169 : tyI Try.prog 169 = some ⟨false, 1, [.nilFunc], 8⟩ := by kernel_rfl
theorem el169 : elemI Try.prog 169 = none := by kernel_rfl
theorem ty170 : tyI Try.prog 170 = some ⟨false, 1, [.nilFunc], 8⟩ := by kernel_rfl
theorem el170 : elemI Try.prog 170 = none := by kernel_rfl
theorem ty171 : tyI Try.prog 171 = some ⟨false, 1, [.nilFunc], 8⟩ := by kernel_rfl
theorem el171 : elemI Try.prog 171 = none := by kernel_rfl
theorem ty172 : tyI Try.prog 172 = some ⟨false, 1, [.nilFunc], 8⟩ := by kernel_rfl
theorem el172 : elemI Try.prog 172 = none := by kernel_rfl
theorem ty173 : tyI Try.prog 173 = some ⟨false, 1, [.nilFunc], 8⟩ := by kernel_rfl
theorem el173 : elemI Try.prog 173 = none := by kernel_rfl
theorem ty174 : tyI Try.prog 174 = some ⟨false, 1, [.nilFunc], 8⟩ := by kernel_rfl
theorem el174 : elemI Try.prog 174 = none := by kernel_rfl
theorem ty175 : tyI Try.prog 175 = some ⟨false, 1, [.nilFunc], 8⟩ := by kernel_rfl
theorem el175 : elemI Try.prog 175 = none := by kernel_rfl
theorem ty176 : tyI Try.prog 176 = some ⟨false, 1, [.nilFunc], 8⟩ := by kernel_rfl
theorem el176 : elemI Try.prog 176 = none := by kernel_rfl
theorem ty177 : tyI Try.prog 177 = some ⟨false, 1, [.nilFunc], 8⟩ := by kernel_rfl
theorem el177 : elemI Try.prog 177 = none := by kernel_rfl
theorem ty178 : tyI Try.prog 178 = some ⟨false, 1, [.nilFunc], 8⟩ := by kernel_rfl
theorem el178 : elemI Try.prog 178 = none := by kernel_rfl
theorem ty179 : tyI Try.prog 179 = some ⟨false, 1, [.nilFunc], 8⟩ := by kernel_rfl
theorem el179 : elemI Try.prog 179 = none := by kernel_rfl
theorem ty180 : tyI Try.prog 180 = some ⟨false, 1, [.nilFunc], 8⟩ := by kernel_rfl
theorem el180 : elemI Try.prog 180 = none := by kernel_rfl
theorem ty181 : tyI Try.prog 181 = some ⟨false, 1, [.nilFunc], 8⟩ := by kernel_rfl
theorem el181 : elemI Try.prog 181 = none := by kernel_rfl
theorem ty182 : tyI Try.prog 182 = some ⟨false, 1, [.nilFunc], 8⟩ := by kernel_rfl
theorem el182 : elemI Try.prog 182 = none := by kernel_rfl
theorem ty183 : tyI Try.prog 183 = some ⟨false, 1, [.nilFunc], 8⟩ := by kernel_rfl
theorem el183 : elemI Try.prog 183 = none := by kernel_rfl
theorem ty184 : tyI Try.prog 184 = some ⟨false, 1, [.nilFunc], 8⟩ := by kernel_rfl
theorem el184 : elemI Try.prog 184 = none := by kernel_rfl
theorem ty185 : tyI Try.prog 185 = some ⟨true, 4, [(.pointer none), (.pointer none), (.pointer none), (.string ⟨#[]⟩)], 40⟩ := by kernel_rfl
theorem el185 : elemI Try.prog 185 = none := by kernel_rfl
theorem pl185 : placesI Try.prog 185 = some [(0, 1), (1, 1), (2, 1), (3, 1)] := by kernel_rfl
theorem fi185_0 : fieldI Try.prog 185 0 = some (0, 1, false) := by kernel_rfl
theorem fi185_1 : fieldI Try.prog 185 1 = some (1, 1, false) := by kernel_rfl
theorem fi185_2 : fieldI Try.prog 185 2 = some (2, 1, false) := by kernel_rfl
theorem fi185_3 : fieldI Try.prog 185 3 = some (3, 1, false) := by kernel_rfl
theorem ty186 : tyI Try.prog 186 = some ⟨true, 4, [(.pointer none), (.pointer none), (.pointer none), (.string ⟨#[]⟩)], 40⟩ := by kernel_rfl
theorem el186 : elemI Try.prog 186 = none := by kernel_rfl
theorem pl186 : placesI Try.prog 186 = some [(0, 1), (1, 1), (2, 1), (3, 1)] := by kernel_rfl
theorem fi186_0 : fieldI Try.prog 186 0 = some (0, 1, false) := by kernel_rfl
theorem fi186_1 : fieldI Try.prog 186 1 = some (1, 1, false) := by kernel_rfl
theorem fi186_2 : fieldI Try.prog 186 2 = some (2, 1, false) := by kernel_rfl
theorem fi186_3 : fieldI Try.prog 186 3 = some (3, 1, false) := by kernel_rfl
theorem ty187 : tyI Try.prog 187 = some ⟨true, 0, [], 0⟩ := by kernel_rfl
theorem el187 : elemI Try.prog 187 = none := by kernel_rfl
theorem ar187 : arrI Try.prog 187 = some (0, 16) := by kernel_rfl
theorem pl187 : placesI Try.prog 187 = some [] := by kernel_rfl
theorem ty188 : tyI Try.prog 188 = some ⟨true, 0, [], 0⟩ := by kernel_rfl
theorem el188 : elemI Try.prog 188 = none := by kernel_rfl
theorem pl188 : placesI Try.prog 188 = some [(0, 0)] := by kernel_rfl
theorem ty189 : tyI Try.prog 189 = some ⟨true, 0, [], 0⟩ := by kernel_rfl
theorem el189 : elemI Try.prog 189 = none := by kernel_rfl
theorem pl189 : placesI Try.prog 189 = some [(0, 0)] := by kernel_rfl
theorem ty190 : tyI Try.prog 190 = some ⟨false, 1, [.nilFunc], 8⟩ := by kernel_rfl
theorem el190 : elemI Try.prog 190 = none := by kernel_rfl
theorem ty191 : tyI Try.prog 191 = some ⟨false, 1, [(.int .u32 0)], 4⟩ := by kernel_rfl
theorem el191 : elemI Try.prog 191 = none := by kernel_rfl
theorem it191 : intI Try.prog 191 = some .u32 := by kernel_rfl
theorem ty192 : tyI Try.prog 192 = some ⟨false, 1, [(.int .u8 0)], 1⟩ := by kernel_rfl
theorem el192 : elemI Try.prog 192 = none := by kernel_rfl
theorem it192 : intI Try.prog 192 = some .u8 := by kernel_rfl
theorem ty193 : tyI Try.prog 193 = some ⟨false, 1, [(.int .u8 0)], 1⟩ := by kernel_rfl
theorem el193 : elemI Try.prog 193 = none := by kernel_rfl
theorem it193 : intI Try.prog 193 = some .u8 := by kernel_rfl
theorem ty194 : tyI Try.prog 194 = some ⟨false, 1, [.nilFunc], 8⟩ := by kernel_rfl
theorem el194 : elemI Try.prog 194 = none := by kernel_rfl
theorem ty195 : tyI Try.prog 195 = some ⟨false, 1, [(.pointer none)], 8⟩ := by kernel_rfl
theorem el195 : elemI Try.prog 195 = none := by kernel_rfl
theorem ty196 : tyI Try.prog 196 = some ⟨false, 1, [(.int .i32 0)], 4⟩ := by kernel_rfl
theorem el196 : elemI Try.prog 196 = none := by kernel_rfl
theorem it196 : intI Try.prog 196 = some .i32 := by kernel_rfl
theorem ty197 : tyI Try.prog 197 = some ⟨false, 1, [(.int .i32 0)], 4⟩ := by kernel_rfl
theorem el197 : elemI Try.prog 197 = none := by kernel_rfl
theorem it197 : intI Try.prog 197 = some .i32 := by kernel_rfl
theorem ty198 : tyI Try.prog 198 = some ⟨true, 11, [(.int .u64 0), (.int .u64 0), (.int .u32 0), (.int .u8 0), (.int .u8 0), (.int .u8 0), (.int .u8 0), .nilFunc, (.pointer none), (.int .i32 0), (.int .i32 0)], 48⟩ := by kernel_rfl
theorem el198 : elemI Try.prog 198 = none := by kernel_rfl
theorem pl198 : placesI Try.prog 198 = some [(0, 1), (1, 1), (2, 1), (3, 1), (4, 1), (5, 1), (6, 1), (7, 1), (8, 1), (9, 1), (10, 1)] := by kernel_rfl
theorem fi198_0 : fieldI Try.prog 198 0 = some (0, 1, false) := by kernel_rfl
theorem fi198_1 : fieldI Try.prog 198 1 = some (1, 1, false) := by kernel_rfl
theorem fi198_2 : fieldI Try.prog 198 2 = some (2, 1, false) := by kernel_rfl
theorem fi198_3 : fieldI Try.prog 198 3 = some (3, 1, false) := by kernel_rfl
theorem fi198_4 : fieldI Try.prog 198 4 = some (4, 1, false) := by kernel_rfl
theorem fi198_5 : fieldI Try.prog 198 5 = some (5, 1, false) := by kernel_rfl
theorem fi198_6 : fieldI Try.prog 198 6 = some (6, 1, false) := by kernel_rfl
theorem fi198_7 : fieldI Try.prog 198 7 = some (7, 1, false) := by kernel_rfl
theorem fi198_8 : fieldI Try.prog 198 8 = some (8, 1, false) := by kernel_rfl
theorem fi198_9 : fieldI Try.prog 198 9 = some (9, 1, false) := by kernel_rfl
theorem fi198_10 : fieldI Try.prog 198 10 = some (10, 1, false) := by kernel_rfl
theorem ty199 : tyI Try.prog 199 = some ⟨true, 11, [(.int .u64 0), (.int .u64 0), (.int .u32 0), (.int .u8 0), (.int .u8 0), (.int .u8 0), (.int .u8 0), .nilFunc, (.pointer none), (.int .i32 0), (.int .i32 0)], 48⟩ := by kernel_rfl
theorem el199 : elemI Try.prog 199 = none := by kernel_rfl
theorem pl199 : placesI Try.prog 199 = some [(0, 1), (1, 1), (2, 1), (3, 1), (4, 1), (5, 1), (6, 1), (7, 1), (8, 1), (9, 1), (10, 1)] := by kernel_rfl
theorem fi199_0 : fieldI Try.prog 199 0 = some (0, 1, false) := by kernel_rfl
theorem fi199_1 : fieldI Try.prog 199 1 = some (1, 1, false) := by kernel_rfl
theorem fi199_2 : fieldI Try.prog 199 2 = some (2, 1, false) := by kernel_rfl
theorem fi199_3 : fieldI Try.prog 199 3 = some (3, 1, false) := by kernel_rfl
theorem fi199_4 : fieldI Try.prog 199 4 = some (4, 1, false) := by kernel_rfl
theorem fi199_5 : fieldI Try.prog 199 5 = some (5, 1, false) := by kernel_rfl
theorem fi199_6 : fieldI Try.prog 199 6 = some (6, 1, false) := by kernel_rfl
theorem fi199_7 : fieldI Try.prog 199 7 = some (7, 1, false) := by kernel_rfl
theorem fi199_8 : fieldI Try.prog 199 8 = some (8, 1, false) := by kernel_rfl
theorem fi199_9 : fieldI Try.prog 199 9 = some (9, 1, false) := by kernel_rfl
theorem fi199_10 : fieldI Try.prog 199 10 = some (10, 1, false) := by kernel_rfl
theorem ty200 : tyI Try.prog 200 = some ⟨false, 1, [(.pointer none)], 8⟩ := by kernel_rfl
theorem el200 : elemI Try.prog 200 = none := by kernel_rfl
attribute [go_sem] el0 ty1 el1 ty2 el2 it2 ty3 el3 it3 ty4 el4 bl4 ty5 el5 it5 ty6 el6 it6 ty7 el7 eq7 pl7 fi7_0 fi7_1 fi7_2 fi7_3 ty8 el8 eq8 pl8 fi8_0 fi8_1 fi8_2 fi8_3 ty9 el9 ty10 el10 ty11 el11 ty12 el12 it12 ty13 el13 pl13 fi13_0 fi13_1 ty14 el14 pl14 fi14_0 fi14_1 ty15 el15 ty16 el16 ty17 el17 ty18 el18 pl18 fi18_0 ty19 el19 pl19 fi19_0 ty20 el20 ty21 el21 it21 ty22 el22 ty23 el23 pl23 fi23_0 fi23_1 ty24 el24 pl24 fi24_0 fi24_1 ty25 el25 ty26 el26 pl26 fi26_0 fi26_1 ty27 el27 pl27 fi27_0 fi27_1 ty28 el28 ty29 el29 ty30 el30 ty31 el31 ty32 el32 ty33 el33 it33 el34 ty35 el35 el36 ty37 el37 ty38 el38 ty39 el39 ty40 el40 ty41 el41 el42 ty43 el43 ty44 el44 ty45 el45 ty46 el46 ty47 el47 eq47 pl47 fi47_0 fi47_1 fi47_2 fi47_3 ty48 el48 eq48 pl48 fi48_0 fi48_1 fi48_2 fi48_3 el49 ty50 el50 ty51 el51 el52 ty53 el53 ty54 el54 ty55 el55 ar55 pl55 ty56 el56 el57 ty58 el58 ty59 el59 ty60 el60 el61 ty62 el62 ty63 el63 ty64 el64 ty65 el65 el66 ty67 el67 ty68 el68 ty69 el69 ty70 el70 ty71 el71 eq71 pl71 fi71_0 fi71_1 fi71_2 ty72 el72 eq72 pl72 fi72_0 fi72_1 fi72_2 ty73 el73 ty74 el74 pl74 fi74_0 fi74_1 ty75 el75 pl75 fi75_0 fi75_1 ty76 el76 el77 ty78 el78 ty79 el79 ty80 el80 eq80 pl80 fi80_0 fi80_1 ty81 el81 eq81 pl81 fi81_0 fi81_1 el82 ty83 el83 ty84 el84 eq84 pl84 fi84_0 fi84_1 ty85 el85 eq85 pl85 fi85_0 fi85_1 ty86 el86 ty87 el87 ty88 el88 ty89 el89 ty90 el90 ar90 pl90 ty91 el91 ar91 pl91 ty92 el92 pl92 fi92_0 fi92_1 fi92_2 fi92_3 fi92_4 ty93 el93 pl93 fi93_0 fi93_1 fi93_2 fi93_3 fi93_4 ty94 el94 ty95 el95 ty96 el96 ty97 el97 ty98 el98 ty99 el99 ty100 el100 ty101 el101 ty102 el102 it102 ty103 el103 eq103 pl103 fi103_0 fi103_1 fi103_2 ty104 el104 eq104 pl104 fi104_0 fi104_1 fi104_2 ty105 el105 ty106 el106 ty107 el107 el108 ty109 el109 ty110 el110 ty111 el111 ty112 el112 ty113 el113 ty114 el114 it114 ty115 el115 ty116 el116 it116 ty117 el117 ar117 pl117 ty118 el118 ty119 el119 pl119 fi119_0 fi119_1 fi119_2 fi119_3 ty120 el120 pl120 fi120_0 fi120_1 fi120_2 fi120_3 ty121 el121 el122 ty123 el123 ty124 el124 el125 ty126 el126 ty127 el127 ar127 pl127 ty128 el128 ty129 el129 ty130 el130 ty131 el131 ty132 el132 ty133 el133 ty134 el134 pl134 fi134_0 ty135 el135 pl135 fi135_0 el136 ty137 el137 ty138 el138 ty139 el139 ty140 el140 ty141 el141 ty142 el142 ty143 el143 ty144 el144 ty145 el145 ty146 el146 ty147 el147 ty148 el148 eq148 pl148 fi148_0 fi148_1 fi148_2 ty149 el149 eq149 pl149 fi149_0 fi149_1 fi149_2 ty150 el150 el151 ty152 el152 ty153 el153 ty154 el154 ty155 el155 ty156 el156 ty157 el157 ty158 el158 ty159 el159 ty160 el160 eq160 pl160 fi160_0 ty161 el161 eq161 pl161 fi161_0 ty162 el162 ty163 el163 ty164 el164 ty165 el165 ty166 el166 ty167 el167 ar167 pl167 ty168 el168 ty169 el169 ty170 el170 ty171 el171 ty172 el172 ty173 el173 ty174 el174 ty175 el175 ty176 el176 ty177 el177 ty178 el178 ty179 el179 ty180 el180 ty181 el181 ty182 el182 ty183 el183 ty184 el184 ty185 el185 pl185 fi185_0 fi185_1 fi185_2 fi185_3 ty186 el186 pl186 fi186_0 fi186_1 fi186_2 fi186_3 ty187 el187 ar187 pl187 ty188 el188 pl188 ty189 el189 pl189 ty190 el190 ty191 el191 it191 ty192 el192 it192 ty193 el193 it193 ty194 el194 ty195 el195 ty196 el196 it196 ty197 el197 it197 ty198 el198 pl198 fi198_0 fi198_1 fi198_2 fi198_3 fi198_4 fi198_5 fi198_6 fi198_7 fi198_8 fi198_9 fi198_10 ty199 el199 pl199 fi199_0 fi199_1 fi199_2 fi199_3 fi199_4 fi199_5 fi199_6 fi199_7 fi199_8 fi199_9 fi199_10 ty200 el200
end Go.Dw.Seat
end
section
namespace Go.Dw.Seat
open Go Go.Dw
def Mv (a c : Nat) : SO := ⟨some a, .move (.tmp c), none⟩
def Sg (a c : Nat) : SO := ⟨some a, .assign (.tmp c), none⟩
def Ld (a b c : Nat) : SO := ⟨some a, .load b (.tmp c), none⟩
def Fa (a b c d : Nat) : SO := ⟨some a, .fieldAddr b (.tmp c) d, none⟩
def Xt (a c d : Nat) : SO := ⟨some a, .extract (.tmp c) d, none⟩
def Ix (a b c d : Nat) : SO := ⟨some a, .indexAddr b (.tmp c) (.tmp d), none⟩
def Ln (a c t : Nat) : SO := ⟨some a, .call { callee := .builtin .len, args := #[.tmp c], argTypes := #[t] }, none⟩
def Cl (a f : Nat) (x : Array Operand) (y : Array TypeId) : SO := ⟨some a, .call { callee := .value (.func f), args := x, argTypes := y }, none⟩
def Oo (a : Nat) (o : Op) : SO := ⟨some a, o, none⟩
def Og (a : Nat) (o : Op) (g : Nat) (b : Bool) : SO := ⟨some a, o, some (g, b)⟩
end Go.Dw.Seat
namespace Go.Dw.Seat
open Go Go.Dw Go.Proofs
theorem hb3 : hasBody Try.prog 3 = true := by kernel_rfl
theorem hb8 : hasBody Try.prog 8 = true := by kernel_rfl
def s10 : SF := ⟨240, [.tmp 6], (.seq (.reg false [Oo 3 (.box 93 (.tmp 0)), Oo 6 (.assign (.const (.bool false)))]) (.seq (.reg false [Ld 28 93 3, Cl 29 44 #[.tmp 28] #[93], Mv 30 2, Oo 31 (.convert 5 3 (.tmp 30)), Oo 32 (.binOp .rem 3 (.tmp 31) (.const (.int .i64 8)) 3), Oo 33 (.binOp .add 3 (.const (.int .i64 1)) (.tmp 32) 3), Oo 7 (.alloc 24), ⟨none, .store 24 (.tmp 7) (.tmp 29), none⟩, Sg 8 33]) (.seq (.reg false [Ld 34 93 3, Ld 35 24 7, Cl 36 46 #[.tmp 34, .tmp 35] #[93, 24], Oo 37 (.buildSlice 41 1 #[(0, (.tmp 36))]), Sg 9 37]) (.seq (.seq (.reg false [Oo 10 (.assign (.const (.int .i64 0)))]) (.block 0 (.loop (.seq (.seq (.reg false [Mv 38 10, Mv 39 1, Ln 40 39 107, Oo 41 (.binOp .lss 3 (.tmp 38) (.tmp 40) 3), Mv 42 41, Og 43 (.move (.tmp 10)) 42 true, Og 44 (.binOp .lss 3 (.tmp 43) (.const (.int .i64 6)) 3) 42 true, Oo 45 (.pick (.tmp 42) (.tmp 44) (.const (.bool false)))]) (.cond (.tmp 45) .skip (.exit 0))) (.seq (.block 1 (.seq (.ord (.op ⟨some 48, .move (.tmp 1), none⟩ (.op ⟨some 49, .move (.tmp 10), none⟩ (.op ⟨some 50, .indexAddr 107 (.tmp 48) (.tmp 49), none⟩ (.op ⟨some 51, .load 91 (.tmp 50), none⟩ (.op ⟨some 58, .fieldAddr 93 (.tmp 3) 3, none⟩ (.alt (.op ⟨some 52, .move (.tmp 1), none⟩ (.alt (.op ⟨some 53, .move (.tmp 10), none⟩ (.alt (.op ⟨some 54, .indexAddr 107 (.tmp 52) (.tmp 53), none⟩ (.alt (.op ⟨some 55, .indexAddr 91 (.tmp 54) (.const (.int .i64 0)), none⟩ (.alt (.op ⟨some 56, .indexAddr 90 (.tmp 55) (.const (.int .i64 0)), none⟩ (.alt (.op ⟨some 57, .load 5 (.tmp 56), none⟩ (.op ⟨none, .store 91 (.tmp 58) (.tmp 51), none⟩ (.op ⟨some 59, .fieldAddr 93 (.tmp 3) 4, none⟩ (.op ⟨none, .store 5 (.tmp 59) (.tmp 57), none⟩ .done)))) (.op ⟨none, .store 91 (.tmp 58) (.tmp 51), none⟩ (.op ⟨some 57, .load 5 (.tmp 56), none⟩ (.op ⟨some 59, .fieldAddr 93 (.tmp 3) 4, none⟩ (.op ⟨none, .store 5 (.tmp 59) (.tmp 57), none⟩ .done)))))) (.op ⟨none, .store 91 (.tmp 58) (.tmp 51), none⟩ (.op ⟨some 56, .indexAddr 90 (.tmp 55) (.const (.int .i64 0)), none⟩ (.op ⟨some 57, .load 5 (.tmp 56), none⟩ (.op ⟨some 59, .fieldAddr 93 (.tmp 3) 4, none⟩ (.op ⟨none, .store 5 (.tmp 59) (.tmp 57), none⟩ .done))))))) (.op ⟨none, .store 91 (.tmp 58) (.tmp 51), none⟩ (.op ⟨some 55, .indexAddr 91 (.tmp 54) (.const (.int .i64 0)), none⟩ (.op ⟨some 56, .indexAddr 90 (.tmp 55) (.const (.int .i64 0)), none⟩ (.op ⟨some 57, .load 5 (.tmp 56), none⟩ (.op ⟨some 59, .fieldAddr 93 (.tmp 3) 4, none⟩ (.op ⟨none, .store 5 (.tmp 59) (.tmp 57), none⟩ .done)))))))) (.op ⟨none, .store 91 (.tmp 58) (.tmp 51), none⟩ (.op ⟨some 54, .indexAddr 107 (.tmp 52) (.tmp 53), none⟩ (.op ⟨some 55, .indexAddr 91 (.tmp 54) (.const (.int .i64 0)), none⟩ (.op ⟨some 56, .indexAddr 90 (.tmp 55) (.const (.int .i64 0)), none⟩ (.op ⟨some 57, .load 5 (.tmp 56), none⟩ (.op ⟨some 59, .fieldAddr 93 (.tmp 3) 4, none⟩ (.op ⟨none, .store 5 (.tmp 59) (.tmp 57), none⟩ .done))))))))) (.op ⟨none, .store 91 (.tmp 58) (.tmp 51), none⟩ (.op ⟨some 53, .move (.tmp 10), none⟩ (.op ⟨some 54, .indexAddr 107 (.tmp 52) (.tmp 53), none⟩ (.op ⟨some 55, .indexAddr 91 (.tmp 54) (.const (.int .i64 0)), none⟩ (.op ⟨some 56, .indexAddr 90 (.tmp 55) (.const (.int .i64 0)), none⟩ (.op ⟨some 57, .load 5 (.tmp 56), none⟩ (.op ⟨some 59, .fieldAddr 93 (.tmp 3) 4, none⟩ (.op ⟨none, .store 5 (.tmp 59) (.tmp 57), none⟩ .done)))))))))) (.alt (.op ⟨some 53, .move (.tmp 10), none⟩ (.alt (.op ⟨some 52, .move (.tmp 1), none⟩ (.alt (.op ⟨some 54, .indexAddr 107 (.tmp 52) (.tmp 53), none⟩ (.alt (.op ⟨some 55, .indexAddr 91 (.tmp 54) (.const (.int .i64 0)), none⟩ (.alt (.op ⟨some 56, .indexAddr 90 (.tmp 55) (.const (.int .i64 0)), none⟩ (.alt (.op ⟨some 57, .load 5 (.tmp 56), none⟩ (.op ⟨none, .store 91 (.tmp 58) (.tmp 51), none⟩ (.op ⟨some 59, .fieldAddr 93 (.tmp 3) 4, none⟩ (.op ⟨none, .store 5 (.tmp 59) (.tmp 57), none⟩ .done)))) (.op ⟨none, .store 91 (.tmp 58) (.tmp 51), none⟩ (.op ⟨some 57, .load 5 (.tmp 56), none⟩ (.op ⟨some 59, .fieldAddr 93 (.tmp 3) 4, none⟩ (.op ⟨none, .store 5 (.tmp 59) (.tmp 57), none⟩ .done)))))) (.op ⟨none, .store 91 (.tmp 58) (.tmp 51), none⟩ (.op ⟨some 56, .indexAddr 90 (.tmp 55) (.const (.int .i64 0)), none⟩ (.op ⟨some 57, .load 5 (.tmp 56), none⟩ (.op ⟨some 59, .fieldAddr 93 (.tmp 3) 4, none⟩ (.op ⟨none, .store 5 (.tmp 59) (.tmp 57), none⟩ .done))))))) (.op ⟨none, .store 91 (.tmp 58) (.tmp 51), none⟩ (.op ⟨some 55, .indexAddr 91 (.tmp 54) (.const (.int .i64 0)), none⟩ (.op ⟨some 56, .indexAddr 90 (.tmp 55) (.const (.int .i64 0)), none⟩ (.op ⟨some 57, .load 5 (.tmp 56), none⟩ (.op ⟨some 59, .fieldAddr 93 (.tmp 3) 4, none⟩ (.op ⟨none, .store 5 (.tmp 59) (.tmp 57), none⟩ .done)))))))) (.op ⟨none, .store 91 (.tmp 58) (.tmp 51), none⟩ (.op ⟨some 54, .indexAddr 107 (.tmp 52) (.tmp 53), none⟩ (.op ⟨some 55, .indexAddr 91 (.tmp 54) (.const (.int .i64 0)), none⟩ (.op ⟨some 56, .indexAddr 90 (.tmp 55) (.const (.int .i64 0)), none⟩ (.op ⟨some 57, .load 5 (.tmp 56), none⟩ (.op ⟨some 59, .fieldAddr 93 (.tmp 3) 4, none⟩ (.op ⟨none, .store 5 (.tmp 59) (.tmp 57), none⟩ .done))))))))) (.op ⟨none, .store 91 (.tmp 58) (.tmp 51), none⟩ (.op ⟨some 52, .move (.tmp 1), none⟩ (.op ⟨some 54, .indexAddr 107 (.tmp 52) (.tmp 53), none⟩ (.op ⟨some 55, .indexAddr 91 (.tmp 54) (.const (.int .i64 0)), none⟩ (.op ⟨some 56, .indexAddr 90 (.tmp 55) (.const (.int .i64 0)), none⟩ (.op ⟨some 57, .load 5 (.tmp 56), none⟩ (.op ⟨some 59, .fieldAddr 93 (.tmp 3) 4, none⟩ (.op ⟨none, .store 5 (.tmp 59) (.tmp 57), none⟩ .done)))))))))) (.op ⟨none, .store 91 (.tmp 58) (.tmp 51), none⟩ (.op ⟨some 52, .move (.tmp 1), none⟩ (.op ⟨some 53, .move (.tmp 10), none⟩ (.op ⟨some 54, .indexAddr 107 (.tmp 52) (.tmp 53), none⟩ (.op ⟨some 55, .indexAddr 91 (.tmp 54) (.const (.int .i64 0)), none⟩ (.op ⟨some 56, .indexAddr 90 (.tmp 55) (.const (.int .i64 0)), none⟩ (.op ⟨some 57, .load 5 (.tmp 56), none⟩ (.op ⟨some 59, .fieldAddr 93 (.tmp 3) 4, none⟩ (.op ⟨none, .store 5 (.tmp 59) (.tmp 57), none⟩ .done))))))))))))))))) (.reg false [Mv 60 9, Ld 61 93 3, Ld 62 24 7, Cl 63 46 #[.tmp 61, .tmp 62] #[93, 24], Oo 64 (.buildSlice 41 1 #[(0, (.tmp 63))]), Oo 65 (.call { callee := .builtin .append, args := #[.tmp 60, .tmp 64], argTypes := #[41, 41] }), Sg 9 65]))) (.reg false [Mv 46 10, Oo 47 (.binOp .add 3 (.tmp 46) (.const (.int .i64 1)) 3), Sg 10 47])))))) (.seq (.reg false [Ld 67 24 7, Cl 68 16 #[.tmp 67] #[24], Mv 69 9, Cl 70 34 #[.tmp 69] #[41], Mv 71 8, Cl 72 35 #[.tmp 68, .tmp 70, .tmp 71] #[24, 41, 3], Mv 66 72, Xt 73 66 0, Xt 74 66 1, Sg 11 73, Sg 12 74]) (.seq (.reg false [Ld 76 24 7, Cl 77 16 #[.tmp 76] #[24], Mv 78 9, Cl 79 34 #[.tmp 78] #[41], Mv 80 8, Oo 81 (.binOp .add 3 (.tmp 80) (.const (.int .i64 4)) 3), Cl 82 35 #[.tmp 77, .tmp 79, .tmp 81] #[24, 41, 3], Mv 75 82, Xt 83 75 0, Xt 84 75 1, Sg 13 83, Sg 14 84]) (.seq (.reg false [Mv 86 11, Mv 87 9, Ln 88 87 41, Cl 89 52 #[.tmp 86, .tmp 88] #[65, 3], Mv 85 89, Xt 90 85 0, Xt 91 85 1, Sg 15 90, Sg 16 91]) (.seq (.reg false [Mv 93 13, Mv 94 9, Ln 95 94 41, Cl 96 52 #[.tmp 93, .tmp 95] #[65, 3], Mv 92 96, Xt 97 92 0, Xt 98 92 1, Sg 17 97, Sg 18 98]) (.seq (.seq (.reg false [Mv 99 12, Oo 100 (.binOp .neq 33 (.tmp 99) (.const (.int .i64 0)) 33), Mv 101 100, Og 102 (.move (.tmp 14)) 101 false, Og 103 (.binOp .neq 33 (.tmp 102) (.const (.int .i64 0)) 33) 101 false, Oo 104 (.pick (.tmp 101) (.const (.bool true)) (.tmp 103)), Mv 105 104, Og 106 (.move (.tmp 16)) 105 false, Og 107 (.unOp .not 4 (.tmp 106)) 105 false, Oo 108 (.pick (.tmp 105) (.const (.bool true)) (.tmp 107)), Mv 109 108, Og 110 (.move (.tmp 18)) 109 false, Og 111 (.unOp .not 4 (.tmp 110)) 109 false, Oo 112 (.pick (.tmp 109) (.const (.bool true)) (.tmp 111))]) (.cond (.tmp 112) (.seq (.reg false [Oo 6 (.assign (.const (.bool false)))]) .ret) .skip)) (.seq (.seq (.reg false [Oo 19 (.assign (.const (.int .i64 0)))]) (.block 2 (.loop (.seq (.seq (.reg false [Mv 113 19, Mv 114 9, Ln 115 114 41, Oo 116 (.binOp .lss 3 (.tmp 113) (.tmp 115) 3)]) (.cond (.tmp 116) .skip (.exit 2))) (.seq (.block 3 (.seq (.reg false [Oo 20 (.assign (.const (.int .i64 0)))]) (.block 4 (.loop (.seq (.seq (.reg false [Mv 119 20, Mv 120 19, Oo 121 (.binOp .lss 3 (.tmp 119) (.tmp 120) 3)]) (.cond (.tmp 121) .skip (.exit 4))) (.seq (.block 5 (.seq (.ord (.op ⟨some 125, .load 24 (.tmp 7), none⟩ (.op ⟨some 126, .call { callee := .value (.func 16), args := #[.tmp 125], argTypes := #[24] }, none⟩ (.op ⟨some 127, .move (.tmp 9), none⟩ (.op ⟨some 128, .move (.tmp 20), none⟩ (.op ⟨some 129, .indexAddr 41 (.tmp 127) (.tmp 128), none⟩ (.op ⟨some 130, .load 32 (.tmp 129), none⟩ (.op ⟨some 131, .call { callee := .value (.func 29), args := #[.tmp 130], argTypes := #[32] }, none⟩ (.op ⟨some 132, .move (.tmp 9), none⟩ (.op ⟨some 133, .move (.tmp 19), none⟩ (.op ⟨some 134, .indexAddr 41 (.tmp 132) (.tmp 133), none⟩ (.op ⟨some 135, .load 32 (.tmp 134), none⟩ (.op ⟨some 136, .call { callee := .value (.func 29), args := #[.tmp 135], argTypes := #[32] }, none⟩ (.op ⟨some 137, .move (.tmp 8), none⟩ (.op ⟨some 138, .call { callee := .value (.func 30), args := #[.tmp 126, .tmp 131, .tmp 136, .tmp 137], argTypes := #[24, 32, 32, 3] }, none⟩ (.op ⟨some 124, .move (.tmp 138), none⟩ (.op ⟨some 139, .extract (.tmp 124) 0, none⟩ (.op ⟨some 21, .alloc 48, none⟩ (.alt (.op ⟨some 140, .extract (.tmp 124) 1, none⟩ (.op ⟨none, .store 48 (.tmp 21) (.tmp 139), none⟩ (.op ⟨some 22, .assign (.tmp 140), none⟩ .done))) (.op ⟨none, .store 48 (.tmp 21) (.tmp 139), none⟩ (.op ⟨some 140, .extract (.tmp 124) 1, none⟩ (.op ⟨some 22, .assign (.tmp 140), none⟩ .done)))))))))))))))))))))) (.seq (.seq (.reg true [Mv 141 22, Oo 142 (.binOp .neq 33 (.tmp 141) (.const (.int .i64 0)) 33), Mv 143 142, Og 144 (.move (.tmp 22)) 143 true, Og 145 (.binOp .neq 33 (.tmp 144) (.const (.int .i64 7)) 33) 143 true, Oo 146 (.pick (.tmp 143) (.tmp 145) (.const (.bool false))), Mv 147 146, Og 148 (.move (.tmp 22)) 147 false, Og 149 (.binOp .eql 33 (.tmp 148) (.const (.int .i64 7)) 33) 147 false, Og 150 (.move (.tmp 15)) 147 false, Og 151 (.move (.tmp 19)) 147 false, Og 152 (.indexAddr 22 (.tmp 150) (.tmp 151)) 147 false, Og 153 (.load 3 (.tmp 152)) 147 false, Og 154 (.move (.tmp 15)) 147 false, Og 155 (.move (.tmp 20)) 147 false, Og 156 (.indexAddr 22 (.tmp 154) (.tmp 155)) 147 false, Og 157 (.load 3 (.tmp 156)) 147 false, Og 158 (.binOp .eql 3 (.tmp 153) (.tmp 157) 3) 147 false, Og 159 (.binOp .neq 4 (.tmp 149) (.tmp 158) 4) 147 false, Oo 160 (.pick (.tmp 147) (.const (.bool true)) (.tmp 159)), Mv 161 160, Og 162 (.move (.tmp 15)) 161 false, Og 163 (.move (.tmp 19)) 161 false, Og 164 (.indexAddr 22 (.tmp 162) (.tmp 163)) 161 false, Og 165 (.load 3 (.tmp 164)) 161 false, Og 166 (.move (.tmp 15)) 161 false, Og 167 (.move (.tmp 20)) 161 false, Og 168 (.indexAddr 22 (.tmp 166) (.tmp 167)) 161 false, Og 169 (.load 3 (.tmp 168)) 161 false, Og 170 (.binOp .neq 3 (.tmp 165) (.tmp 169) 3) 161 false, Og 171 (.move (.tmp 170)) 161 false, Og 172 (.move (.tmp 17)) 171 true, Og 173 (.move (.tmp 19)) 171 true, Og 174 (.indexAddr 22 (.tmp 172) (.tmp 173)) 171 true, Og 175 (.load 3 (.tmp 174)) 171 true, Og 176 (.move (.tmp 17)) 171 true, Og 177 (.move (.tmp 20)) 171 true, Og 178 (.indexAddr 22 (.tmp 176) (.tmp 177)) 171 true, Og 179 (.load 3 (.tmp 178)) 171 true, Og 180 (.binOp .eql 3 (.tmp 175) (.tmp 179) 3) 171 true, Og 181 (.pick (.tmp 171) (.tmp 180) (.const (.bool false))) 161 false, Oo 182 (.pick (.tmp 161) (.const (.bool true)) (.tmp 181))]) (.cond (.tmp 182) (.seq (.reg false [Oo 6 (.assign (.const (.bool false)))]) .ret) .skip)) (.seq (.reg false [Oo 23 (.assign (.const (.int .i64 0)))]) (.block 6 (.loop (.seq (.seq (.reg false [Mv 183 23, Mv 184 8, Oo 185 (.binOp .lss 3 (.tmp 183) (.tmp 184) 3)]) (.cond (.tmp 185) .skip (.exit 6))) (.seq (.block 7 (.seq (.reg false [Oo 24 (.assign (.const (.int .i64 0)))]) (.block 8 (.loop (.seq (.seq (.reg false [Mv 188 24, Fa 189 24 7 1, Ld 190 22 189, Ln 191 190 22, Oo 192 (.binOp .lss 3 (.tmp 188) (.tmp 191) 3)]) (.cond (.tmp 192) .skip (.exit 8))) (.seq (.block 9 (.seq (.reg false [Oo 25 (.assign (.const (.int .i64 0)))]) (.block 10 (.loop (.seq (.seq (.reg false [Mv 195 25, Fa 196 24 7 0, Ld 197 3 196, Oo 198 (.binOp .lss 3 (.tmp 195) (.tmp 197) 3)]) (.cond (.tmp 198) .skip (.exit 10))) (.seq (.block 11 (.seq (.reg true [Ld 201 24 7, Mv 202 9, Mv 203 20, Ix 204 41 202 203, Ld 205 32 204, Mv 206 23, Mv 207 24, Mv 208 25, Cl 209 53 #[.tmp 201, .tmp 205, .tmp 206, .tmp 207, .tmp 208] #[24, 32, 3, 3, 3], Ld 210 24 7, Mv 211 9, Mv 212 19, Ix 213 41 211 212, Ld 214 32 213, Mv 215 23, Mv 216 24, Mv 217 25, Cl 218 53 #[.tmp 210, .tmp 214, .tmp 215, .tmp 216, .tmp 217] #[24, 32, 3, 3, 3], Sg 26 209, Sg 27 218]) (.seq (.seq (.reg false [Mv 219 26, Mv 220 27, Oo 221 (.binOp .eql 4 (.tmp 219) (.tmp 220) 4)]) (.cond (.tmp 221) (.exit 11) .skip)) (.seq (.seq (.reg true [Mv 222 22, Oo 223 (.binOp .neq 33 (.tmp 222) (.const (.int .i64 0)) 33), Mv 224 223, Og 225 (.load 48 (.tmp 21)) 224 false, Og 226 (.move (.tmp 23)) 224 false, Og 227 (.move (.tmp 24)) 224 false, Og 228 (.move (.tmp 25)) 224 false, Og 229 (.move (.tmp 26)) 224 false, Og 230 (.call { callee := .value (.func 54), args := #[.tmp 226, .tmp 227, .tmp 228, .tmp 229], argTypes := #[3, 3, 3, 4] }) 224 false, Og 231 (.binOp .neq 48 (.tmp 225) (.tmp 230) 48) 224 false, Oo 232 (.pick (.tmp 224) (.const (.bool true)) (.tmp 231))]) (.cond (.tmp 232) (.seq (.reg false [Oo 6 (.assign (.const (.bool false)))]) .ret) .skip)) (.reg true [Mv 233 8, Fa 234 24 7 1, Ld 235 22 234, Ln 236 235 22, Fa 237 24 7 0, Ld 238 3 237, Sg 23 233, Sg 24 236, Sg 25 238]))))) (.reg false [Mv 199 25, Oo 200 (.binOp .add 3 (.tmp 199) (.const (.int .i64 1)) 3), Sg 25 200]))))))) (.reg false [Mv 193 24, Oo 194 (.binOp .add 3 (.tmp 193) (.const (.int .i64 1)) 3), Sg 24 194]))))))) (.reg false [Mv 186 23, Oo 187 (.binOp .add 3 (.tmp 186) (.const (.int .i64 1)) 3), Sg 23 187]))))))))) (.reg false [Mv 122 20, Oo 123 (.binOp .add 3 (.tmp 122) (.const (.int .i64 1)) 3), Sg 20 123]))))))) (.reg false [Mv 117 19, Oo 118 (.binOp .add 3 (.tmp 117) (.const (.int .i64 1)) 3), Sg 19 118])))))) (.seq (.reg false [Cl 239 15 #[] #[], Sg 6 239]) .ret)))))))))))⟩
theorem sf10 : sfOf Try.f10 = some s10 := by kernel_rfl
theorem hb10 : hasBody Try.prog 10 = true := by kernel_rfl
end Go.Dw.Seat
end
section
namespace Go.Dw.Seat
open Go Go.Dw Go.Proofs
def s15 : SF := ⟨211, [.tmp 0], (.seq (.reg false [Oo 0 (.assign (.const (.bool false)))]) (.seq (.reg false [Cl 26 54 #[.const (.int .i64 0), .const (.int .i64 0), .const (.int .i64 1), .const (.bool false)] #[3, 3, 3, 4], Oo 27 (.buildSlice 25 1 #[(0, (.tmp 26))]), Sg 1 27]) (.seq (.reg false [Cl 29 62 #[] #[], Cl 30 63 #[.const (.int .i64 0), .const (.int .i64 2), .const (.int .i64 0)] #[3, 102, 3], Cl 31 63 #[.const (.int .i64 1), .const (.int .i64 2), .const (.int .i64 5)] #[3, 102, 3], Oo 32 (.buildSlice 32 2 #[(0, (.tmp 30)), (1, (.tmp 31))]), Cl 33 55 #[.tmp 29, .tmp 32, .const (.int .i64 5)] #[24, 32, 3], Mv 28 33, Xt 34 28 0, Xt 35 28 1, Sg 2 34, Sg 3 35]) (.seq (.reg false [Cl 37 62 #[] #[], Cl 38 63 #[.const (.int .i64 0), .const (.int .i64 1), .const (.int .i64 3)] #[3, 102, 3], Cl 39 63 #[.const (.int .i64 1), .const (.int .i64 3), .const (.int .i64 0)] #[3, 102, 3], Oo 40 (.buildSlice 32 2 #[(0, (.tmp 38)), (1, (.tmp 39))]), Cl 41 55 #[.tmp 37, .tmp 40, .const (.int .i64 2)] #[24, 32, 3], Mv 36 41, Xt 42 36 0, Xt 43 36 1, Sg 4 42, Sg 5 43]) (.seq (.reg false [Cl 45 62 #[] #[], Oo 46 (.buildSlice 22 1 #[(0, (.const (.int .i64 0)))]), Cl 47 18 #[.tmp 45, .tmp 46, .const (.slice none 0 0)] #[24, 22, 25], Mv 44 47, Xt 48 44 0, Xt 49 44 1, Xt 50 44 2, Sg 6 48, Sg 7 49, Sg 8 50]) (.seq (.reg false [Cl 52 62 #[] #[], Oo 53 (.buildSlice 22 1 #[(0, (.const (.int .i64 0)))]), Mv 54 1, Cl 55 18 #[.tmp 52, .tmp 53, .tmp 54] #[24, 22, 25], Mv 51 55, Xt 56 51 0, Xt 57 51 1, Xt 58 51 2, Sg 9 56, Sg 10 57, Sg 11 58]) (.seq (.reg false [Cl 60 62 #[] #[], Oo 61 (.buildSlice 22 1 #[(0, (.const (.int .i64 0)))]), Mv 62 1, Cl 63 19 #[.tmp 60, .tmp 61, .tmp 62] #[24, 22, 25], Mv 59 63, Xt 64 59 0, Xt 65 59 1, Sg 12 64, Sg 13 65]) (.seq (.reg false [Cl 67 62 #[] #[], Oo 68 (.buildSlice 22 1 #[(0, (.const (.int .i64 0)))]), Mv 69 1, Cl 70 26 #[.tmp 67, .tmp 68, .tmp 69, .const (.int .i64 1)] #[24, 22, 25, 3], Mv 66 70, Xt 71 66 0, Xt 72 66 1, Xt 73 66 2, Oo 14 (.alloc 48), ⟨none, .store 48 (.tmp 14) (.tmp 71), none⟩, Sg 15 72, Sg 16 73]) (.seq (.reg false [Oo 75 (.build 72 #[(0, (.const (.int .i64 60))), (1, (.const (.int .i64 10))), (2, (.const (.int .i64 5)))]), Cl 76 64 #[] #[], Cl 77 41 #[.tmp 75, .tmp 76] #[72, 85], Mv 74 77, Xt 78 74 0, Xt 79 74 1, Oo 17 (.alloc 81), ⟨none, .store 81 (.tmp 17) (.tmp 78), none⟩, Sg 18 79]) (.seq (.reg false [Oo 81 (.build 72 #[(0, (.const (.int .i64 60))), (1, (.const (.int .i64 10))), (2, (.const (.int .i64 5)))]), Cl 82 64 #[] #[], Cl 83 64 #[] #[], Cl 84 64 #[] #[], Cl 85 64 #[] #[], Oo 86 (.buildSlice 73 4 #[(0, (.tmp 82)), (1, (.tmp 83)), (2, (.tmp 84)), (3, (.tmp 85))]), Oo 87 (.buildSlice 22 4 #[(0, (.const (.int .i64 59))), (1, (.const (.int .i64 60))), (2, (.const (.int .i64 71))), (3, (.const (.int .i64 72)))]), Cl 88 39 #[.tmp 81, .tmp 86, .tmp 87] #[72, 73, 22], Mv 80 88, Xt 89 80 0, Xt 90 80 1, Xt 91 80 2, Sg 19 89, Sg 20 90, Sg 21 91]) (.seq (.reg false [Cl 93 62 #[] #[], Cl 94 63 #[.const (.int .i64 0), .const (.int .i64 4), .const (.int .i64 0)] #[3, 102, 3], Oo 95 (.buildSlice 32 1 #[(0, (.tmp 94))]), Cl 96 63 #[.const (.int .i64 0), .const (.int .i64 4), .const (.int .i64 2)] #[3, 102, 3], Oo 97 (.buildSlice 32 1 #[(0, (.tmp 96))]), Oo 98 (.buildSlice 41 3 #[(0, (.const (.slice none 0 0))), (1, (.tmp 95)), (2, (.tmp 97))]), Cl 99 35 #[.tmp 93, .tmp 98, .const (.int .i64 1)] #[24, 41, 3], Mv 92 99, Xt 100 92 0, Xt 101 92 1, Sg 22 100, Sg 23 101]) (.seq (.reg false [Cl 103 62 #[] #[], Cl 104 63 #[.const (.int .i64 0), .const (.int .i64 4), .const (.int .i64 0)] #[3, 102, 3], Oo 105 (.buildSlice 32 1 #[(0, (.tmp 104))]), Cl 106 30 #[.tmp 103, .tmp 105, .const (.slice none 0 0), .const (.int .i64 2)] #[24, 32, 32, 3], Mv 102 106, Xt 107 102 0, Xt 108 102 1, Oo 24 (.alloc 48), ⟨none, .store 48 (.tmp 24) (.tmp 107), none⟩, Sg 25 108]) (.seq (.seq (.reg false [Mv 109 3, Oo 110 (.binOp .neq 33 (.tmp 109) (.const (.int .i64 0)) 33), Mv 111 110, Og 112 (.move (.tmp 5)) 111 false, Og 113 (.binOp .neq 33 (.tmp 112) (.const (.int .i64 0)) 33) 111 false, Oo 114 (.pick (.tmp 111) (.const (.bool true)) (.tmp 113)), Mv 115 114, Og 116 (.move (.tmp 8)) 115 false, Og 117 (.binOp .neq 33 (.tmp 116) (.const (.int .i64 0)) 33) 115 false, Oo 118 (.pick (.tmp 115) (.const (.bool true)) (.tmp 117)), Mv 119 118, Og 120 (.move (.tmp 11)) 119 false, Og 121 (.binOp .neq 33 (.tmp 120) (.const (.int .i64 0)) 33) 119 false, Oo 122 (.pick (.tmp 119) (.const (.bool true)) (.tmp 121)), Mv 123 122, Og 124 (.move (.tmp 13)) 123 false, Og 125 (.binOp .neq 33 (.tmp 124) (.const (.int .i64 0)) 33) 123 false, Oo 126 (.pick (.tmp 123) (.const (.bool true)) (.tmp 125)), Mv 127 126, Og 128 (.move (.tmp 16)) 127 false, Og 129 (.binOp .neq 33 (.tmp 128) (.const (.int .i64 0)) 33) 127 false, Oo 130 (.pick (.tmp 127) (.const (.bool true)) (.tmp 129)), Mv 131 130, Og 132 (.move (.tmp 18)) 131 false, Og 133 (.binOp .neq 33 (.tmp 132) (.const (.int .i64 0)) 33) 131 false, Oo 134 (.pick (.tmp 131) (.const (.bool true)) (.tmp 133)), Mv 135 134, Og 136 (.move (.tmp 21)) 135 false, Og 137 (.binOp .neq 33 (.tmp 136) (.const (.int .i64 0)) 33) 135 false, Oo 138 (.pick (.tmp 135) (.const (.bool true)) (.tmp 137)), Mv 139 138, Og 140 (.move (.tmp 23)) 139 false, Og 141 (.binOp .neq 33 (.tmp 140) (.const (.int .i64 0)) 33) 139 false, Oo 142 (.pick (.tmp 139) (.const (.bool true)) (.tmp 141)), Mv 143 142, Og 144 (.move (.tmp 25)) 143 false, Og 145 (.binOp .neq 33 (.tmp 144) (.const (.int .i64 0)) 33) 143 false, Oo 146 (.pick (.tmp 143) (.const (.bool true)) (.tmp 145))]) (.cond (.tmp 146) (.seq (.reg false [Oo 0 (.assign (.const (.bool false)))]) .ret) .skip)) (.seq (.seq (.reg true [Mv 147 2, Oo 148 (.buildSlice 22 2 #[(0, (.const (.int .i64 30))), (1, (.const (.int .i64 54)))]), Cl 149 21 #[.tmp 147, .tmp 148] #[22, 22], Oo 150 (.unOp .not 4 (.tmp 149)), Mv 151 150, Og 152 (.move (.tmp 4)) 151 false, Og 153 (.buildSlice 22 2 #[(0, (.const (.int .i64 14))), (1, (.const (.int .i64 0)))]) 151 false, Og 154 (.call { callee := .value (.func 21), args := #[.tmp 152, .tmp 153], argTypes := #[22, 22] }) 151 false, Og 155 (.unOp .not 4 (.tmp 154)) 151 false, Oo 156 (.pick (.tmp 151) (.const (.bool true)) (.tmp 155)), Mv 157 156, Og 158 (.move (.tmp 6)) 157 false, Og 159 (.binOp .neq 3 (.tmp 158) (.const (.int .i64 25)) 3) 157 false, Oo 160 (.pick (.tmp 157) (.const (.bool true)) (.tmp 159)), Mv 161 160, Og 162 (.move (.tmp 9)) 161 false, Og 163 (.binOp .neq 3 (.tmp 162) (.const (.int .i64 10)) 3) 161 false, Oo 164 (.pick (.tmp 161) (.const (.bool true)) (.tmp 163)), Mv 165 164, Og 166 (.move (.tmp 10)) 165 false, Og 167 (.call { callee := .value (.func 63), args := #[.const (.int .i64 0), .const (.int .i64 1), .const (.int .i64 0)], argTypes := #[3, 102, 3] }) 165 false, Og 168 (.buildSlice 32 1 #[(0, (.tmp 167))]) 165 false, Og 169 (.call { callee := .value (.func 24), args := #[.tmp 166, .tmp 168], argTypes := #[32, 32] }) 165 false, Og 170 (.unOp .not 4 (.tmp 169)) 165 false, Oo 171 (.pick (.tmp 165) (.const (.bool true)) (.tmp 170)), Mv 172 171, Og 173 (.move (.tmp 12)) 172 false, Og 174 (.buildSlice 22 1 #[(0, (.const (.int .i64 0)))]) 172 false, Og 175 (.call { callee := .value (.func 21), args := #[.tmp 173, .tmp 174], argTypes := #[22, 22] }) 172 false, Og 176 (.unOp .not 4 (.tmp 175)) 172 false, Oo 177 (.pick (.tmp 172) (.const (.bool true)) (.tmp 176)), Mv 178 177, Og 179 (.load 48 (.tmp 14)) 178 false, Og 180 (.call { callee := .value (.func 54), args := #[.const (.int .i64 0), .const (.int .i64 0), .const (.int .i64 2), .const (.bool false)], argTypes := #[3, 3, 3, 4] }) 178 false, Og 181 (.binOp .neq 48 (.tmp 179) (.tmp 180) 48) 178 false, Oo 182 (.pick (.tmp 178) (.const (.bool true)) (.tmp 181)), Mv 183 182, Og 184 (.move (.tmp 15)) 183 false, Og 185 (.binOp .neq 3 (.tmp 184) (.const (.int .i64 5)) 3) 183 false, Oo 186 (.pick (.tmp 183) (.const (.bool true)) (.tmp 185))]) (.cond (.tmp 186) (.seq (.reg false [Oo 0 (.assign (.const (.bool false)))]) .ret) .skip)) (.seq (.reg true [Ld 187 81 17, Oo 188 (.build 81 #[(0, (.const (.int .i64 60))), (1, (.const (.int .i64 72)))]), Oo 189 (.binOp .eql 81 (.tmp 187) (.tmp 188) 81), Mv 190 189, Og 191 (.move (.tmp 19)) 190 true, Og 192 (.buildSlice 22 1 #[(0, (.const (.int .i64 0)))]) 190 true, Og 193 (.call { callee := .value (.func 21), args := #[.tmp 191, .tmp 192], argTypes := #[22, 22] }) 190 true, Oo 194 (.pick (.tmp 190) (.tmp 193) (.const (.bool false))), Mv 195 194, Og 196 (.move (.tmp 20)) 195 true, Og 197 (.buildSlice 22 3 #[(0, (.const (.int .i64 0))), (1, (.const (.int .i64 1))), (2, (.const (.int .i64 2)))]) 195 true, Og 198 (.call { callee := .value (.func 21), args := #[.tmp 196, .tmp 197], argTypes := #[22, 22] }) 195 true, Oo 199 (.pick (.tmp 195) (.tmp 198) (.const (.bool false))), Mv 200 199, Og 201 (.move (.tmp 22)) 200 true, Og 202 (.buildSlice 22 3 #[(0, (.const (.int .i64 0))), (1, (.const (.int .i64 1))), (2, (.const (.int .i64 2)))]) 200 true, Og 203 (.buildSlice 65 1 #[(0, (.tmp 202))]) 200 true, Og 204 (.call { callee := .value (.func 36), args := #[.tmp 201, .tmp 203], argTypes := #[65, 65] }) 200 true, Oo 205 (.pick (.tmp 200) (.tmp 204) (.const (.bool false))), Mv 206 205, Og 207 (.load 48 (.tmp 24)) 206 true, Og 208 (.call { callee := .value (.func 54), args := #[.const (.int .i64 1), .const (.int .i64 0), .const (.int .i64 1), .const (.bool false)], argTypes := #[3, 3, 3, 4] }) 206 true, Og 209 (.binOp .eql 48 (.tmp 207) (.tmp 208) 48) 206 true, Oo 210 (.pick (.tmp 206) (.tmp 209) (.const (.bool false))), Sg 0 210]) .ret)))))))))))))))⟩
theorem sf15 : sfOf Try.f15 = some s15 := by kernel_rfl
theorem hb15 : hasBody Try.prog 15 = true := by kernel_rfl
def s16 : SF := ⟨9, [.cell 2 24], (.seq (.reg false [Oo 1 (.box 24 (.tmp 0)), Oo 2 (.alloc 24)]) (.seq (.reg true [Fa 3 24 1 0, Ld 4 3 3, Fa 5 24 1 1, Ld 6 22 5, Cl 7 38 #[.tmp 6] #[22], Oo 8 (.build 24 #[(0, (.tmp 4)), (1, (.tmp 7))]), ⟨none, .store 24 (.tmp 2) (.tmp 8), none⟩]) .ret))⟩
theorem sf16 : sfOf Try.f16 = some s16 := by kernel_rfl
theorem hb16 : hasBody Try.prog 16 = true := by kernel_rfl
def s18 : SF := ⟨27, [.tmp 6, .tmp 7, .tmp 8], (.seq (.reg false [Oo 3 (.box 24 (.tmp 0)), Oo 6 (.assign (.const (.int .i64 0))), Oo 7 (.assign (.const (.slice none 0 0))), Oo 8 (.assign (.const (.int .i64 0)))]) (.seq (.reg false [Ld 12 24 3, Mv 13 1, Mv 14 2, Cl 15 65 #[.tmp 12, .tmp 13, .tmp 14] #[24, 22, 25], Mv 11 15, Xt 16 11 0, Xt 17 11 1, Xt 18 11 2, Oo 9 (.alloc 135), ⟨none, .store 135 (.tmp 9) (.tmp 16), none⟩, Sg 10 17, Sg 8 18]) (.seq (.seq (.reg false [Mv 19 8, Oo 20 (.binOp .neq 33 (.tmp 19) (.const (.int .i64 0)) 33)]) (.cond (.tmp 20) (.seq (.reg false [Mv 21 8, Oo 6 (.assign (.const (.int .i64 0))), Oo 7 (.assign (.const (.slice none 0 0))), Sg 8 21]) .ret) .skip)) (.seq (.reg true [Mv 22 10, Ln 23 22 41, Mv 24 10, Oo 25 (.indexAddr 41 (.tmp 24) (.const (.int .i64 0))), Ld 26 32 25, Sg 6 23, Sg 7 26, Oo 8 (.assign (.const (.int .i64 0)))]) .ret))))⟩
theorem sf18 : sfOf Try.f18 = some s18 := by kernel_rfl
theorem hb18 : hasBody Try.prog 18 = true := by kernel_rfl
def s19 : SF := ⟨41, [.tmp 6, .tmp 7], (.seq (.reg false [Oo 3 (.box 24 (.tmp 0)), Oo 6 (.assign (.const (.slice none 0 0))), Oo 7 (.assign (.const (.int .i64 0)))]) (.seq (.reg false [Ld 13 24 3, Mv 14 1, Mv 15 2, Cl 16 65 #[.tmp 13, .tmp 14, .tmp 15] #[24, 22, 25], Mv 12 16, Xt 17 12 0, Xt 18 12 1, Xt 19 12 2, Oo 8 (.alloc 135), ⟨none, .store 135 (.tmp 8) (.tmp 17), none⟩, Sg 9 18, Sg 7 19]) (.seq (.seq (.reg false [Mv 20 7, Oo 21 (.binOp .neq 33 (.tmp 20) (.const (.int .i64 0)) 33)]) (.cond (.tmp 21) (.seq (.reg false [Mv 22 7, Oo 6 (.assign (.const (.slice none 0 0))), Sg 7 22]) .ret) .skip)) (.seq (.seq (.reg false [Fa 23 135 8 0, Fa 24 24 23 1, Ld 25 22 24, Ln 26 25 22, Oo 27 (.move (.const (.int .i64 0)))]) (.block 0 (.loop (.seq (.reg false [Oo 28 (.binOp .lss 3 (.tmp 27) (.tmp 26) 3)]) (.seq (.cond (.tmp 28) .skip (.exit 0)) (.seq (.block 1 (.seq (.reg false [Mv 29 27, Oo 10 (.alloc 3), ⟨none, .store 3 (.tmp 10) (.tmp 29), none⟩]) (.seq (.reg false [Oo 30 (.makeFunc (.func 66) #[] #[.tmp 10]), Sg 11 30]) (.seq (.reg false [Mv 31 9, Mv 32 11, Cl 33 69 #[.tmp 31, .tmp 32] #[41, 140], Oo 34 (.unOp .not 4 (.tmp 33))]) (.cond (.tmp 34) (.reg false [Mv 35 6, Ld 36 3 10, Oo 37 (.buildSlice 22 1 #[(0, (.tmp 36))]), Oo 38 (.call { callee := .builtin .append, args := #[.tmp 35, .tmp 37], argTypes := #[22, 22] }), Sg 6 38]) .skip))))) (.reg false [Oo 39 (.binOp .add 3 (.tmp 27) (.const (.int .i64 1)) 3), Mv 27 39]))))))) (.seq (.reg false [Mv 40 6, Sg 6 40, Oo 7 (.assign (.const (.int .i64 0)))]) .ret)))))⟩
theorem sf19 : sfOf Try.f19 = some s19 := by kernel_rfl
theorem hb19 : hasBody Try.prog 19 = true := by kernel_rfl
def s21 : SF := ⟨26, [.tmp 4], (.seq (.reg false [Oo 4 (.assign (.const (.bool false)))]) (.seq (.seq (.reg false [Mv 6 0, Ln 7 6 22, Mv 8 1, Ln 9 8 22, Oo 10 (.binOp .neq 3 (.tmp 7) (.tmp 9) 3)]) (.cond (.tmp 10) (.seq (.reg false [Oo 4 (.assign (.const (.bool false)))]) .ret) .skip)) (.seq (.seq (.reg false [Oo 5 (.assign (.const (.int .i64 0)))]) (.block 0 (.loop (.seq (.seq (.reg false [Mv 11 5, Mv 12 0, Ln 13 12 22, Oo 14 (.binOp .lss 3 (.tmp 11) (.tmp 13) 3)]) (.cond (.tmp 14) .skip (.exit 0))) (.seq (.block 1 (.seq (.reg true [Mv 17 0, Mv 18 5, Ix 19 22 17 18, Ld 20 3 19, Mv 21 1, Mv 22 5, Ix 23 22 21 22, Ld 24 3 23, Oo 25 (.binOp .neq 3 (.tmp 20) (.tmp 24) 3)]) (.cond (.tmp 25) (.seq (.reg false [Oo 4 (.assign (.const (.bool false)))]) .ret) .skip))) (.reg false [Mv 15 5, Oo 16 (.binOp .add 3 (.tmp 15) (.const (.int .i64 1)) 3), Sg 5 16])))))) (.seq (.reg false [Oo 4 (.assign (.const (.bool true)))]) .ret))))⟩
theorem sf21 : sfOf Try.f21 = some s21 := by kernel_rfl
theorem hb21 : hasBody Try.prog 21 = true := by kernel_rfl
def s24 : SF := ⟨26, [.tmp 4], (.seq (.reg false [Oo 4 (.assign (.const (.bool false)))]) (.seq (.seq (.reg false [Mv 6 0, Ln 7 6 32, Mv 8 1, Ln 9 8 32, Oo 10 (.binOp .neq 3 (.tmp 7) (.tmp 9) 3)]) (.cond (.tmp 10) (.seq (.reg false [Oo 4 (.assign (.const (.bool false)))]) .ret) .skip)) (.seq (.seq (.reg false [Oo 5 (.assign (.const (.int .i64 0)))]) (.block 0 (.loop (.seq (.seq (.reg false [Mv 11 5, Mv 12 0, Ln 13 12 32, Oo 14 (.binOp .lss 3 (.tmp 11) (.tmp 13) 3)]) (.cond (.tmp 14) .skip (.exit 0))) (.seq (.block 1 (.seq (.reg true [Mv 17 0, Mv 18 5, Ix 19 32 17 18, Ld 20 104 19, Mv 21 1, Mv 22 5, Ix 23 32 21 22, Ld 24 104 23, Oo 25 (.binOp .neq 104 (.tmp 20) (.tmp 24) 104)]) (.cond (.tmp 25) (.seq (.reg false [Oo 4 (.assign (.const (.bool false)))]) .ret) .skip))) (.reg false [Mv 15 5, Oo 16 (.binOp .add 3 (.tmp 15) (.const (.int .i64 1)) 3), Sg 5 16])))))) (.seq (.reg false [Oo 4 (.assign (.const (.bool true)))]) .ret))))⟩
theorem sf24 : sfOf Try.f24 = some s24 := by kernel_rfl
theorem hb24 : hasBody Try.prog 24 = true := by kernel_rfl
def s26 : SF := ⟨78, [.cell 8 48, .cell 9 3, .tmp 10], (.seq (.reg false [Oo 4 (.box 24 (.tmp 0)), Oo 8 (.alloc 48), Oo 9 (.alloc 3), Oo 10 (.assign (.const (.int .i64 0)))]) (.seq (.reg false [Ld 18 24 4, Mv 19 1, Mv 20 2, Cl 21 65 #[.tmp 18, .tmp 19, .tmp 20] #[24, 22, 25], Mv 17 21, Xt 22 17 0, Xt 23 17 1, Xt 24 17 2, Oo 11 (.alloc 135), Oo 12 (.alloc 41), ⟨none, .store 135 (.tmp 11) (.tmp 22), none⟩, ⟨none, .store 41 (.tmp 12) (.tmp 23), none⟩, Sg 10 24]) (.seq (.block 0 (.seq (.reg false [Mv 26 10, Oo 27 (.binOp .neq 33 (.tmp 26) (.const (.int .i64 0)) 33), Sg 25 27]) (.cond (.tmp 25) (.seq (.reg false [Ld 28 48 8, Mv 29 10, ⟨none, .store 48 (.tmp 8) (.tmp 28), none⟩, ⟨none, .store 3 (.tmp 9) (.const (.int .i64 0)), none⟩, Sg 10 29]) .ret) (.seq (.reg false [Mv 31 3, Cl 32 73 #[.tmp 31] #[3], Oo 33 (.unOp .not 4 (.tmp 32)), Sg 30 33]) (.cond (.tmp 30) (.seq (.reg false [Ld 34 48 8, ⟨none, .store 48 (.tmp 8) (.tmp 34), none⟩, ⟨none, .store 3 (.tmp 9) (.const (.int .i64 0)), none⟩, Oo 10 (.assign (.const (.int .i64 2)))]) .ret) .skip))))) (.seq (.reg false [Ld 35 41 12, Ln 36 35 41, ⟨none, .store 3 (.tmp 9) (.tmp 36), none⟩]) (.seq (.seq (.reg false [Ld 37 135 11, Mv 38 3, Cl 39 74 #[.tmp 37, .tmp 38] #[135, 3]]) (.block 1 (.rng (.tmp 39) [40] (.reg false [Oo 13 (.alloc 149), ⟨none, .store 149 (.tmp 13) (.tmp 40), none⟩]) (.block 2 (.seq (.reg false [Oo 14 (.assign (.const (.int .i64 0)))]) (.seq (.seq (.reg false [Ld 41 41 12, Ln 42 41 41, Oo 43 (.move (.const (.int .i64 0)))]) (.block 3 (.loop (.seq (.reg false [Oo 44 (.binOp .lss 3 (.tmp 43) (.tmp 42) 3)]) (.seq (.cond (.tmp 44) .skip (.exit 3)) (.seq (.block 4 (.seq (.reg false [Ix 45 41 41 43, Ld 46 32 45, Sg 16 46]) (.seq (.reg false [Ld 47 135 11, Mv 48 16, Ld 49 149 13, Cl 50 75 #[.tmp 47, .tmp 48, .tmp 49] #[135, 32, 149]]) (.cond (.tmp 50) (.reg false [Mv 51 14, Oo 52 (.binOp .add 3 (.tmp 51) (.const (.int .i64 1)) 3), Sg 14 52]) .skip)))) (.reg false [Oo 53 (.binOp .add 3 (.tmp 43) (.const (.int .i64 1)) 3), Mv 43 53]))))))) (.seq (.reg false [Mv 54 14, Ld 55 41 12, Ln 56 55 41, Mv 57 14, Oo 58 (.binOp .sub 3 (.tmp 56) (.tmp 57) 3), Oo 59 (.call { callee := .builtin .max, args := #[.tmp 54, .tmp 58], argTypes := #[3, 3] }), Sg 14 59]) (.seq (.reg false [Mv 60 14, Ld 61 3 9, Oo 62 (.binOp .lss 3 (.tmp 60) (.tmp 61) 3)]) (.cond (.tmp 62) (.reg false [Fa 63 149 13 0, Ld 64 3 63, Fa 65 149 13 1, Ld 66 3 65, Fa 67 149 13 2, Ld 68 3 67, Oo 69 (.build 48 #[(0, (.tmp 64)), (1, (.tmp 66)), (2, (.tmp 68))]), Mv 70 14, ⟨none, .store 48 (.tmp 8) (.tmp 69), none⟩, ⟨none, .store 3 (.tmp 9) (.tmp 70), none⟩]) .skip))))))))) (.seq (.seq (.reg false [Ld 71 3 9, Ld 72 41 12, Ln 73 72 41, Oo 74 (.binOp .eql 3 (.tmp 71) (.tmp 73) 3)]) (.cond (.tmp 74) (.seq (.reg false [Ld 75 48 8, ⟨none, .store 48 (.tmp 8) (.tmp 75), none⟩, ⟨none, .store 3 (.tmp 9) (.const (.int .i64 0)), none⟩, Oo 10 (.assign (.const (.int .i64 7)))]) .ret) .skip)) (.seq (.ord (.op ⟨some 76, .load 48 (.tmp 8), none⟩ (.alt (.op ⟨some 77, .load 3 (.tmp 9), none⟩ (.op ⟨none, .store 48 (.tmp 8) (.tmp 76), none⟩ (.op ⟨none, .store 3 (.tmp 9) (.tmp 77), none⟩ (.op ⟨some 10, .assign (.const (.int .i64 0)), none⟩ .done)))) (.op ⟨none, .store 48 (.tmp 8) (.tmp 76), none⟩ (.op ⟨some 77, .load 3 (.tmp 9), none⟩ (.op ⟨none, .store 3 (.tmp 9) (.tmp 77), none⟩ (.op ⟨some 10, .assign (.const (.int .i64 0)), none⟩ .done))))))) .ret)))))))⟩
theorem sf26 : sfOf Try.f26 = some s26 := by kernel_rfl
theorem hb26 : hasBody Try.prog 26 = true := by kernel_rfl
def s29 : SF := ⟨6, [.tmp 2], (.seq (.reg false [Oo 2 (.assign (.const (.slice none 0 0)))]) (.seq (.reg false [Oo 3 (.buildSlice 32 0 #[]), Mv 4 0, Oo 5 (.call { callee := .builtin .append, args := #[.tmp 3, .tmp 4], argTypes := #[32, 32] }), Sg 2 5]) .ret))⟩
theorem sf29 : sfOf Try.f29 = some s29 := by kernel_rfl
theorem hb29 : hasBody Try.prog 29 = true := by kernel_rfl
def s30 : SF := ⟨54, [.cell 8 48, .cell 9 33], (.seq (.reg false [Oo 4 (.box 24 (.tmp 0)), Oo 5 (.box 32 (.tmp 1)), Oo 6 (.box 32 (.tmp 2)), Oo 8 (.alloc 48), Oo 9 (.alloc 33)]) (.seq (.reg false [Ld 14 24 4, Ld 15 32 5, Ld 16 32 6, Oo 17 (.buildSlice 41 2 #[(0, (.tmp 15)), (1, (.tmp 16))]), Cl 18 77 #[.tmp 14, .tmp 17] #[24, 41], Mv 13 18, Xt 19 13 0, Xt 20 13 1, Oo 10 (.alloc 135), ⟨none, .store 135 (.tmp 10) (.tmp 19), none⟩, ⟨none, .store 33 (.tmp 9) (.tmp 20), none⟩]) (.seq (.block 0 (.seq (.reg false [Ld 22 33 9, Oo 23 (.binOp .neq 33 (.tmp 22) (.const (.int .i64 0)) 33), Sg 21 23]) (.cond (.tmp 21) (.seq (.ord (.op ⟨some 24, .load 48 (.tmp 8), none⟩ (.alt (.op ⟨some 25, .load 33 (.tmp 9), none⟩ (.op ⟨none, .store 48 (.tmp 8) (.tmp 24), none⟩ (.op ⟨none, .store 33 (.tmp 9) (.tmp 25), none⟩ .done))) (.op ⟨none, .store 48 (.tmp 8) (.tmp 24), none⟩ (.op ⟨some 25, .load 33 (.tmp 9), none⟩ (.op ⟨none, .store 33 (.tmp 9) (.tmp 25), none⟩ .done)))))) .ret) (.seq (.reg false [Mv 27 3, Cl 28 73 #[.tmp 27] #[3], Oo 29 (.unOp .not 4 (.tmp 28)), Sg 26 29]) (.cond (.tmp 26) (.seq (.reg false [Ld 30 48 8, ⟨none, .store 48 (.tmp 8) (.tmp 30), none⟩, ⟨none, .store 33 (.tmp 9) (.const (.int .i64 2)), none⟩]) .ret) .skip))))) (.seq (.seq (.reg false [Ld 31 135 10, Mv 32 3, Cl 33 74 #[.tmp 31, .tmp 32] #[135, 3]]) (.block 1 (.rng (.tmp 33) [34] (.reg false [Oo 11 (.alloc 149), ⟨none, .store 149 (.tmp 11) (.tmp 34), none⟩]) (.block 2 (.seq (.reg false [Ld 35 135 10, Ld 36 32 5, Ld 37 149 11, Cl 38 75 #[.tmp 35, .tmp 36, .tmp 37] #[135, 32, 149], Sg 12 38]) (.seq (.reg false [Mv 39 12, Ld 40 135 10, Ld 41 32 6, Ld 42 149 11, Cl 43 75 #[.tmp 40, .tmp 41, .tmp 42] #[135, 32, 149], Oo 44 (.binOp .neq 4 (.tmp 39) (.tmp 43) 4)]) (.cond (.tmp 44) (.seq (.reg false [Fa 45 149 11 0, Ld 46 3 45, Fa 47 149 11 1, Ld 48 3 47, Fa 49 149 11 2, Ld 50 3 49, Mv 51 12, Oo 52 (.build 48 #[(0, (.tmp 46)), (1, (.tmp 48)), (2, (.tmp 50)), (3, (.tmp 51))]), ⟨none, .store 48 (.tmp 8) (.tmp 52), none⟩, ⟨none, .store 33 (.tmp 9) (.const (.int .i64 0)), none⟩]) .ret) .skip))))))) (.seq (.reg false [Ld 53 48 8, ⟨none, .store 48 (.tmp 8) (.tmp 53), none⟩, ⟨none, .store 33 (.tmp 9) (.const (.int .i64 7)), none⟩]) .ret)))))⟩
theorem sf30 : sfOf Try.f30 = some s30 := by kernel_rfl
theorem hb30 : hasBody Try.prog 30 = true := by kernel_rfl
end Go.Dw.Seat
end
section
namespace Go.Dw.Seat
open Go Go.Dw Go.Proofs
def s34 : SF := ⟨21, [.tmp 2], (.seq (.reg false [Oo 2 (.assign (.const (.slice none 0 0)))]) (.seq (.reg false [Oo 5 (.buildSlice 41 0 #[]), Sg 3 5]) (.seq (.seq (.reg false [Oo 4 (.assign (.const (.int .i64 0)))]) (.block 0 (.loop (.seq (.seq (.reg false [Mv 6 4, Mv 7 0, Ln 8 7 41, Oo 9 (.binOp .lss 3 (.tmp 6) (.tmp 8) 3)]) (.cond (.tmp 9) .skip (.exit 0))) (.seq (.block 1 (.reg false [Mv 12 3, Mv 13 0, Mv 14 4, Ix 15 41 13 14, Ld 16 32 15, Cl 17 29 #[.tmp 16] #[32], Oo 18 (.buildSlice 41 1 #[(0, (.tmp 17))]), Oo 19 (.call { callee := .builtin .append, args := #[.tmp 12, .tmp 18], argTypes := #[41, 41] }), Sg 3 19])) (.reg false [Mv 10 4, Oo 11 (.binOp .add 3 (.tmp 10) (.const (.int .i64 1)) 3), Sg 4 11])))))) (.seq (.reg false [Mv 20 3, Sg 2 20]) .ret))))⟩
theorem sf34 : sfOf Try.f34 = some s34 := by kernel_rfl
theorem hb34 : hasBody Try.prog 34 = true := by kernel_rfl
def s35 : SF := ⟨71, [.tmp 6, .tmp 7], (.seq (.reg false [Oo 3 (.box 24 (.tmp 0)), Oo 4 (.box 41 (.tmp 1)), Oo 5 (.box 3 (.tmp 2)), Oo 6 (.assign (.const (.slice none 0 0))), Oo 7 (.assign (.const (.int .i64 0)))]) (.seq (.reg false [Ld 14 24 3, Cl 15 78 #[.tmp 14] #[24], Mv 13 15, Xt 16 13 0, Xt 17 13 1, Oo 8 (.alloc 135), ⟨none, .store 135 (.tmp 8) (.tmp 16), none⟩, Sg 7 17]) (.seq (.seq (.reg false [Mv 18 7, Oo 19 (.binOp .eql 33 (.tmp 18) (.const (.int .i64 0)) 33), Mv 20 19, Og 21 (.load 41 (.tmp 4)) 20 true, Og 22 (.call { callee := .builtin .len, args := #[.tmp 21], argTypes := #[41] }) 20 true, Og 23 (.binOp .gtr 3 (.tmp 22) (.const (.int .i64 30)) 3) 20 true, Oo 24 (.pick (.tmp 20) (.tmp 23) (.const (.bool false)))]) (.cond (.tmp 24) (.reg false [Oo 7 (.assign (.const (.int .i64 5)))]) .skip)) (.seq (.seq (.reg false [Mv 25 7, Oo 26 (.binOp .eql 33 (.tmp 25) (.const (.int .i64 0)) 33)]) (.cond (.tmp 26) (.reg false [Ld 28 24 3, Ld 29 41 4, Cl 30 77 #[.tmp 28, .tmp 29] #[24, 41], Mv 27 30, Xt 31 27 0, Xt 32 27 1, Sg 7 32]) .skip)) (.seq (.block 0 (.seq (.reg false [Mv 34 7, Oo 35 (.binOp .neq 33 (.tmp 34) (.const (.int .i64 0)) 33), Sg 33 35]) (.cond (.tmp 33) (.seq (.reg false [Mv 36 7, Oo 6 (.assign (.const (.slice none 0 0))), Sg 7 36]) .ret) (.seq (.reg false [Ld 38 3 5, Cl 39 73 #[.tmp 38] #[3], Oo 40 (.unOp .not 4 (.tmp 39)), Sg 37 40]) (.cond (.tmp 37) (.seq (.reg false [Oo 6 (.assign (.const (.slice none 0 0))), Oo 7 (.assign (.const (.int .i64 2)))]) .ret) .skip))))) (.seq (.reg false [Oo 41 (.makeFunc (.func 79) #[] #[.tmp 5, .tmp 8]), Oo 9 (.alloc 155), ⟨none, .store 155 (.tmp 9) (.tmp 41), none⟩]) (.seq (.seq (.reg false [Ld 42 41 4, Ln 43 42 41, Oo 44 (.move (.const (.int .i64 0)))]) (.block 1 (.loop (.seq (.reg false [Oo 45 (.binOp .lss 3 (.tmp 44) (.tmp 43) 3)]) (.seq (.cond (.tmp 45) .skip (.exit 1)) (.seq (.block 2 (.seq (.reg false [Mv 46 44, Ix 47 41 42 44, Ld 48 32 47, Oo 11 (.alloc 32), Sg 10 46, ⟨none, .store 32 (.tmp 11) (.tmp 48), none⟩]) (.seq (.reg false [Mv 49 6, Oo 50 (.makeFunc (.func 82) #[] #[.tmp 9, .tmp 4, .tmp 11]), Cl 51 81 #[.tmp 49, .tmp 50] #[65, 157], Sg 12 51]) (.seq (.reg false [Mv 52 12, Oo 53 (.binOp .lss 3 (.tmp 52) (.const (.int .i64 0)) 3)]) (.cond (.tmp 53) (.reg false [Mv 54 6, Mv 55 10, Oo 56 (.buildSlice 22 1 #[(0, (.tmp 55))]), Oo 57 (.buildSlice 65 1 #[(0, (.tmp 56))]), Oo 58 (.call { callee := .builtin .append, args := #[.tmp 54, .tmp 57], argTypes := #[65, 65] }), Sg 6 58]) (.reg false [Mv 59 6, Mv 60 12, Mv 61 6, Mv 62 12, Ix 63 65 61 62, Ld 64 22 63, Mv 65 10, Oo 66 (.buildSlice 22 1 #[(0, (.tmp 65))]), Oo 67 (.call { callee := .builtin .append, args := #[.tmp 64, .tmp 66], argTypes := #[22, 22] }), Ix 68 65 59 60, ⟨none, .store 22 (.tmp 68) (.tmp 67), none⟩])))))) (.reg false [Oo 69 (.binOp .add 3 (.tmp 44) (.const (.int .i64 1)) 3), Mv 44 69]))))))) (.seq (.reg false [Mv 70 6, Sg 6 70, Oo 7 (.assign (.const (.int .i64 0)))]) .ret))))))))⟩
theorem sf35 : sfOf Try.f35 = some s35 := by kernel_rfl
theorem hb35 : hasBody Try.prog 35 = true := by kernel_rfl
def s36 : SF := ⟨27, [.tmp 4], (.seq (.reg false [Oo 4 (.assign (.const (.bool false)))]) (.seq (.seq (.reg false [Mv 6 0, Ln 7 6 65, Mv 8 1, Ln 9 8 65, Oo 10 (.binOp .neq 3 (.tmp 7) (.tmp 9) 3)]) (.cond (.tmp 10) (.seq (.reg false [Oo 4 (.assign (.const (.bool false)))]) .ret) .skip)) (.seq (.seq (.reg false [Oo 5 (.assign (.const (.int .i64 0)))]) (.block 0 (.loop (.seq (.seq (.reg false [Mv 11 5, Mv 12 0, Ln 13 12 65, Oo 14 (.binOp .lss 3 (.tmp 11) (.tmp 13) 3)]) (.cond (.tmp 14) .skip (.exit 0))) (.seq (.block 1 (.seq (.reg true [Mv 17 0, Mv 18 5, Ix 19 65 17 18, Ld 20 22 19, Mv 21 1, Mv 22 5, Ix 23 65 21 22, Ld 24 22 23, Cl 25 21 #[.tmp 20, .tmp 24] #[22, 22], Oo 26 (.unOp .not 4 (.tmp 25))]) (.cond (.tmp 26) (.seq (.reg false [Oo 4 (.assign (.const (.bool false)))]) .ret) .skip))) (.reg false [Mv 15 5, Oo 16 (.binOp .add 3 (.tmp 15) (.const (.int .i64 1)) 3), Sg 5 16])))))) (.seq (.reg false [Oo 4 (.assign (.const (.bool true)))]) .ret))))⟩
theorem sf36 : sfOf Try.f36 = some s36 := by kernel_rfl
theorem hb36 : hasBody Try.prog 36 = true := by kernel_rfl
def s38 : SF := ⟨6, [.tmp 2], (.seq (.reg false [Oo 2 (.assign (.const (.slice none 0 0)))]) (.seq (.reg false [Oo 3 (.buildSlice 22 0 #[]), Mv 4 0, Oo 5 (.call { callee := .builtin .append, args := #[.tmp 3, .tmp 4], argTypes := #[22, 22] }), Sg 2 5]) .ret))⟩
theorem sf38 : sfOf Try.f38 = some s38 := by kernel_rfl
theorem hb38 : hasBody Try.prog 38 = true := by kernel_rfl
def s39 : SF := ⟨70, [.tmp 6, .tmp 7, .tmp 8], (.seq (.reg false [Oo 3 (.box 72 (.tmp 0)), Oo 6 (.assign (.const (.slice none 0 0))), Oo 7 (.assign (.const (.slice none 0 0))), Oo 8 (.assign (.const (.int .i64 0)))]) (.seq (.reg false [Oo 9 (.assign (.func 84))]) (.seq (.block 0 (.seq (.reg false [Ld 14 72 3, Cl 15 86 #[.tmp 14] #[72], Oo 16 (.unOp .not 4 (.tmp 15)), Sg 13 16]) (.cond (.tmp 13) (.seq (.reg false [Oo 6 (.assign (.const (.slice none 0 0))), Oo 7 (.assign (.const (.slice none 0 0))), Oo 8 (.assign (.const (.int .i64 2)))]) .ret) (.seq (.reg false [Mv 18 1, Ln 19 18 73, Oo 20 (.binOp .gtr 3 (.tmp 19) (.const (.int .i64 50)) 3), Sg 17 20]) (.cond (.tmp 17) (.seq (.reg false [Oo 6 (.assign (.const (.slice none 0 0))), Oo 7 (.assign (.const (.slice none 0 0))), Oo 8 (.assign (.const (.int .i64 5)))]) .ret) (.seq (.reg false [Mv 22 2, Ln 23 22 22, Mv 24 1, Ln 25 24 73, Oo 26 (.binOp .neq 3 (.tmp 23) (.tmp 25) 3), Sg 21 26]) (.cond (.tmp 21) (.seq (.reg false [Oo 6 (.assign (.const (.slice none 0 0))), Oo 7 (.assign (.const (.slice none 0 0))), Oo 8 (.assign (.const (.int .i64 4)))]) .ret) (.seq (.seq (.reg false [Mv 28 1, Mv 29 9, Cl 30 87 #[.tmp 28, .tmp 29] #[73, 86], Sg 27 30]) (.cond (.tmp 27) .skip (.reg false [Mv 31 2, Cl 32 88 #[.const (.int .i64 0), .const (.int .i64 2400), .tmp 31] #[3, 3, 22], Oo 33 (.unOp .not 4 (.tmp 32)), Sg 27 33]))) (.cond (.tmp 27) (.seq (.reg false [Oo 6 (.assign (.const (.slice none 0 0))), Oo 7 (.assign (.const (.slice none 0 0))), Oo 8 (.assign (.const (.int .i64 3)))]) .ret) .skip))))))))) (.seq (.seq (.reg false [Mv 34 1, Ln 35 34 73, Oo 36 (.move (.const (.int .i64 0)))]) (.block 1 (.loop (.seq (.reg false [Oo 37 (.binOp .lss 3 (.tmp 36) (.tmp 35) 3)]) (.seq (.cond (.tmp 37) .skip (.exit 1)) (.seq (.block 2 (.seq (.reg false [Mv 38 36, Ix 39 73 34 36, Ld 40 85 39, Oo 11 (.alloc 85), Sg 10 38, ⟨none, .store 85 (.tmp 11) (.tmp 40), none⟩]) (.seq (.reg false [Ld 41 72 3, Oo 42 (.build 161 #[(0, (.tmp 41))]), Ld 43 85 11, Cl 44 89 #[.tmp 42, .tmp 43] #[161, 85], Oo 12 (.alloc 81), ⟨none, .store 81 (.tmp 12) (.tmp 44), none⟩]) (.seq (.seq (.reg true [Mv 45 2, Mv 46 10, Ix 47 22 45 46, Ld 48 3 47, Fa 49 81 12 0, Ld 50 3 49, Cl 51 90 #[.tmp 48, .tmp 50] #[3, 3]]) (.cond (.tmp 51) (.reg false [Mv 52 6, Mv 53 10, Oo 54 (.buildSlice 22 1 #[(0, (.tmp 53))]), Oo 55 (.call { callee := .builtin .append, args := #[.tmp 52, .tmp 54], argTypes := #[22, 22] }), Sg 6 55]) .skip)) (.seq (.reg true [Mv 56 2, Mv 57 10, Ix 58 22 56 57, Ld 59 3 58, Fa 60 81 12 1, Ld 61 3 60, Cl 62 90 #[.tmp 59, .tmp 61] #[3, 3]]) (.cond (.tmp 62) (.reg false [Mv 63 7, Mv 64 10, Oo 65 (.buildSlice 22 1 #[(0, (.tmp 64))]), Oo 66 (.call { callee := .builtin .append, args := #[.tmp 63, .tmp 65], argTypes := #[22, 22] }), Sg 7 66]) .skip)))))) (.reg false [Oo 67 (.binOp .add 3 (.tmp 36) (.const (.int .i64 1)) 3), Mv 36 67]))))))) (.seq (.reg false [Mv 68 6, Mv 69 7, Sg 6 68, Sg 7 69, Oo 8 (.assign (.const (.int .i64 0)))]) .ret)))))⟩
theorem sf39 : sfOf Try.f39 = some s39 := by kernel_rfl
theorem hb39 : hasBody Try.prog 39 = true := by kernel_rfl
def s41 : SF := ⟨20, [.cell 4 81, .tmp 5], (.seq (.reg false [Oo 2 (.box 72 (.tmp 0)), Oo 3 (.box 85 (.tmp 1)), Oo 4 (.alloc 81), Oo 5 (.assign (.const (.int .i64 0)))]) (.seq (.block 0 (.seq (.reg false [Ld 7 72 2, Cl 8 86 #[.tmp 7] #[72], Oo 9 (.unOp .not 4 (.tmp 8)), Sg 6 9]) (.cond (.tmp 6) (.seq (.reg false [Ld 10 81 4, ⟨none, .store 81 (.tmp 4) (.tmp 10), none⟩, Oo 5 (.assign (.const (.int .i64 2)))]) .ret) (.seq (.reg false [Ld 12 85 3, Cl 13 85 #[.tmp 12] #[85], Oo 14 (.unOp .not 4 (.tmp 13)), Sg 11 14]) (.cond (.tmp 11) (.seq (.reg false [Ld 15 81 4, ⟨none, .store 81 (.tmp 4) (.tmp 15), none⟩, Oo 5 (.assign (.const (.int .i64 3)))]) .ret) .skip))))) (.seq (.reg false [Ld 16 72 2, Oo 17 (.build 161 #[(0, (.tmp 16))]), Ld 18 85 3, Cl 19 89 #[.tmp 17, .tmp 18] #[161, 85], ⟨none, .store 81 (.tmp 4) (.tmp 19), none⟩, Oo 5 (.assign (.const (.int .i64 0)))]) .ret)))⟩
theorem sf41 : sfOf Try.f41 = some s41 := by kernel_rfl
theorem hb41 : hasBody Try.prog 41 = true := by kernel_rfl
def s44 : SF := ⟨50, [.cell 2 24], (.seq (.reg false [Oo 1 (.box 93 (.tmp 0)), Oo 2 (.alloc 24)]) (.seq (.reg false [Fa 6 93 1 0, Ld 7 5 6, Oo 8 (.convert 5 3 (.tmp 7)), Oo 9 (.binOp .rem 3 (.tmp 8) (.const (.int .i64 9)) 3), Oo 10 (.binOp .add 3 (.const (.int .i64 2)) (.tmp 9) 3), Oo 11 (.build 24 #[(0, (.tmp 10))]), Oo 3 (.alloc 24), ⟨none, .store 24 (.tmp 3) (.tmp 11), none⟩]) (.seq (.seq (.reg false [Oo 4 (.assign (.const (.int .i64 0)))]) (.block 0 (.loop (.seq (.seq (.reg false [Mv 12 4, Oo 13 (.binOp .eql 3 (.tmp 12) (.const (.int .i64 0)) 3), Mv 14 13, Og 15 (.move (.tmp 4)) 14 false, Og 16 (.fieldAddr 93 (.tmp 1) 1) 14 false, Og 17 (.load 89 (.tmp 16)) 14 false, Og 18 (.call { callee := .builtin .len, args := #[.tmp 17], argTypes := #[89] }) 14 false, Og 19 (.binOp .lss 3 (.tmp 15) (.tmp 18) 3) 14 false, Og 20 (.move (.tmp 19)) 14 false, Og 21 (.move (.tmp 4)) 20 true, Og 22 (.binOp .lss 3 (.tmp 21) (.const (.int .i64 4)) 3) 20 true, Og 23 (.pick (.tmp 20) (.tmp 22) (.const (.bool false))) 14 false, Oo 24 (.pick (.tmp 14) (.const (.bool true)) (.tmp 23))]) (.cond (.tmp 24) .skip (.exit 0))) (.seq (.block 1 (.seq (.reg false [Oo 5 (.assign (.const (.int .i64 0)))]) (.seq (.seq (.reg false [Mv 27 4, Fa 28 93 1 1, Ld 29 89 28, Ln 30 29 89, Oo 31 (.binOp .lss 3 (.tmp 27) (.tmp 30) 3)]) (.cond (.tmp 31) (.reg true [Fa 32 93 1 1, Ld 33 89 32, Mv 34 4, Ix 35 89 33 34, Ld 36 116 35, Oo 37 (.convert 116 3 (.tmp 36)), Fa 38 24 3 0, Ld 39 3 38, Oo 40 (.convert 3 114 (.tmp 39)), Oo 41 (.binOp .shl 3 (.const (.int .i64 1)) (.tmp 40) 114), Oo 42 (.binOp .rem 3 (.tmp 37) (.tmp 41) 3), Sg 5 42]) .skip)) (.reg false [Fa 43 24 3 1, Ld 44 22 43, Mv 45 5, Oo 46 (.buildSlice 22 1 #[(0, (.tmp 45))]), Oo 47 (.call { callee := .builtin .append, args := #[.tmp 44, .tmp 46], argTypes := #[22, 22] }), Fa 48 24 3 1, ⟨none, .store 22 (.tmp 48) (.tmp 47), none⟩])))) (.reg false [Mv 25 4, Oo 26 (.binOp .add 3 (.tmp 25) (.const (.int .i64 1)) 3), Sg 4 26])))))) (.seq (.reg false [Ld 49 24 3, ⟨none, .store 24 (.tmp 2) (.tmp 49), none⟩]) .ret))))⟩
theorem sf44 : sfOf Try.f44 = some s44 := by kernel_rfl
theorem hb44 : hasBody Try.prog 44 = true := by kernel_rfl
def s45 : SF := ⟨25, [.tmp 2], (.seq (.reg false [Oo 1 (.box 93 (.tmp 0)), Oo 2 (.assign (.const (.slice none 0 0)))]) (.seq (.reg false [Oo 6 (.buildSlice 22 0 #[]), Sg 3 6, Oo 4 (.assign (.const (.int .i64 (-1))))]) (.seq (.seq (.reg false [Oo 5 (.assign (.const (.int .i64 0)))]) (.block 0 (.loop (.seq (.seq (.reg false [Mv 7 5, Oo 8 (.binOp .lss 3 (.tmp 7) (.const (.int .i64 3)) 3)]) (.cond (.tmp 8) .skip (.exit 0))) (.seq (.block 1 (.seq (.reg false [Mv 11 4, Mv 12 5, Fa 13 93 1 2, Ix 14 90 13 12, Ld 15 5 14, Oo 16 (.convert 5 3 (.tmp 15)), Oo 17 (.binOp .rem 3 (.tmp 16) (.const (.int .i64 3)) 3), Oo 18 (.binOp .add 3 (.const (.int .i64 1)) (.tmp 17) 3), Oo 19 (.binOp .add 3 (.tmp 11) (.tmp 18) 3), Sg 4 19]) (.reg false [Mv 20 3, Mv 21 4, Oo 22 (.buildSlice 22 1 #[(0, (.tmp 21))]), Oo 23 (.call { callee := .builtin .append, args := #[.tmp 20, .tmp 22], argTypes := #[22, 22] }), Sg 3 23]))) (.reg false [Mv 9 5, Oo 10 (.binOp .add 3 (.tmp 9) (.const (.int .i64 1)) 3), Sg 5 10])))))) (.seq (.reg false [Mv 24 3, Sg 2 24]) .ret))))⟩
theorem sf45 : sfOf Try.f45 = some s45 := by kernel_rfl
theorem hb45 : hasBody Try.prog 45 = true := by kernel_rfl
def s46 : SF := ⟨76, [.tmp 4], (.seq (.reg false [Oo 2 (.box 93 (.tmp 0)), Oo 3 (.box 24 (.tmp 1)), Oo 4 (.assign (.const (.slice none 0 0)))]) (.seq (.reg false [Oo 10 (.buildSlice 32 0 #[]), Ld 11 93 2, Cl 12 45 #[.tmp 11] #[93], Sg 5 10, Sg 6 12]) (.seq (.seq (.reg false [Oo 7 (.assign (.const (.int .i64 0)))]) (.block 0 (.loop (.seq (.seq (.reg false [Mv 13 7, Fa 14 93 2 4, Ld 15 5 14, Oo 16 (.convert 5 3 (.tmp 15)), Oo 17 (.binOp .rem 3 (.tmp 16) (.const (.int .i64 3)) 3), Oo 18 (.binOp .lss 3 (.tmp 13) (.tmp 17) 3)]) (.cond (.tmp 18) .skip (.exit 0))) (.seq (.block 1 (.seq (.reg false [Mv 21 7, Fa 22 93 2 3, Ix 23 91 22 21, Ld 24 90 23, Oo 8 (.alloc 90), ⟨none, .store 90 (.tmp 8) (.tmp 24), none⟩]) (.seq (.reg true [Oo 25 (.indexAddr 90 (.tmp 8) (.const (.int .i64 0))), Ld 26 5 25, Oo 27 (.convert 5 3 (.tmp 26)), Fa 28 24 3 1, Ld 29 22 28, Ln 30 29 22, Oo 31 (.binOp .rem 3 (.tmp 27) (.tmp 30) 3), Oo 32 (.indexAddr 90 (.tmp 8) (.const (.int .i64 1))), Ld 33 5 32, Oo 34 (.convert 5 3 (.tmp 33)), Oo 35 (.binOp .rem 3 (.tmp 34) (.const (.int .i64 4)) 3), Oo 36 (.binOp .add 3 (.const (.int .i64 1)) (.tmp 35) 3), Mv 37 6, Oo 38 (.indexAddr 90 (.tmp 8) (.const (.int .i64 2))), Ld 39 5 38, Oo 40 (.convert 5 3 (.tmp 39)), Oo 41 (.binOp .rem 3 (.tmp 40) (.const (.int .i64 3)) 3), Ix 42 22 37 41, Ld 43 3 42, Cl 44 63 #[.tmp 31, .tmp 36, .tmp 43] #[3, 102, 3], Oo 9 (.alloc 104), ⟨none, .store 104 (.tmp 9) (.tmp 44), none⟩]) (.block 2 (.seq (.reg true [Mv 46 5, Ln 47 46 32, Oo 48 (.binOp .eql 3 (.tmp 47) (.const (.int .i64 0)) 3), Mv 49 48, Og 50 (.move (.tmp 5)) 49 false, Og 51 (.indexAddr 32 (.tmp 50) (.const (.int .i64 0))) 49 false, Og 52 (.fieldAddr 104 (.tmp 51) 0) 49 false, Og 53 (.load 3 (.tmp 52)) 49 false, Og 54 (.fieldAddr 104 (.tmp 9) 0) 49 false, Og 55 (.load 3 (.tmp 54)) 49 false, Og 56 (.binOp .lss 3 (.tmp 53) (.tmp 55) 3) 49 false, Oo 57 (.pick (.tmp 49) (.const (.bool true)) (.tmp 56)), Sg 45 57]) (.cond (.tmp 45) (.reg false [Mv 58 5, Ld 59 104 9, Oo 60 (.buildSlice 32 1 #[(0, (.tmp 59))]), Oo 61 (.call { callee := .builtin .append, args := #[.tmp 58, .tmp 60], argTypes := #[32, 32] }), Sg 5 61]) (.seq (.reg true [Mv 63 5, Oo 64 (.indexAddr 32 (.tmp 63) (.const (.int .i64 0))), Fa 65 104 64 0, Ld 66 3 65, Fa 67 104 9 0, Ld 68 3 67, Oo 69 (.binOp .gtr 3 (.tmp 66) (.tmp 68) 3), Sg 62 69]) (.cond (.tmp 62) (.reg true [Ld 70 104 9, Mv 71 5, Oo 72 (.indexAddr 32 (.tmp 71) (.const (.int .i64 0))), Ld 73 104 72, Oo 74 (.buildSlice 32 2 #[(0, (.tmp 70)), (1, (.tmp 73))]), Sg 5 74]) .skip)))))))) (.reg false [Mv 19 7, Oo 20 (.binOp .add 3 (.tmp 19) (.const (.int .i64 1)) 3), Sg 7 20])))))) (.seq (.reg false [Mv 75 5, Sg 4 75]) .ret))))⟩
theorem sf46 : sfOf Try.f46 = some s46 := by kernel_rfl
theorem hb46 : hasBody Try.prog 46 = true := by kernel_rfl
def s49 : SF := ⟨56, [.tmp 4], (.seq (.reg false [Oo 2 (.box 24 (.tmp 0)), Oo 4 (.assign (.const (.bool false)))]) (.seq (.seq (.reg false [Oo 5 (.assign (.const (.int .i64 0)))]) (.block 0 (.loop (.seq (.seq (.reg false [Mv 7 5, Mv 8 1, Ln 9 8 32, Oo 10 (.binOp .lss 3 (.tmp 7) (.tmp 9) 3)]) (.cond (.tmp 10) .skip (.exit 0))) (.seq (.block 1 (.seq (.reg false [Mv 13 1, Mv 14 5, Ix 15 32 13 14, Ld 16 104 15, Oo 6 (.alloc 104), ⟨none, .store 104 (.tmp 6) (.tmp 16), none⟩]) (.seq (.reg true [Fa 17 104 6 0, Ld 18 3 17, Oo 19 (.binOp .lss 3 (.tmp 18) (.const (.int .i64 0)) 3), Mv 20 19, Og 21 (.fieldAddr 104 (.tmp 6) 0) 20 false, Og 22 (.load 3 (.tmp 21)) 20 false, Og 23 (.fieldAddr 24 (.tmp 2) 1) 20 false, Og 24 (.load 22 (.tmp 23)) 20 false, Og 25 (.call { callee := .builtin .len, args := #[.tmp 24], argTypes := #[22] }) 20 false, Og 26 (.binOp .geq 3 (.tmp 22) (.tmp 25) 3) 20 false, Oo 27 (.pick (.tmp 20) (.const (.bool true)) (.tmp 26)), Mv 28 27, Og 29 (.fieldAddr 104 (.tmp 6) 1) 28 false, Og 30 (.load 102 (.tmp 29)) 28 false, Og 31 (.binOp .lss 102 (.tmp 30) (.const (.int .i64 1)) 102) 28 false, Oo 32 (.pick (.tmp 28) (.const (.bool true)) (.tmp 31)), Mv 33 32, Og 34 (.fieldAddr 104 (.tmp 6) 1) 33 false, Og 35 (.load 102 (.tmp 34)) 33 false, Og 36 (.binOp .gtr 102 (.tmp 35) (.const (.int .i64 4)) 102) 33 false, Oo 37 (.pick (.tmp 33) (.const (.bool true)) (.tmp 36)), Mv 38 37, Og 39 (.move (.tmp 5)) 38 false, Og 40 (.binOp .gtr 3 (.tmp 39) (.const (.int .i64 0)) 3) 38 false, Og 41 (.move (.tmp 40)) 38 false, Og 42 (.fieldAddr 104 (.tmp 6) 0) 41 true, Og 43 (.load 3 (.tmp 42)) 41 true, Og 44 (.move (.tmp 1)) 41 true, Og 45 (.move (.tmp 5)) 41 true, Og 46 (.binOp .sub 3 (.tmp 45) (.const (.int .i64 1)) 3) 41 true, Og 47 (.indexAddr 32 (.tmp 44) (.tmp 46)) 41 true, Og 48 (.fieldAddr 104 (.tmp 47) 0) 41 true, Og 49 (.load 3 (.tmp 48)) 41 true, Og 50 (.binOp .leq 3 (.tmp 43) (.tmp 49) 3) 41 true, Og 51 (.pick (.tmp 41) (.tmp 50) (.const (.bool false))) 38 false, Oo 52 (.pick (.tmp 38) (.const (.bool true)) (.tmp 51))]) (.cond (.tmp 52) (.seq (.reg false [Oo 4 (.assign (.const (.bool false)))]) .ret) .skip)))) (.reg false [Mv 11 5, Oo 12 (.binOp .add 3 (.tmp 11) (.const (.int .i64 1)) 3), Sg 5 12])))))) (.seq (.reg false [Mv 53 1, Ln 54 53 32, Oo 55 (.binOp .leq 3 (.tmp 54) (.const (.int .i64 2)) 3), Sg 4 55]) .ret)))⟩
theorem sf49 : sfOf Try.f49 = some s49 := by kernel_rfl
theorem hb49 : hasBody Try.prog 49 = true := by kernel_rfl
def s52 : SF := ⟨115, [.tmp 4, .tmp 5], (.seq (.reg false [Oo 4 (.assign (.const (.slice none 0 0))), Oo 5 (.assign (.const (.bool false)))]) (.seq (.reg false [Mv 13 1, Oo 14 (.makeSlice 22 (.tmp 13) (.tmp 13)), Sg 6 14, Oo 7 (.assign (.const (.int .i64 0))), Oo 8 (.assign (.const (.int .i64 (-1))))]) (.seq (.seq (.reg false [Oo 9 (.assign (.const (.int .i64 0)))]) (.block 0 (.loop (.seq (.seq (.reg false [Mv 15 9, Mv 16 0, Ln 17 16 65, Oo 18 (.binOp .lss 3 (.tmp 15) (.tmp 17) 3)]) (.cond (.tmp 18) .skip (.exit 0))) (.seq (.block 1 (.seq (.seq (.reg false [Mv 21 0, Mv 22 9, Ix 23 65 21 22, Ld 24 22 23, Ln 25 24 22, Oo 26 (.binOp .eql 3 (.tmp 25) (.const (.int .i64 0)) 3), Mv 27 26, Og 28 (.move (.tmp 0)) 27 false, Og 29 (.move (.tmp 9)) 27 false, Og 30 (.indexAddr 65 (.tmp 28) (.tmp 29)) 27 false, Og 31 (.load 22 (.tmp 30)) 27 false, Og 32 (.indexAddr 22 (.tmp 31) (.const (.int .i64 0))) 27 false, Og 33 (.load 3 (.tmp 32)) 27 false, Og 34 (.move (.tmp 8)) 27 false, Og 35 (.binOp .leq 3 (.tmp 33) (.tmp 34) 3) 27 false, Oo 36 (.pick (.tmp 27) (.const (.bool true)) (.tmp 35))]) (.cond (.tmp 36) (.seq (.reg false [Oo 4 (.assign (.const (.slice none 0 0))), Oo 5 (.assign (.const (.bool false)))]) .ret) .skip)) (.seq (.reg false [Mv 37 0, Mv 38 9, Ix 39 65 37 38, Ld 40 22 39, Oo 41 (.indexAddr 22 (.tmp 40) (.const (.int .i64 0))), Ld 42 3 41, Sg 8 42]) (.seq (.reg false [Oo 10 (.assign (.const (.int .i64 0)))]) (.block 2 (.loop (.seq (.seq (.reg false [Mv 43 10, Mv 44 0, Mv 45 9, Ix 46 65 44 45, Ld 47 22 46, Ln 48 47 22, Oo 49 (.binOp .lss 3 (.tmp 43) (.tmp 48) 3)]) (.cond (.tmp 49) .skip (.exit 2))) (.seq (.block 3 (.seq (.reg false [Mv 52 0, Mv 53 9, Ix 54 65 52 53, Ld 55 22 54, Mv 56 10, Ix 57 22 55 56, Ld 58 3 57, Sg 11 58]) (.seq (.seq (.reg false [Mv 59 11, Oo 60 (.binOp .lss 3 (.tmp 59) (.const (.int .i64 0)) 3), Mv 61 60, Og 62 (.move (.tmp 11)) 61 false, Og 63 (.move (.tmp 1)) 61 false, Og 64 (.binOp .geq 3 (.tmp 62) (.tmp 63) 3) 61 false, Oo 65 (.pick (.tmp 61) (.const (.bool true)) (.tmp 64)), Mv 66 65, Og 67 (.move (.tmp 10)) 66 false, Og 68 (.binOp .gtr 3 (.tmp 67) (.const (.int .i64 0)) 3) 66 false, Og 69 (.move (.tmp 68)) 66 false, Og 70 (.move (.tmp 11)) 69 true, Og 71 (.move (.tmp 0)) 69 true, Og 72 (.move (.tmp 9)) 69 true, Og 73 (.indexAddr 65 (.tmp 71) (.tmp 72)) 69 true, Og 74 (.load 22 (.tmp 73)) 69 true, Og 75 (.move (.tmp 10)) 69 true, Og 76 (.binOp .sub 3 (.tmp 75) (.const (.int .i64 1)) 3) 69 true, Og 77 (.indexAddr 22 (.tmp 74) (.tmp 76)) 69 true, Og 78 (.load 3 (.tmp 77)) 69 true, Og 79 (.binOp .leq 3 (.tmp 70) (.tmp 78) 3) 69 true, Og 80 (.pick (.tmp 69) (.tmp 79) (.const (.bool false))) 66 false, Oo 81 (.pick (.tmp 66) (.const (.bool true)) (.tmp 80))]) (.cond (.tmp 81) (.seq (.reg false [Oo 4 (.assign (.const (.slice none 0 0))), Oo 5 (.assign (.const (.bool false)))]) .ret) .skip)) (.seq (.reg false [Mv 82 6, Mv 83 11, Ix 84 22 82 83, Ld 85 3 84, Mv 86 9, Oo 87 (.binOp .add 3 (.tmp 86) (.const (.int .i64 1)) 3), Oo 88 (.binOp .add 3 (.tmp 85) (.tmp 87) 3), Ix 89 22 82 83, ⟨none, .store 3 (.tmp 89) (.tmp 88), none⟩]) (.reg false [Mv 90 7, Oo 91 (.binOp .add 3 (.tmp 90) (.const (.int .i64 1)) 3), Sg 7 91]))))) (.reg false [Mv 50 10, Oo 51 (.binOp .add 3 (.tmp 50) (.const (.int .i64 1)) 3), Sg 10 51]))))))))) (.reg false [Mv 19 9, Oo 20 (.binOp .add 3 (.tmp 19) (.const (.int .i64 1)) 3), Sg 9 20])))))) (.seq (.seq (.reg false [Oo 12 (.assign (.const (.int .i64 0)))]) (.block 4 (.loop (.seq (.seq (.reg false [Mv 92 12, Mv 93 1, Oo 94 (.binOp .lss 3 (.tmp 92) (.tmp 93) 3)]) (.cond (.tmp 94) .skip (.exit 4))) (.seq (.block 5 (.seq (.reg false [Mv 97 6, Mv 98 12, Ix 99 22 97 98, Ld 100 3 99, Oo 101 (.binOp .lss 3 (.tmp 100) (.const (.int .i64 1)) 3), Mv 102 101, Og 103 (.move (.tmp 6)) 102 false, Og 104 (.move (.tmp 12)) 102 false, Og 105 (.indexAddr 22 (.tmp 103) (.tmp 104)) 102 false, Og 106 (.load 3 (.tmp 105)) 102 false, Og 107 (.move (.tmp 0)) 102 false, Og 108 (.call { callee := .builtin .len, args := #[.tmp 107], argTypes := #[65] }) 102 false, Og 109 (.binOp .gtr 3 (.tmp 106) (.tmp 108) 3) 102 false, Oo 110 (.pick (.tmp 102) (.const (.bool true)) (.tmp 109))]) (.cond (.tmp 110) (.seq (.reg false [Oo 4 (.assign (.const (.slice none 0 0))), Oo 5 (.assign (.const (.bool false)))]) .ret) .skip))) (.reg false [Mv 95 12, Oo 96 (.binOp .add 3 (.tmp 95) (.const (.int .i64 1)) 3), Sg 12 96])))))) (.seq (.reg false [Mv 111 6, Mv 112 7, Mv 113 1, Oo 114 (.binOp .eql 3 (.tmp 112) (.tmp 113) 3), Sg 4 111, Sg 5 114]) .ret)))))⟩
theorem sf52 : sfOf Try.f52 = some s52 := by kernel_rfl
theorem hb52 : hasBody Try.prog 52 = true := by kernel_rfl
def s53 : SF := ⟨75, [.tmp 10], (.seq (.reg false [Oo 5 (.box 24 (.tmp 0)), Oo 10 (.assign (.const (.bool false)))]) (.seq (.reg false [Ld 13 24 5, Mv 14 3, Mv 15 4, Cl 16 92 #[.tmp 13, .tmp 14, .tmp 15] #[24, 3, 3], Sg 11 16]) (.seq (.seq (.reg false [Oo 12 (.assign (.const (.int .i64 0)))]) (.block 0 (.loop (.seq (.seq (.reg false [Mv 17 12, Mv 18 1, Ln 19 18 32, Oo 20 (.binOp .lss 3 (.tmp 17) (.tmp 19) 3)]) (.cond (.tmp 20) .skip (.exit 0))) (.seq (.block 1 (.seq (.seq (.reg false [Mv 23 1, Mv 24 12, Ix 25 32 23 24, Fa 26 104 25 0, Ld 27 3 26, Mv 28 3, Oo 29 (.binOp .neq 3 (.tmp 27) (.tmp 28) 3), Mv 30 29, Og 31 (.move (.tmp 2)) 30 false, Og 32 (.move (.tmp 1)) 30 false, Og 33 (.move (.tmp 12)) 30 false, Og 34 (.indexAddr 32 (.tmp 32) (.tmp 33)) 30 false, Og 35 (.fieldAddr 104 (.tmp 34) 2) 30 false, Og 36 (.load 3 (.tmp 35)) 30 false, Og 37 (.binOp .lss 3 (.tmp 31) (.tmp 36) 3) 30 false, Oo 38 (.pick (.tmp 30) (.const (.bool true)) (.tmp 37))]) (.cond (.tmp 38) (.exit 1) .skip)) (.seq (.reg false [Mv 39 1, Mv 40 12, Ix 41 32 39 40, Fa 42 104 41 1, Ld 43 102 42]) (.block 2 (.seq (.reg false [Oo 45 (.binOp .eql 102 (.tmp 43) (.const (.int .i64 1)) 102), Sg 44 45]) (.cond (.tmp 44) (.reg false [Oo 11 (.assign (.const (.bool false)))]) (.seq (.reg false [Oo 47 (.binOp .eql 102 (.tmp 43) (.const (.int .i64 2)) 102), Sg 46 47]) (.cond (.tmp 46) (.reg false [Mv 48 11, Mv 49 48, Og 50 (.load 24 (.tmp 5)) 49 false, Og 51 (.move (.tmp 3)) 49 false, Og 52 (.move (.tmp 4)) 49 false, Og 53 (.binOp .sub 3 (.tmp 52) (.const (.int .i64 1)) 3) 49 false, Og 54 (.call { callee := .value (.func 92), args := #[.tmp 50, .tmp 51, .tmp 53], argTypes := #[24, 3, 3] }) 49 false, Oo 55 (.pick (.tmp 49) (.const (.bool true)) (.tmp 54)), Sg 11 55]) (.seq (.reg false [Oo 57 (.binOp .eql 102 (.tmp 43) (.const (.int .i64 3)) 102), Sg 56 57]) (.cond (.tmp 56) (.reg false [Mv 58 11, Mv 59 58, Og 60 (.load 24 (.tmp 5)) 59 true, Og 61 (.move (.tmp 3)) 59 true, Og 62 (.move (.tmp 4)) 59 true, Og 63 (.binOp .sub 3 (.tmp 62) (.const (.int .i64 1)) 3) 59 true, Og 64 (.call { callee := .value (.func 92), args := #[.tmp 60, .tmp 61, .tmp 63], argTypes := #[24, 3, 3] }) 59 true, Oo 65 (.pick (.tmp 59) (.tmp 64) (.const (.bool false))), Sg 11 65]) (.seq (.reg false [Oo 67 (.binOp .eql 102 (.tmp 43) (.const (.int .i64 4)) 102), Sg 66 67]) (.cond (.tmp 66) (.reg false [Mv 68 11, Mv 69 68, Og 70 (.move (.tmp 2)) 69 true, Og 71 (.binOp .rem 3 (.tmp 70) (.const (.int .i64 2)) 3) 69 true, Og 72 (.binOp .eql 3 (.tmp 71) (.const (.int .i64 0)) 3) 69 true, Oo 73 (.pick (.tmp 69) (.tmp 72) (.const (.bool false))), Sg 11 73]) .skip)))))))))))) (.reg false [Mv 21 12, Oo 22 (.binOp .add 3 (.tmp 21) (.const (.int .i64 1)) 3), Sg 12 22])))))) (.seq (.reg false [Mv 74 11, Sg 10 74]) .ret))))⟩
theorem sf53 : sfOf Try.f53 = some s53 := by kernel_rfl
theorem hb53 : hasBody Try.prog 53 = true := by kernel_rfl
def s54 : SF := ⟨14, [.cell 8 48], (.seq (.reg false [Oo 8 (.alloc 48)]) (.seq (.reg false [Mv 9 0, Mv 10 1, Mv 11 2, Mv 12 3, Oo 13 (.build 48 #[(0, (.tmp 9)), (1, (.tmp 10)), (2, (.tmp 11)), (3, (.tmp 12))]), ⟨none, .store 48 (.tmp 8) (.tmp 13), none⟩]) .ret))⟩
theorem sf54 : sfOf Try.f54 = some s54 := by kernel_rfl
theorem hb54 : hasBody Try.prog 54 = true := by kernel_rfl
def s55 : SF := ⟨30, [.tmp 6, .tmp 7], (.seq (.reg false [Oo 3 (.box 24 (.tmp 0)), Oo 6 (.assign (.const (.slice none 0 0))), Oo 7 (.assign (.const (.int .i64 0)))]) (.seq (.reg false [Ld 11 24 3, Mv 12 1, Oo 13 (.buildSlice 41 1 #[(0, (.tmp 12))]), Cl 14 77 #[.tmp 11, .tmp 13] #[24, 41], Mv 10 14, Xt 15 10 0, Xt 16 10 1, Oo 8 (.alloc 135), ⟨none, .store 135 (.tmp 8) (.tmp 15), none⟩, Sg 9 16]) (.seq (.block 0 (.seq (.reg false [Mv 18 9, Oo 19 (.binOp .neq 33 (.tmp 18) (.const (.int .i64 0)) 33), Sg 17 19]) (.cond (.tmp 17) (.seq (.reg false [Mv 20 9, Oo 6 (.assign (.const (.slice none 0 0))), Sg 7 20]) .ret) (.seq (.reg false [Mv 22 2, Oo 23 (.buildSlice 22 1 #[(0, (.tmp 22))]), Cl 24 93 #[.tmp 23] #[22], Oo 25 (.unOp .not 4 (.tmp 24)), Sg 21 25]) (.cond (.tmp 21) (.seq (.reg false [Oo 6 (.assign (.const (.slice none 0 0))), Oo 7 (.assign (.const (.int .i64 9)))]) .ret) .skip))))) (.seq (.reg false [Ld 26 135 8, Mv 27 1, Mv 28 2, Cl 29 80 #[.tmp 26, .tmp 27, .tmp 28] #[135, 32, 3], Sg 6 29, Oo 7 (.assign (.const (.int .i64 0)))]) .ret))))⟩
theorem sf55 : sfOf Try.f55 = some s55 := by kernel_rfl
theorem hb55 : hasBody Try.prog 55 = true := by kernel_rfl
def s62 : SF := ⟨3, [.cell 0 24], (.seq (.reg false [Oo 0 (.alloc 24)]) (.seq (.reg false [Oo 1 (.buildSlice 22 2 #[(0, (.const (.int .i64 14))), (1, (.const (.int .i64 18)))]), Oo 2 (.build 24 #[(0, (.const (.int .i64 6))), (1, (.tmp 1))]), ⟨none, .store 24 (.tmp 0) (.tmp 2), none⟩]) .ret))⟩
theorem sf62 : sfOf Try.f62 = some s62 := by kernel_rfl
theorem hb62 : hasBody Try.prog 62 = true := by kernel_rfl
def s63 : SF := ⟨11, [.cell 6 104], (.seq (.reg false [Oo 6 (.alloc 104)]) (.seq (.reg false [Mv 7 0, Mv 8 1, Mv 9 2, Oo 10 (.build 104 #[(0, (.tmp 7)), (1, (.tmp 8)), (2, (.tmp 9))]), ⟨none, .store 104 (.tmp 6) (.tmp 10), none⟩]) .ret))⟩
theorem sf63 : sfOf Try.f63 = some s63 := by kernel_rfl
theorem hb63 : hasBody Try.prog 63 = true := by kernel_rfl
def s64 : SF := ⟨4, [.cell 0 85], (.seq (.reg false [Oo 0 (.alloc 85)]) (.seq (.reg false [Oo 1 (.build 81 #[(0, (.const (.int .i64 0))), (1, (.const (.int .i64 10)))]), Oo 2 (.build 81 #[(0, (.const (.int .i64 20))), (1, (.const (.int .i64 40)))]), Oo 3 (.build 85 #[(0, (.tmp 1)), (1, (.tmp 2))]), ⟨none, .store 85 (.tmp 0) (.tmp 3), none⟩]) .ret))⟩
theorem sf64 : sfOf Try.f64 = some s64 := by kernel_rfl
theorem hb64 : hasBody Try.prog 64 = true := by kernel_rfl
def s65 : SF := ⟨38, [.cell 6 135, .tmp 7, .tmp 8], (.seq (.reg false [Oo 3 (.box 24 (.tmp 0)), Oo 5 (.box 25 (.tmp 2)), Oo 6 (.alloc 135), Oo 7 (.assign (.const (.slice none 0 0))), Oo 8 (.assign (.const (.int .i64 0)))]) (.seq (.seq (.reg false [Ld 11 24 3, Cl 12 78 #[.tmp 11] #[24], Mv 10 12, Xt 13 10 0, Xt 14 10 1, ⟨none, .store 135 (.tmp 6) (.tmp 13), none⟩, Sg 8 14]) (.seq (.reg false [Mv 15 8, Oo 16 (.binOp .neq 33 (.tmp 15) (.const (.int .i64 0)) 33)]) (.cond (.tmp 16) (.seq (.reg false [Ld 17 135 6, Mv 18 8, ⟨none, .store 135 (.tmp 6) (.tmp 17), none⟩, Oo 7 (.assign (.const (.slice none 0 0))), Sg 8 18]) .ret) .skip))) (.seq (.seq (.reg false [Ld 19 135 6, Mv 20 1, Ld 21 25 5, Cl 22 94 #[.tmp 19, .tmp 20, .tmp 21] #[135, 22, 25], Sg 9 22]) (.seq (.reg false [Mv 23 9, Oo 24 (.binOp .neq 33 (.tmp 23) (.const (.int .i64 0)) 33)]) (.cond (.tmp 24) (.seq (.reg false [Ld 25 135 6, Mv 26 9, ⟨none, .store 135 (.tmp 6) (.tmp 25), none⟩, Oo 7 (.assign (.const (.slice none 0 0))), Sg 8 26]) .ret) .skip))) (.seq (.reg false [Ld 27 135 6, Mv 28 1, Cl 29 96 #[.tmp 27, .tmp 28] #[135, 22], Oo 30 (.makeFunc (.func 97) #[] #[.tmp 5, .tmp 6]), Cl 31 95 #[.tmp 29, .tmp 30] #[41, 140], Sg 7 31]) (.seq (.seq (.reg false [Mv 32 7, Ln 33 32 41, Oo 34 (.binOp .eql 3 (.tmp 33) (.const (.int .i64 0)) 3)]) (.cond (.tmp 34) (.seq (.reg false [Ld 35 135 6, ⟨none, .store 135 (.tmp 6) (.tmp 35), none⟩, Oo 7 (.assign (.const (.slice none 0 0))), Oo 8 (.assign (.const (.int .i64 9)))]) .ret) .skip)) (.seq (.reg false [Ld 36 135 6, Mv 37 7, ⟨none, .store 135 (.tmp 6) (.tmp 36), none⟩, Sg 7 37, Oo 8 (.assign (.const (.int .i64 0)))]) .ret))))))⟩
theorem sf65 : sfOf Try.f65 = some s65 := by kernel_rfl
theorem hb65 : hasBody Try.prog 65 = true := by kernel_rfl
def s66 : SF := ⟨8, [.tmp 3], (.seq (.reg false [Oo 3 (.assign (.const (.bool false)))]) (.seq (.reg false [Mv 4 0, Oo 5 (.makeFunc (.func 68) #[] #[.tmp 1]), Cl 6 67 #[.tmp 4, .tmp 5] #[32, 139], Oo 7 (.unOp .not 4 (.tmp 6)), Sg 3 7]) .ret))⟩
theorem sf66 : sfOf Try.f66 = some s66 := by kernel_rfl
theorem hb66 : hasBody Try.prog 66 = true := by kernel_rfl
def s67 : SF := ⟨9, [.tmp 4], (.seq (.reg false [Oo 4 (.assign (.const (.bool false)))]) (.seq (.reg false [Mv 5 0, Mv 6 1, Cl 7 100 #[.tmp 5, .tmp 6] #[32, 139], Oo 8 (.binOp .geq 3 (.tmp 7) (.const (.int .i64 0)) 3), Sg 4 8]) .ret))⟩
theorem sf67 : sfOf Try.f67 = some s67 := by kernel_rfl
theorem hb67 : hasBody Try.prog 67 = true := by kernel_rfl
def s68 : SF := ⟨8, [.tmp 3], (.seq (.reg false [Oo 2 (.box 104 (.tmp 0)), Oo 3 (.assign (.const (.bool false)))]) (.seq (.reg false [Fa 4 104 2 0, Ld 5 3 4, Ld 6 3 1, Oo 7 (.binOp .eql 3 (.tmp 5) (.tmp 6) 3), Sg 3 7]) .ret))⟩
theorem sf68 : sfOf Try.f68 = some s68 := by kernel_rfl
theorem hb68 : hasBody Try.prog 68 = true := by kernel_rfl
def s69 : SF := ⟨9, [.tmp 4], (.seq (.reg false [Oo 4 (.assign (.const (.bool false)))]) (.seq (.reg false [Mv 5 0, Mv 6 1, Cl 7 101 #[.tmp 5, .tmp 6] #[41, 140], Oo 8 (.binOp .geq 3 (.tmp 7) (.const (.int .i64 0)) 3), Sg 4 8]) .ret))⟩
theorem sf69 : sfOf Try.f69 = some s69 := by kernel_rfl
theorem hb69 : hasBody Try.prog 69 = true := by kernel_rfl
def s73 : SF := ⟨6, [.tmp 2], (.seq (.reg false [Oo 2 (.assign (.const (.bool false)))]) (.seq (.reg false [Mv 3 0, Oo 4 (.buildSlice 22 1 #[(0, (.tmp 3))]), Cl 5 88 #[.const (.int .i64 1), .const (.int .i64 20), .tmp 4] #[3, 3, 22], Sg 2 5]) .ret))⟩
theorem sf73 : sfOf Try.f73 = some s73 := by kernel_rfl
theorem hb73 : hasBody Try.prog 73 = true := by kernel_rfl
def s74 : SF := ⟨6, [.tmp 4], (.seq (.reg false [Oo 2 (.box 135 (.tmp 0)), Oo 3 (.box 3 (.tmp 1)), Oo 4 (.assign (.const .nilFunc))]) (.seq (.reg false [Oo 5 (.makeFunc (.func 103) #[] #[.tmp 3, .tmp 2]), Sg 4 5]) .ret))⟩
theorem sf74 : sfOf Try.f74 = some s74 := by kernel_rfl
theorem hb74 : hasBody Try.prog 74 = true := by kernel_rfl
end Go.Dw.Seat
end
section
namespace Go.Dw.Seat
open Go Go.Dw Go.Proofs
def s75 : SF := ⟨21, [.tmp 6], (.seq (.reg false [Oo 3 (.box 135 (.tmp 0)), Oo 5 (.box 149 (.tmp 2)), Oo 6 (.assign (.const (.bool false)))]) (.seq (.reg true [Ld 7 135 3, Mv 8 1, Fa 9 149 5 0, Ld 10 3 9, Cl 11 80 #[.tmp 7, .tmp 8, .tmp 10] #[135, 32, 3], Fa 12 149 5 1, Ld 13 3 12, Ix 14 22 11 13, Ld 15 3 14, Fa 16 149 5 2, Ld 17 3 16, Oo 18 (.binOp .shr 3 (.tmp 15) (.tmp 17) 3), Oo 19 (.binOp .and 3 (.tmp 18) (.const (.int .i64 1)) 3), Oo 20 (.binOp .eql 3 (.tmp 19) (.const (.int .i64 1)) 3), Sg 6 20]) .ret))⟩
theorem sf75 : sfOf Try.f75 = some s75 := by kernel_rfl
theorem hb75 : hasBody Try.prog 75 = true := by kernel_rfl
def s77 : SF := ⟨35, [.cell 4 135, .tmp 5], (.seq (.reg false [Oo 2 (.box 24 (.tmp 0)), Oo 4 (.alloc 135), Oo 5 (.assign (.const (.int .i64 0)))]) (.seq (.reg false [Ld 12 24 2, Cl 13 78 #[.tmp 12] #[24], Mv 11 13, Xt 14 11 0, Xt 15 11 1, Oo 6 (.alloc 135), ⟨none, .store 135 (.tmp 6) (.tmp 14), none⟩, Sg 7 15]) (.seq (.seq (.reg false [Mv 16 7, Oo 17 (.binOp .neq 33 (.tmp 16) (.const (.int .i64 0)) 33)]) (.cond (.tmp 17) (.seq (.reg false [Ld 18 135 6, Mv 19 7, ⟨none, .store 135 (.tmp 4) (.tmp 18), none⟩, Sg 5 19]) .ret) .skip)) (.seq (.seq (.reg false [Mv 20 1, Ln 21 20 41, Oo 22 (.move (.const (.int .i64 0)))]) (.block 0 (.loop (.seq (.reg false [Oo 23 (.binOp .lss 3 (.tmp 22) (.tmp 21) 3)]) (.seq (.cond (.tmp 23) .skip (.exit 0)) (.seq (.block 1 (.seq (.reg false [Ix 24 41 20 22, Ld 25 32 24, Sg 9 25]) (.seq (.reg false [Ld 26 135 6, Mv 27 9, Cl 28 105 #[.tmp 26, .tmp 27] #[135, 32], Sg 10 28]) (.seq (.reg false [Mv 29 10, Oo 30 (.binOp .neq 33 (.tmp 29) (.const (.int .i64 0)) 33)]) (.cond (.tmp 30) (.seq (.reg false [Ld 31 135 6, Mv 32 10, ⟨none, .store 135 (.tmp 4) (.tmp 31), none⟩, Sg 5 32]) .ret) .skip))))) (.reg false [Oo 33 (.binOp .add 3 (.tmp 22) (.const (.int .i64 1)) 3), Mv 22 33]))))))) (.seq (.reg false [Ld 34 135 6, ⟨none, .store 135 (.tmp 4) (.tmp 34), none⟩, Oo 5 (.assign (.const (.int .i64 0)))]) .ret)))))⟩
theorem sf77 : sfOf Try.f77 = some s77 := by kernel_rfl
theorem hb77 : hasBody Try.prog 77 = true := by kernel_rfl
def s78 : SF := ⟨35, [.cell 2 135, .tmp 3], (.seq (.reg false [Oo 1 (.box 24 (.tmp 0)), Oo 2 (.alloc 135), Oo 3 (.assign (.const (.int .i64 0)))]) (.seq (.block 0 (.seq (.reg false [Fa 5 24 1 0, Ld 6 3 5, Oo 7 (.buildSlice 22 1 #[(0, (.tmp 6))]), Cl 8 88 #[.const (.int .i64 1), .const (.int .i64 16), .tmp 7] #[3, 3, 22], Oo 9 (.unOp .not 4 (.tmp 8)), Sg 4 9]) (.cond (.tmp 4) (.seq (.reg false [Ld 10 135 2, ⟨none, .store 135 (.tmp 2) (.tmp 10), none⟩, Oo 3 (.assign (.const (.int .i64 3)))]) .ret) (.seq (.reg false [Fa 12 24 1 1, Ld 13 22 12, Ln 14 13 22, Oo 15 (.binOp .gtr 3 (.tmp 14) (.const (.int .i64 6)) 3), Sg 11 15]) (.cond (.tmp 11) (.seq (.reg false [Ld 16 135 2, ⟨none, .store 135 (.tmp 2) (.tmp 16), none⟩, Oo 3 (.assign (.const (.int .i64 5)))]) .ret) (.seq (.reg false [Fa 18 24 1 1, Ld 19 22 18, Ln 20 19 22, Oo 21 (.binOp .eql 3 (.tmp 20) (.const (.int .i64 0)) 3), Sg 17 21]) (.cond (.tmp 17) (.seq (.reg false [Ld 22 135 2, ⟨none, .store 135 (.tmp 2) (.tmp 22), none⟩, Oo 3 (.assign (.const (.int .i64 7)))]) .ret) (.seq (.reg true [Fa 24 24 1 0, Ld 25 3 24, Oo 26 (.binOp .shl 3 (.const (.int .i64 1)) (.tmp 25) 3), Oo 27 (.binOp .sub 3 (.tmp 26) (.const (.int .i64 1)) 3), Fa 28 24 1 1, Ld 29 22 28, Cl 30 88 #[.const (.int .i64 0), .tmp 27, .tmp 29] #[3, 3, 22], Oo 31 (.unOp .not 4 (.tmp 30)), Sg 23 31]) (.cond (.tmp 23) (.seq (.reg false [Ld 32 135 2, ⟨none, .store 135 (.tmp 2) (.tmp 32), none⟩, Oo 3 (.assign (.const (.int .i64 2)))]) .ret) .skip))))))))) (.seq (.reg false [Ld 33 24 1, Oo 34 (.build 135 #[(0, (.tmp 33))]), ⟨none, .store 135 (.tmp 2) (.tmp 34), none⟩, Oo 3 (.assign (.const (.int .i64 0)))]) .ret)))⟩
theorem sf78 : sfOf Try.f78 = some s78 := by kernel_rfl
theorem hb78 : hasBody Try.prog 78 = true := by kernel_rfl
def s79 : SF := ⟨18, [.tmp 4], (.seq (.reg false [Oo 4 (.assign (.const (.slice none 0 0)))]) (.seq (.seq (.reg false [Ld 6 3 1, Oo 7 (.move (.const (.int .i64 0)))]) (.block 0 (.loop (.seq (.reg false [Oo 8 (.binOp .lss 3 (.tmp 7) (.tmp 6) 3)]) (.seq (.cond (.tmp 8) .skip (.exit 0)) (.seq (.block 1 (.seq (.reg false [Mv 9 7, Sg 5 9]) (.reg false [Mv 10 4, Ld 11 135 2, Mv 12 0, Mv 13 5, Cl 14 80 #[.tmp 11, .tmp 12, .tmp 13] #[135, 32, 3], Oo 15 (.call { callee := .builtin .append, args := #[.tmp 10, .tmp 14], argTypes := #[22, 22] }), Sg 4 15]))) (.reg false [Oo 16 (.binOp .add 3 (.tmp 7) (.const (.int .i64 1)) 3), Mv 7 16]))))))) (.seq (.reg false [Mv 17 4, Sg 4 17]) .ret)))⟩
theorem sf79 : sfOf Try.f79 = some s79 := by kernel_rfl
theorem hb79 : hasBody Try.prog 79 = true := by kernel_rfl
def s80 : SF := ⟨40, [.tmp 6], (.seq (.reg false [Oo 3 (.box 135 (.tmp 0)), Oo 6 (.assign (.const (.slice none 0 0)))]) (.seq (.reg false [Fa 10 135 3 0, Fa 11 24 10 1, Ld 12 22 11, Cl 13 106 #[.tmp 12] #[22], Sg 7 13]) (.seq (.seq (.reg false [Mv 14 1, Ln 15 14 32, Oo 16 (.move (.const (.int .i64 0)))]) (.block 0 (.loop (.seq (.reg false [Oo 17 (.binOp .lss 3 (.tmp 16) (.tmp 15) 3)]) (.seq (.cond (.tmp 17) .skip (.exit 0)) (.seq (.block 1 (.seq (.reg false [Ix 18 32 14 16, Ld 19 104 18, Oo 9 (.alloc 104), ⟨none, .store 104 (.tmp 9) (.tmp 19), none⟩]) (.seq (.reg false [Mv 20 2, Fa 21 104 9 2, Ld 22 3 21, Oo 23 (.binOp .geq 3 (.tmp 20) (.tmp 22) 3)]) (.cond (.tmp 23) (.reg true [Mv 24 7, Fa 25 104 9 0, Ld 26 3 25, Ld 27 135 3, Mv 28 7, Fa 29 104 9 0, Ld 30 3 29, Ix 31 22 28 30, Ld 32 3 31, Fa 33 104 9 1, Ld 34 102 33, Mv 35 2, Cl 36 107 #[.tmp 27, .tmp 32, .tmp 34, .tmp 35] #[135, 3, 102, 3], Ix 37 22 24 26, ⟨none, .store 3 (.tmp 37) (.tmp 36), none⟩]) .skip)))) (.reg false [Oo 38 (.binOp .add 3 (.tmp 16) (.const (.int .i64 1)) 3), Mv 16 38]))))))) (.seq (.reg false [Mv 39 7, Sg 6 39]) .ret))))⟩
theorem sf80 : sfOf Try.f80 = some s80 := by kernel_rfl
theorem hb80 : hasBody Try.prog 80 = true := by kernel_rfl
def s81 : SF := ⟨19, [.tmp 4], (.seq (.reg false [Oo 4 (.assign (.const (.int .i64 0)))]) (.seq (.seq (.reg false [Mv 6 0, Ln 7 6 65, Oo 8 (.move (.const (.int .i64 0)))]) (.block 0 (.loop (.seq (.reg false [Oo 9 (.binOp .lss 3 (.tmp 8) (.tmp 7) 3)]) (.seq (.cond (.tmp 9) .skip (.exit 0)) (.seq (.block 1 (.seq (.reg false [Mv 10 8, Sg 5 10]) (.seq (.reg false [Mv 11 1, Mv 12 0, Mv 13 5, Ix 14 65 12 13, Ld 15 22 14, Oo 16 (.call { callee := .value (.tmp 11), args := #[.tmp 15], argTypes := #[22] })]) (.cond (.tmp 16) (.seq (.reg false [Mv 17 5, Sg 4 17]) .ret) .skip)))) (.reg false [Oo 18 (.binOp .add 3 (.tmp 8) (.const (.int .i64 1)) 3), Mv 8 18]))))))) (.seq (.reg false [Oo 4 (.assign (.const (.int .i64 (-1))))]) .ret)))⟩
theorem sf81 : sfOf Try.f81 = some s81 := by kernel_rfl
theorem hb81 : hasBody Try.prog 81 = true := by kernel_rfl
def s82 : SF := ⟨18, [.tmp 5], (.seq (.reg false [Oo 5 (.assign (.const (.bool false)))]) (.seq (.reg true [Ld 6 155 1, Ld 7 41 2, Mv 8 0, Oo 9 (.indexAddr 22 (.tmp 8) (.const (.int .i64 0))), Ld 10 3 9, Ix 11 41 7 10, Ld 12 32 11, Oo 13 (.call { callee := .value (.tmp 6), args := #[.tmp 12], argTypes := #[32] }), Ld 14 155 1, Ld 15 32 3, Oo 16 (.call { callee := .value (.tmp 14), args := #[.tmp 15], argTypes := #[32] }), Cl 17 83 #[.tmp 13, .tmp 16] #[22, 22], Sg 5 17]) .ret))⟩
theorem sf82 : sfOf Try.f82 = some s82 := by kernel_rfl
theorem hb82 : hasBody Try.prog 82 = true := by kernel_rfl
def s83 : SF := ⟨26, [.tmp 4], (.seq (.reg false [Oo 4 (.assign (.const (.bool false)))]) (.seq (.seq (.reg false [Mv 6 0, Ln 7 6 22, Mv 8 1, Ln 9 8 22, Oo 10 (.binOp .neq 3 (.tmp 7) (.tmp 9) 3)]) (.cond (.tmp 10) (.seq (.reg false [Oo 4 (.assign (.const (.bool false)))]) .ret) .skip)) (.seq (.seq (.reg false [Mv 11 0, Ln 12 11 22, Oo 13 (.move (.const (.int .i64 0)))]) (.block 0 (.loop (.seq (.reg false [Oo 14 (.binOp .lss 3 (.tmp 13) (.tmp 12) 3)]) (.seq (.cond (.tmp 14) .skip (.exit 0)) (.seq (.block 1 (.seq (.reg false [Mv 15 13, Sg 5 15]) (.seq (.reg true [Mv 16 0, Mv 17 5, Ix 18 22 16 17, Ld 19 3 18, Mv 20 1, Mv 21 5, Ix 22 22 20 21, Ld 23 3 22, Oo 24 (.binOp .neq 3 (.tmp 19) (.tmp 23) 3)]) (.cond (.tmp 24) (.seq (.reg false [Oo 4 (.assign (.const (.bool false)))]) .ret) .skip)))) (.reg false [Oo 25 (.binOp .add 3 (.tmp 13) (.const (.int .i64 1)) 3), Mv 13 25]))))))) (.seq (.reg false [Oo 4 (.assign (.const (.bool true)))]) .ret))))⟩
theorem sf83 : sfOf Try.f83 = some s83 := by kernel_rfl
theorem hb83 : hasBody Try.prog 83 = true := by kernel_rfl
def s84 : SF := ⟨6, [.tmp 2], (.seq (.reg false [Oo 1 (.box 85 (.tmp 0)), Oo 2 (.assign (.const (.bool false)))]) (.seq (.reg false [Ld 3 85 1, Cl 4 85 #[.tmp 3] #[85], Oo 5 (.unOp .not 4 (.tmp 4)), Sg 2 5]) .ret))⟩
theorem sf84 : sfOf Try.f84 = some s84 := by kernel_rfl
theorem hb84 : hasBody Try.prog 84 = true := by kernel_rfl
def s85 : SF := ⟨11, [.tmp 2], (.seq (.reg false [Oo 1 (.box 85 (.tmp 0)), Oo 2 (.assign (.const (.bool false)))]) (.seq (.reg false [Fa 3 85 1 0, Ld 4 81 3, Cl 5 108 #[.tmp 4, .const (.int .i64 0), .const (.int .i64 30)] #[81, 3, 3], Mv 6 5, Og 7 (.fieldAddr 85 (.tmp 1) 1) 6 true, Og 8 (.load 81 (.tmp 7)) 6 true, Og 9 (.call { callee := .value (.func 108), args := #[.tmp 8, .const (.int .i64 0), .const (.int .i64 100)], argTypes := #[81, 3, 3] }) 6 true, Oo 10 (.pick (.tmp 6) (.tmp 9) (.const (.bool false))), Sg 2 10]) .ret))⟩
theorem sf85 : sfOf Try.f85 = some s85 := by kernel_rfl
theorem hb85 : hasBody Try.prog 85 = true := by kernel_rfl
def s86 : SF := ⟨15, [.tmp 2], (.seq (.reg false [Oo 1 (.box 72 (.tmp 0)), Oo 2 (.assign (.const (.bool false)))]) (.seq (.reg false [Fa 3 72 1 0, Ld 4 3 3, Oo 5 (.buildSlice 22 1 #[(0, (.tmp 4))]), Cl 6 88 #[.const (.int .i64 1), .const (.int .i64 600), .tmp 5] #[3, 3, 22], Mv 7 6, Og 8 (.fieldAddr 72 (.tmp 1) 1) 7 true, Og 9 (.load 3 (.tmp 8)) 7 true, Og 10 (.fieldAddr 72 (.tmp 1) 2) 7 true, Og 11 (.load 3 (.tmp 10)) 7 true, Og 12 (.buildSlice 22 2 #[(0, (.tmp 9)), (1, (.tmp 11))]) 7 true, Og 13 (.call { callee := .value (.func 88), args := #[.const (.int .i64 0), .const (.int .i64 20), .tmp 12], argTypes := #[3, 3, 22] }) 7 true, Oo 14 (.pick (.tmp 7) (.tmp 13) (.const (.bool false))), Sg 2 14]) .ret))⟩
theorem sf86 : sfOf Try.f86 = some s86 := by kernel_rfl
theorem hb86 : hasBody Try.prog 86 = true := by kernel_rfl
def s87 : SF := ⟨9, [.tmp 4], (.seq (.reg false [Oo 4 (.assign (.const (.bool false)))]) (.seq (.reg false [Mv 5 0, Mv 6 1, Cl 7 109 #[.tmp 5, .tmp 6] #[73, 86], Oo 8 (.binOp .geq 3 (.tmp 7) (.const (.int .i64 0)) 3), Sg 4 8]) .ret))⟩
theorem sf87 : sfOf Try.f87 = some s87 := by kernel_rfl
theorem hb87 : hasBody Try.prog 87 = true := by kernel_rfl
def s88 : SF := ⟨11, [.tmp 6], (.seq (.reg false [Oo 3 (.box 3 (.tmp 0)), Oo 4 (.box 3 (.tmp 1)), Oo 6 (.assign (.const (.bool false)))]) (.seq (.reg false [Mv 7 2, Oo 8 (.makeFunc (.func 111) #[] #[.tmp 3, .tmp 4]), Cl 9 110 #[.tmp 7, .tmp 8] #[22, 145], Oo 10 (.unOp .not 4 (.tmp 9)), Sg 6 10]) .ret))⟩
theorem sf88 : sfOf Try.f88 = some s88 := by kernel_rfl
theorem hb88 : hasBody Try.prog 88 = true := by kernel_rfl
def s89 : SF := ⟨22, [.cell 4 81], (.seq (.reg false [Oo 2 (.box 161 (.tmp 0)), Oo 3 (.box 85 (.tmp 1)), Oo 4 (.alloc 81)]) (.seq (.reg true [Ld 5 161 2, Fa 6 85 3 0, Fa 7 81 6 1, Ld 8 3 7, Fa 9 85 3 1, Fa 10 81 9 0, Ld 11 3 10, Cl 12 112 #[.tmp 5, .tmp 8, .tmp 11] #[161, 3, 3], Ld 13 161 2, Fa 14 85 3 0, Fa 15 81 14 0, Ld 16 3 15, Fa 17 85 3 1, Fa 18 81 17 1, Ld 19 3 18, Cl 20 112 #[.tmp 13, .tmp 16, .tmp 19] #[161, 3, 3], Oo 21 (.build 81 #[(0, (.tmp 12)), (1, (.tmp 20))]), ⟨none, .store 81 (.tmp 4) (.tmp 21), none⟩]) .ret))⟩
theorem sf89 : sfOf Try.f89 = some s89 := by kernel_rfl
theorem hb89 : hasBody Try.prog 89 = true := by kernel_rfl
def s90 : SF := ⟨17, [.tmp 4], (.seq (.reg false [Oo 4 (.assign (.const (.bool false)))]) (.seq (.reg false [Mv 5 0, Cl 6 113 #[.tmp 5] #[3], Mv 7 6, Og 8 (.move (.tmp 1)) 7 true, Og 9 (.call { callee := .value (.func 113), args := #[.tmp 8], argTypes := #[3] }) 7 true, Og 10 (.unOp .not 4 (.tmp 9)) 7 true, Oo 11 (.pick (.tmp 7) (.tmp 10) (.const (.bool false))), Mv 12 11, Og 13 (.move (.tmp 0)) 12 false, Og 14 (.move (.tmp 1)) 12 false, Og 15 (.binOp .lss 3 (.tmp 13) (.tmp 14) 3) 12 false, Oo 16 (.pick (.tmp 12) (.const (.bool true)) (.tmp 15)), Sg 4 16]) .ret))⟩
theorem sf90 : sfOf Try.f90 = some s90 := by kernel_rfl
theorem hb90 : hasBody Try.prog 90 = true := by kernel_rfl
def s92 : SF := ⟨27, [.tmp 6], (.seq (.reg false [Oo 3 (.box 24 (.tmp 0)), Oo 6 (.assign (.const (.bool false)))]) (.seq (.reg false [Mv 7 2, Oo 8 (.binOp .geq 3 (.tmp 7) (.const (.int .i64 0)) 3), Mv 9 8, Og 10 (.move (.tmp 2)) 9 true, Og 11 (.fieldAddr 24 (.tmp 3) 0) 9 true, Og 12 (.load 3 (.tmp 11)) 9 true, Og 13 (.binOp .lss 3 (.tmp 10) (.tmp 12) 3) 9 true, Oo 14 (.pick (.tmp 9) (.tmp 13) (.const (.bool false))), Mv 15 14, Og 16 (.fieldAddr 24 (.tmp 3) 1) 15 true, Og 17 (.load 22 (.tmp 16)) 15 true, Og 18 (.move (.tmp 1)) 15 true, Og 19 (.indexAddr 22 (.tmp 17) (.tmp 18)) 15 true, Og 20 (.load 3 (.tmp 19)) 15 true, Og 21 (.move (.tmp 2)) 15 true, Og 22 (.convert 3 114 (.tmp 21)) 15 true, Og 23 (.binOp .shr 3 (.tmp 20) (.tmp 22) 114) 15 true, Og 24 (.binOp .and 3 (.tmp 23) (.const (.int .i64 1)) 3) 15 true, Og 25 (.binOp .eql 3 (.tmp 24) (.const (.int .i64 1)) 3) 15 true, Oo 26 (.pick (.tmp 15) (.tmp 25) (.const (.bool false))), Sg 6 26]) .ret))⟩
theorem sf92 : sfOf Try.f92 = some s92 := by kernel_rfl
theorem hb92 : hasBody Try.prog 92 = true := by kernel_rfl
def s93 : SF := ⟨5, [.tmp 2], (.seq (.reg false [Oo 2 (.assign (.const (.bool false)))]) (.seq (.reg false [Mv 3 0, Cl 4 88 #[.const (.int .i64 0), .const (.int .i64 1000), .tmp 3] #[3, 3, 22], Sg 2 4]) .ret))⟩
theorem sf93 : sfOf Try.f93 = some s93 := by kernel_rfl
theorem hb93 : hasBody Try.prog 93 = true := by kernel_rfl
def s94 : SF := ⟨38, [.tmp 6], (.seq (.reg false [Oo 3 (.box 135 (.tmp 0)), Oo 6 (.assign (.const (.int .i64 0)))]) (.seq (.reg false [Oo 9 (.makeFunc (.func 114) #[] #[.tmp 3]), Sg 7 9]) (.seq (.reg false [Mv 10 1, Cl 11 116 #[.tmp 10] #[22], Mv 12 11, Og 13 (.move (.tmp 1)) 12 true, Og 14 (.call { callee := .value (.func 106), args := #[.tmp 13], argTypes := #[22] }) 12 true, Og 15 (.call { callee := .value (.func 117), args := #[.tmp 14], argTypes := #[22] }) 12 true, Og 16 (.call { callee := .builtin .len, args := #[.tmp 15], argTypes := #[22] }) 12 true, Og 17 (.move (.tmp 1)) 12 true, Og 18 (.call { callee := .builtin .len, args := #[.tmp 17], argTypes := #[22] }) 12 true, Og 19 (.binOp .eql 3 (.tmp 16) (.tmp 18) 3) 12 true, Oo 20 (.pick (.tmp 12) (.tmp 19) (.const (.bool false))), Sg 8 20]) (.seq (.block 0 (.seq (.seq (.reg false [Mv 22 1, Ln 23 22 22, Oo 24 (.binOp .gtr 3 (.tmp 23) (.const (.int .i64 5)) 3), Sg 21 24]) (.cond (.tmp 21) .skip (.reg false [Mv 25 2, Ln 26 25 25, Oo 27 (.binOp .gtr 3 (.tmp 26) (.const (.int .i64 40)) 3), Sg 21 27]))) (.cond (.tmp 21) (.seq (.reg false [Oo 6 (.assign (.const (.int .i64 5)))]) .ret) (.seq (.seq (.reg false [Mv 29 1, Cl 30 93 #[.tmp 29] #[22], Oo 31 (.unOp .not 4 (.tmp 30)), Sg 28 31]) (.cond (.tmp 28) .skip (.reg false [Mv 32 8, Oo 33 (.unOp .not 4 (.tmp 32)), Sg 28 33]))) (.cond (.tmp 28) (.seq (.reg false [Oo 6 (.assign (.const (.int .i64 4)))]) .ret) (.seq (.reg false [Mv 35 2, Mv 36 7, Cl 37 98 #[.tmp 35, .tmp 36] #[25, 172], Sg 34 37]) (.cond (.tmp 34) (.seq (.reg false [Oo 6 (.assign (.const (.int .i64 6)))]) .ret) .skip))))))) (.seq (.reg false [Oo 6 (.assign (.const (.int .i64 0)))]) .ret)))))⟩
theorem sf94 : sfOf Try.f94 = some s94 := by kernel_rfl
theorem hb94 : hasBody Try.prog 94 = true := by kernel_rfl
def s95 : SF := ⟨42, [.tmp 4], (.seq (.reg false [Oo 4 (.assign (.const (.slice none 0 0)))]) (.seq (.reg false [Mv 8 0, Mv 9 1, Cl 10 101 #[.tmp 8, .tmp 9] #[41, 140], Sg 5 10]) (.seq (.seq (.reg false [Mv 11 5, Oo 12 (.binOp .eql 3 (.tmp 11) (.const (.int .i64 (-1))) 3)]) (.cond (.tmp 12) (.seq (.reg false [Mv 13 0, Sg 4 13]) .ret) .skip)) (.seq (.seq (.reg false [Mv 14 5, Oo 15 (.binOp .add 3 (.tmp 14) (.const (.int .i64 1)) 3), Sg 6 15]) (.block 0 (.loop (.seq (.seq (.reg false [Mv 16 6, Mv 17 0, Ln 18 17 41, Oo 19 (.binOp .lss 3 (.tmp 16) (.tmp 18) 3)]) (.cond (.tmp 19) .skip (.exit 0))) (.seq (.block 1 (.seq (.reg false [Mv 22 0, Mv 23 6, Ix 24 41 22 23, Ld 25 32 24, Sg 7 25]) (.seq (.reg false [Mv 26 1, Mv 27 7, Oo 28 (.call { callee := .value (.tmp 26), args := #[.tmp 27], argTypes := #[32] }), Oo 29 (.unOp .not 4 (.tmp 28))]) (.cond (.tmp 29) (.seq (.reg false [Mv 30 0, Mv 31 5, Mv 32 7, Ix 33 41 30 31, ⟨none, .store 32 (.tmp 33) (.tmp 32), none⟩]) (.reg false [Mv 34 5, Oo 35 (.binOp .add 3 (.tmp 34) (.const (.int .i64 1)) 3), Sg 5 35])) .skip)))) (.reg false [Mv 20 6, Oo 21 (.binOp .add 3 (.tmp 20) (.const (.int .i64 1)) 3), Sg 6 21])))))) (.seq (.reg false [Mv 36 0, Mv 37 5, Oo 38 (.slice 41 (.tmp 36) (some (.tmp 37)) none none), ⟨none, .call { callee := .builtin .clear, args := #[.tmp 38], argTypes := #[41] }, none⟩]) (.seq (.reg false [Mv 39 0, Mv 40 5, Oo 41 (.slice 41 (.tmp 39) none (some (.tmp 40)) none), Sg 4 41]) .ret))))))⟩
theorem sf95 : sfOf Try.f95 = some s95 := by kernel_rfl
theorem hb95 : hasBody Try.prog 95 = true := by kernel_rfl
def s96 : SF := ⟨59, [.tmp 4], (.seq (.reg false [Oo 2 (.box 135 (.tmp 0)), Oo 4 (.assign (.const (.slice none 0 0)))]) (.seq (.reg false [Ld 13 135 2, Mv 14 1, Cl 15 118 #[.tmp 13, .tmp 14] #[135, 22], Sg 5 15]) (.seq (.reg false [Oo 16 (.buildSlice 41 1 #[(0, (.const (.slice none 0 0)))]), Sg 6 16]) (.seq (.seq (.reg false [Mv 17 5, Ln 18 17 32, Oo 19 (.move (.const (.int .i64 0)))]) (.block 0 (.loop (.seq (.reg false [Oo 20 (.binOp .lss 3 (.tmp 19) (.tmp 18) 3)]) (.seq (.cond (.tmp 20) .skip (.exit 0)) (.seq (.block 1 (.seq (.reg false [Ix 21 32 17 19, Ld 22 104 21, Oo 8 (.alloc 104), ⟨none, .store 104 (.tmp 8) (.tmp 22), none⟩]) (.reg false [Mv 23 6, Ld 24 104 8, Oo 25 (.buildSlice 32 1 #[(0, (.tmp 24))]), Oo 26 (.buildSlice 41 1 #[(0, (.tmp 25))]), Oo 27 (.call { callee := .builtin .append, args := #[.tmp 23, .tmp 26], argTypes := #[41, 41] }), Sg 6 27]))) (.reg false [Oo 28 (.binOp .add 3 (.tmp 19) (.const (.int .i64 1)) 3), Mv 19 28]))))))) (.seq (.seq (.reg false [Mv 29 5, Ln 30 29 32, Oo 31 (.move (.const (.int .i64 0)))]) (.block 2 (.loop (.seq (.reg false [Oo 32 (.binOp .lss 3 (.tmp 31) (.tmp 30) 3)]) (.seq (.cond (.tmp 32) .skip (.exit 2)) (.seq (.block 3 (.seq (.reg false [Mv 33 31, Ix 34 32 29 31, Ld 35 104 34, Oo 10 (.alloc 104), Sg 9 33, ⟨none, .store 104 (.tmp 10) (.tmp 35), none⟩]) (.seq (.reg false [Mv 36 5, Mv 37 9, Oo 38 (.binOp .add 3 (.tmp 37) (.const (.int .i64 1)) 3), Oo 39 (.slice 32 (.tmp 36) (some (.tmp 38)) none none), Ln 40 39 32, Oo 41 (.move (.const (.int .i64 0)))]) (.block 4 (.loop (.seq (.reg false [Oo 42 (.binOp .lss 3 (.tmp 41) (.tmp 40) 3)]) (.seq (.cond (.tmp 42) .skip (.exit 4)) (.seq (.block 5 (.seq (.reg false [Ix 43 32 39 41, Ld 44 104 43, Oo 12 (.alloc 104), ⟨none, .store 104 (.tmp 12) (.tmp 44), none⟩]) (.seq (.reg false [Fa 45 104 10 0, Ld 46 3 45, Fa 47 104 12 0, Ld 48 3 47, Oo 49 (.binOp .lss 3 (.tmp 46) (.tmp 48) 3)]) (.cond (.tmp 49) (.reg false [Mv 50 6, Ld 51 104 10, Ld 52 104 12, Oo 53 (.buildSlice 32 2 #[(0, (.tmp 51)), (1, (.tmp 52))]), Oo 54 (.buildSlice 41 1 #[(0, (.tmp 53))]), Oo 55 (.call { callee := .builtin .append, args := #[.tmp 50, .tmp 54], argTypes := #[41, 41] }), Sg 6 55]) .skip)))) (.reg false [Oo 56 (.binOp .add 3 (.tmp 41) (.const (.int .i64 1)) 3), Mv 41 56]))))))))) (.reg false [Oo 57 (.binOp .add 3 (.tmp 31) (.const (.int .i64 1)) 3), Mv 31 57]))))))) (.seq (.reg false [Mv 58 6, Sg 4 58]) .ret))))))⟩
theorem sf96 : sfOf Try.f96 = some s96 := by kernel_rfl
theorem hb96 : hasBody Try.prog 96 = true := by kernel_rfl
def s97 : SF := ⟨8, [.tmp 4], (.seq (.reg false [Oo 3 (.box 32 (.tmp 0)), Oo 4 (.assign (.const (.bool false)))]) (.seq (.reg false [Ld 5 25 1, Oo 6 (.makeFunc (.func 99) #[] #[.tmp 2, .tmp 3]), Cl 7 98 #[.tmp 5, .tmp 6] #[25, 172], Sg 4 7]) .ret))⟩
theorem sf97 : sfOf Try.f97 = some s97 := by kernel_rfl
theorem hb97 : hasBody Try.prog 97 = true := by kernel_rfl
def s98 : SF := ⟨9, [.tmp 4], (.seq (.reg false [Oo 4 (.assign (.const (.bool false)))]) (.seq (.reg false [Mv 5 0, Mv 6 1, Cl 7 119 #[.tmp 5, .tmp 6] #[25, 172], Oo 8 (.binOp .geq 3 (.tmp 7) (.const (.int .i64 0)) 3), Sg 4 8]) .ret))⟩
theorem sf98 : sfOf Try.f98 = some s98 := by kernel_rfl
theorem hb98 : hasBody Try.prog 98 = true := by kernel_rfl
def s99 : SF := ⟨18, [.tmp 4], (.seq (.reg false [Oo 3 (.box 48 (.tmp 0)), Oo 4 (.assign (.const (.bool false)))]) (.seq (.reg true [Ld 5 135 1, Ld 6 32 2, Fa 7 48 3 0, Ld 8 3 7, Fa 9 48 3 1, Ld 10 3 9, Fa 11 48 3 2, Ld 12 3 11, Oo 13 (.build 149 #[(0, (.tmp 8)), (1, (.tmp 10)), (2, (.tmp 12))]), Cl 14 75 #[.tmp 5, .tmp 6, .tmp 13] #[135, 32, 149], Fa 15 48 3 3, Ld 16 4 15, Oo 17 (.binOp .neq 4 (.tmp 14) (.tmp 16) 4), Sg 4 17]) .ret))⟩
theorem sf99 : sfOf Try.f99 = some s99 := by kernel_rfl
theorem hb99 : hasBody Try.prog 99 = true := by kernel_rfl
def s100 : SF := ⟨19, [.tmp 4], (.seq (.reg false [Oo 4 (.assign (.const (.int .i64 0)))]) (.seq (.seq (.reg false [Mv 6 0, Ln 7 6 32, Oo 8 (.move (.const (.int .i64 0)))]) (.block 0 (.loop (.seq (.reg false [Oo 9 (.binOp .lss 3 (.tmp 8) (.tmp 7) 3)]) (.seq (.cond (.tmp 9) .skip (.exit 0)) (.seq (.block 1 (.seq (.reg false [Mv 10 8, Sg 5 10]) (.seq (.reg false [Mv 11 1, Mv 12 0, Mv 13 5, Ix 14 32 12 13, Ld 15 104 14, Oo 16 (.call { callee := .value (.tmp 11), args := #[.tmp 15], argTypes := #[104] })]) (.cond (.tmp 16) (.seq (.reg false [Mv 17 5, Sg 4 17]) .ret) .skip)))) (.reg false [Oo 18 (.binOp .add 3 (.tmp 8) (.const (.int .i64 1)) 3), Mv 8 18]))))))) (.seq (.reg false [Oo 4 (.assign (.const (.int .i64 (-1))))]) .ret)))⟩
theorem sf100 : sfOf Try.f100 = some s100 := by kernel_rfl
theorem hb100 : hasBody Try.prog 100 = true := by kernel_rfl
def s101 : SF := ⟨19, [.tmp 4], (.seq (.reg false [Oo 4 (.assign (.const (.int .i64 0)))]) (.seq (.seq (.reg false [Mv 6 0, Ln 7 6 41, Oo 8 (.move (.const (.int .i64 0)))]) (.block 0 (.loop (.seq (.reg false [Oo 9 (.binOp .lss 3 (.tmp 8) (.tmp 7) 3)]) (.seq (.cond (.tmp 9) .skip (.exit 0)) (.seq (.block 1 (.seq (.reg false [Mv 10 8, Sg 5 10]) (.seq (.reg false [Mv 11 1, Mv 12 0, Mv 13 5, Ix 14 41 12 13, Ld 15 32 14, Oo 16 (.call { callee := .value (.tmp 11), args := #[.tmp 15], argTypes := #[32] })]) (.cond (.tmp 16) (.seq (.reg false [Mv 17 5, Sg 4 17]) .ret) .skip)))) (.reg false [Oo 18 (.binOp .add 3 (.tmp 8) (.const (.int .i64 1)) 3), Mv 8 18]))))))) (.seq (.reg false [Oo 4 (.assign (.const (.int .i64 (-1))))]) .ret)))⟩
theorem sf101 : sfOf Try.f101 = some s101 := by kernel_rfl
theorem hb101 : hasBody Try.prog 101 = true := by kernel_rfl
def s103 : SF := ⟨34, [], (.seq (.reg false [Ld 7 3 1, Oo 8 (.move (.const (.int .i64 0)))]) (.block 0 (.loop (.seq (.reg false [Oo 9 (.binOp .lss 3 (.tmp 8) (.tmp 7) 3)]) (.seq (.cond (.tmp 9) .skip (.exit 0)) (.seq (.block 1 (.seq (.reg false [Mv 10 8, Sg 4 10]) (.seq (.reg false [Fa 11 135 2 0, Fa 12 24 11 1, Ld 13 22 12, Ln 14 13 22, Oo 15 (.move (.const (.int .i64 0)))]) (.block 2 (.loop (.seq (.reg false [Oo 16 (.binOp .lss 3 (.tmp 15) (.tmp 14) 3)]) (.seq (.cond (.tmp 16) .skip (.exit 2)) (.seq (.block 3 (.seq (.reg false [Mv 17 15, Sg 5 17]) (.seq (.reg false [Fa 18 135 2 0, Fa 19 24 18 0, Ld 20 3 19, Oo 21 (.move (.const (.int .i64 0)))]) (.block 4 (.loop (.seq (.reg false [Oo 22 (.binOp .lss 3 (.tmp 21) (.tmp 20) 3)]) (.seq (.cond (.tmp 22) .skip (.exit 4)) (.seq (.block 5 (.seq (.reg false [Mv 23 21, Sg 6 23]) (.seq (.reg false [Mv 24 0, Mv 25 4, Mv 26 5, Mv 27 6, Oo 28 (.build 149 #[(0, (.tmp 25)), (1, (.tmp 26)), (2, (.tmp 27))]), Oo 29 (.call { callee := .value (.tmp 24), args := #[.tmp 28], argTypes := #[149] }), Oo 30 (.unOp .not 4 (.tmp 29))]) (.cond (.tmp 30) .ret .skip)))) (.reg false [Oo 31 (.binOp .add 3 (.tmp 21) (.const (.int .i64 1)) 3), Mv 21 31]))))))))) (.reg false [Oo 32 (.binOp .add 3 (.tmp 15) (.const (.int .i64 1)) 3), Mv 15 32]))))))))) (.reg false [Oo 33 (.binOp .add 3 (.tmp 8) (.const (.int .i64 1)) 3), Mv 8 33])))))))⟩
theorem sf103 : sfOf Try.f103 = some s103 := by kernel_rfl
theorem hb103 : hasBody Try.prog 103 = true := by kernel_rfl
def s105 : SF := ⟨34, [.tmp 4], (.seq (.reg false [Oo 2 (.box 135 (.tmp 0)), Oo 4 (.assign (.const (.int .i64 0)))]) (.seq (.reg false [Oo 7 (.makeFunc (.func 120) #[] #[.tmp 2]), Sg 5 7]) (.seq (.block 0 (.seq (.reg false [Mv 9 1, Ln 10 9 32, Oo 11 (.binOp .gtr 3 (.tmp 10) (.const (.int .i64 2)) 3), Sg 8 11]) (.cond (.tmp 8) (.seq (.reg false [Oo 4 (.assign (.const (.int .i64 8)))]) .ret) (.seq (.reg false [Mv 13 1, Mv 14 5, Cl 15 67 #[.tmp 13, .tmp 14] #[32, 139], Sg 12 15]) (.cond (.tmp 12) (.seq (.reg false [Oo 4 (.assign (.const (.int .i64 4)))]) .ret) .skip))))) (.seq (.seq (.reg false [Oo 6 (.assign (.const (.int .i64 1)))]) (.block 1 (.loop (.seq (.seq (.reg false [Mv 16 6, Mv 17 1, Ln 18 17 32, Oo 19 (.binOp .lss 3 (.tmp 16) (.tmp 18) 3)]) (.cond (.tmp 19) .skip (.exit 1))) (.seq (.block 2 (.seq (.reg true [Mv 22 1, Mv 23 6, Ix 24 32 22 23, Fa 25 104 24 0, Ld 26 3 25, Mv 27 1, Mv 28 6, Oo 29 (.binOp .sub 3 (.tmp 28) (.const (.int .i64 1)) 3), Ix 30 32 27 29, Fa 31 104 30 0, Ld 32 3 31, Oo 33 (.binOp .leq 3 (.tmp 26) (.tmp 32) 3)]) (.cond (.tmp 33) (.seq (.reg false [Oo 4 (.assign (.const (.int .i64 6)))]) .ret) .skip))) (.reg false [Mv 20 6, Oo 21 (.binOp .add 3 (.tmp 20) (.const (.int .i64 1)) 3), Sg 6 21])))))) (.seq (.reg false [Oo 4 (.assign (.const (.int .i64 0)))]) .ret)))))⟩
theorem sf105 : sfOf Try.f105 = some s105 := by kernel_rfl
theorem hb105 : hasBody Try.prog 105 = true := by kernel_rfl
def s106 : SF := ⟨8, [.tmp 2], (.seq (.reg false [Oo 2 (.assign (.const (.slice none 0 0)))]) (.seq (.seq (.reg false [Mv 3 0, Oo 4 (.binOp .eql 22 (.tmp 3) (.const (.slice none 0 0)) 22)]) (.cond (.tmp 4) (.seq (.reg false [Oo 2 (.assign (.const (.slice none 0 0)))]) .ret) .skip)) (.seq (.reg false [Oo 5 (.buildSlice 22 0 #[]), Mv 6 0, Oo 7 (.call { callee := .builtin .append, args := #[.tmp 5, .tmp 6], argTypes := #[22, 22] }), Sg 2 7]) .ret)))⟩
theorem sf106 : sfOf Try.f106 = some s106 := by kernel_rfl
theorem hb106 : hasBody Try.prog 106 = true := by kernel_rfl
def s107 : SF := ⟨36, [.tmp 8], (.seq (.reg false [Oo 4 (.box 135 (.tmp 0)), Oo 8 (.assign (.const (.int .i64 0)))]) (.seq (.seq (.reg false [Mv 9 2]) (.block 0 (.seq (.reg false [Oo 11 (.binOp .eql 102 (.tmp 9) (.const (.int .i64 1)) 102), Sg 10 11]) (.cond (.tmp 10) (.seq (.reg false [Oo 8 (.assign (.const (.int .i64 0)))]) .ret) (.seq (.reg false [Oo 13 (.binOp .eql 102 (.tmp 9) (.const (.int .i64 2)) 102), Sg 12 13]) (.cond (.tmp 12) (.seq (.reg false [Mv 14 1, Mv 15 1, Oo 16 (.binOp .shl 3 (.tmp 15) (.const (.int .u64 1)) 114), Oo 17 (.binOp .or 3 (.tmp 14) (.tmp 16) 3), Fa 18 135 4 0, Fa 19 24 18 0, Ld 20 3 19, Oo 21 (.binOp .shl 3 (.const (.int .i64 1)) (.tmp 20) 3), Oo 22 (.binOp .sub 3 (.tmp 21) (.const (.int .i64 1)) 3), Oo 23 (.binOp .and 3 (.tmp 17) (.tmp 22) 3), Sg 8 23]) .ret) (.seq (.reg false [Oo 25 (.binOp .eql 102 (.tmp 9) (.const (.int .i64 3)) 102), Sg 24 25]) (.cond (.tmp 24) (.seq (.reg false [Mv 26 1, Mv 27 1, Oo 28 (.binOp .shl 3 (.tmp 27) (.const (.int .u64 1)) 114), Oo 29 (.binOp .and 3 (.tmp 26) (.tmp 28) 3), Sg 8 29]) .ret) (.seq (.reg false [Oo 31 (.binOp .eql 102 (.tmp 9) (.const (.int .i64 4)) 102), Sg 30 31]) (.cond (.tmp 30) (.seq (.reg false [Mv 32 3, Oo 33 (.binOp .rem 3 (.tmp 32) (.const (.int .i64 2)) 3), Oo 34 (.binOp .eql 3 (.tmp 33) (.const (.int .i64 1)) 3)]) (.cond (.tmp 34) (.seq (.reg false [Oo 8 (.assign (.const (.int .i64 0)))]) .ret) .skip)) .skip)))))))))) (.seq (.reg false [Mv 35 1, Sg 8 35]) .ret)))⟩
theorem sf107 : sfOf Try.f107 = some s107 := by kernel_rfl
theorem hb107 : hasBody Try.prog 107 = true := by kernel_rfl
def s108 : SF := ⟨22, [.tmp 6], (.seq (.reg false [Oo 3 (.box 81 (.tmp 0)), Oo 6 (.assign (.const (.bool false)))]) (.seq (.reg false [Mv 7 1, Mv 8 2, Fa 9 81 3 0, Ld 10 3 9, Fa 11 81 3 1, Ld 12 3 11, Oo 13 (.buildSlice 22 2 #[(0, (.tmp 10)), (1, (.tmp 12))]), Cl 14 88 #[.tmp 7, .tmp 8, .tmp 13] #[3, 3, 22], Mv 15 14, Og 16 (.fieldAddr 81 (.tmp 3) 0) 15 true, Og 17 (.load 3 (.tmp 16)) 15 true, Og 18 (.fieldAddr 81 (.tmp 3) 1) 15 true, Og 19 (.load 3 (.tmp 18)) 15 true, Og 20 (.binOp .leq 3 (.tmp 17) (.tmp 19) 3) 15 true, Oo 21 (.pick (.tmp 15) (.tmp 20) (.const (.bool false))), Sg 6 21]) .ret))⟩
theorem sf108 : sfOf Try.f108 = some s108 := by kernel_rfl
theorem hb108 : hasBody Try.prog 108 = true := by kernel_rfl
def s109 : SF := ⟨19, [.tmp 4], (.seq (.reg false [Oo 4 (.assign (.const (.int .i64 0)))]) (.seq (.seq (.reg false [Mv 6 0, Ln 7 6 73, Oo 8 (.move (.const (.int .i64 0)))]) (.block 0 (.loop (.seq (.reg false [Oo 9 (.binOp .lss 3 (.tmp 8) (.tmp 7) 3)]) (.seq (.cond (.tmp 9) .skip (.exit 0)) (.seq (.block 1 (.seq (.reg false [Mv 10 8, Sg 5 10]) (.seq (.reg false [Mv 11 1, Mv 12 0, Mv 13 5, Ix 14 73 12 13, Ld 15 85 14, Oo 16 (.call { callee := .value (.tmp 11), args := #[.tmp 15], argTypes := #[85] })]) (.cond (.tmp 16) (.seq (.reg false [Mv 17 5, Sg 4 17]) .ret) .skip)))) (.reg false [Oo 18 (.binOp .add 3 (.tmp 8) (.const (.int .i64 1)) 3), Mv 8 18]))))))) (.seq (.reg false [Oo 4 (.assign (.const (.int .i64 (-1))))]) .ret)))⟩
theorem sf109 : sfOf Try.f109 = some s109 := by kernel_rfl
theorem hb109 : hasBody Try.prog 109 = true := by kernel_rfl
def s110 : SF := ⟨9, [.tmp 4], (.seq (.reg false [Oo 4 (.assign (.const (.bool false)))]) (.seq (.reg false [Mv 5 0, Mv 6 1, Cl 7 122 #[.tmp 5, .tmp 6] #[22, 145], Oo 8 (.binOp .geq 3 (.tmp 7) (.const (.int .i64 0)) 3), Sg 4 8]) .ret))⟩
theorem sf110 : sfOf Try.f110 = some s110 := by kernel_rfl
theorem hb110 : hasBody Try.prog 110 = true := by kernel_rfl
def s111 : SF := ⟨13, [.tmp 4], (.seq (.reg false [Oo 4 (.assign (.const (.bool false)))]) (.seq (.reg false [Mv 5 0, Ld 6 3 1, Oo 7 (.binOp .lss 3 (.tmp 5) (.tmp 6) 3), Mv 8 7, Og 9 (.move (.tmp 0)) 8 false, Og 10 (.load 3 (.tmp 2)) 8 false, Og 11 (.binOp .gtr 3 (.tmp 9) (.tmp 10) 3) 8 false, Oo 12 (.pick (.tmp 8) (.const (.bool true)) (.tmp 11)), Sg 4 12]) .ret))⟩
theorem sf111 : sfOf Try.f111 = some s111 := by kernel_rfl
theorem hb111 : hasBody Try.prog 111 = true := by kernel_rfl
def s112 : SF := ⟨26, [.tmp 6], (.seq (.reg false [Oo 3 (.box 161 (.tmp 0)), Oo 6 (.assign (.const (.int .i64 0)))]) (.seq (.reg false [Fa 7 161 3 0, Fa 8 72 7 0, Ld 9 3 8, Fa 10 161 3 0, Fa 11 72 10 1, Ld 12 3 11, Mv 13 1, Oo 14 (.binOp .mul 3 (.tmp 12) (.tmp 13) 3), Oo 15 (.binOp .sub 3 (.const (.int .i64 1000)) (.tmp 14) 3), Fa 16 161 3 0, Fa 17 72 16 2, Ld 18 3 17, Mv 19 2, Oo 20 (.binOp .mul 3 (.tmp 18) (.tmp 19) 3), Oo 21 (.binOp .add 3 (.tmp 15) (.tmp 20) 3), Oo 22 (.binOp .mul 3 (.tmp 9) (.tmp 21) 3), Oo 23 (.binOp .add 3 (.tmp 22) (.const (.int .i64 1000)) 3), Oo 24 (.binOp .sub 3 (.tmp 23) (.const (.int .i64 1)) 3), Oo 25 (.binOp .quo 3 (.tmp 24) (.const (.int .i64 1000)) 3), Sg 6 25]) .ret))⟩
theorem sf112 : sfOf Try.f112 = some s112 := by kernel_rfl
theorem hb112 : hasBody Try.prog 112 = true := by kernel_rfl
def s113 : SF := ⟨6, [.tmp 2], (.seq (.reg false [Oo 2 (.assign (.const (.bool false)))]) (.seq (.reg false [Mv 3 0, Mv 4 0, Oo 5 (.binOp .neq 3 (.tmp 3) (.tmp 4) 3), Sg 2 5]) .ret))⟩
theorem sf113 : sfOf Try.f113 = some s113 := by kernel_rfl
theorem hb113 : hasBody Try.prog 113 = true := by kernel_rfl
def s114 : SF := ⟨27, [.tmp 3], (.seq (.reg false [Oo 2 (.box 48 (.tmp 0)), Oo 3 (.assign (.const (.bool false)))]) (.seq (.reg false [Fa 4 48 2 0, Ld 5 3 4, Oo 6 (.buildSlice 22 1 #[(0, (.tmp 5))]), Cl 7 93 #[.tmp 6] #[22], Oo 8 (.unOp .not 4 (.tmp 7)), Mv 9 8, Og 10 (.load 135 (.tmp 1)) 9 false, Og 11 (.fieldAddr 48 (.tmp 2) 1) 9 false, Og 12 (.load 3 (.tmp 11)) 9 false, Og 13 (.call { callee := .value (.func 115), args := #[.tmp 10, .tmp 12], argTypes := #[135, 3] }) 9 false, Og 14 (.unOp .not 4 (.tmp 13)) 9 false, Oo 15 (.pick (.tmp 9) (.const (.bool true)) (.tmp 14)), Mv 16 15, Og 17 (.fieldAddr 135 (.tmp 1) 0) 16 false, Og 18 (.fieldAddr 24 (.tmp 17) 0) 16 false, Og 19 (.load 3 (.tmp 18)) 16 false, Og 20 (.binOp .sub 3 (.tmp 19) (.const (.int .i64 1)) 3) 16 false, Og 21 (.fieldAddr 48 (.tmp 2) 2) 16 false, Og 22 (.load 3 (.tmp 21)) 16 false, Og 23 (.buildSlice 22 1 #[(0, (.tmp 22))]) 16 false, Og 24 (.call { callee := .value (.func 88), args := #[.const (.int .i64 0), .tmp 20, .tmp 23], argTypes := #[3, 3, 22] }) 16 false, Og 25 (.unOp .not 4 (.tmp 24)) 16 false, Oo 26 (.pick (.tmp 16) (.const (.bool true)) (.tmp 25)), Sg 3 26]) .ret))⟩
theorem sf114 : sfOf Try.f114 = some s114 := by kernel_rfl
theorem hb114 : hasBody Try.prog 114 = true := by kernel_rfl
def s115 : SF := ⟨13, [.tmp 4], (.seq (.reg false [Oo 2 (.box 135 (.tmp 0)), Oo 4 (.assign (.const (.bool false)))]) (.seq (.reg false [Fa 5 135 2 0, Fa 6 24 5 1, Ld 7 22 6, Ln 8 7 22, Oo 9 (.binOp .sub 3 (.tmp 8) (.const (.int .i64 1)) 3), Mv 10 1, Oo 11 (.buildSlice 22 1 #[(0, (.tmp 10))]), Cl 12 88 #[.const (.int .i64 0), .tmp 9, .tmp 11] #[3, 3, 22], Sg 4 12]) .ret))⟩
theorem sf115 : sfOf Try.f115 = some s115 := by kernel_rfl
theorem hb115 : hasBody Try.prog 115 = true := by kernel_rfl
def s116 : SF := ⟨21, [.tmp 2], (.seq (.reg false [Oo 2 (.assign (.const (.bool false)))]) (.seq (.seq (.reg false [Mv 4 0, Ln 5 4 22, Oo 6 (.binOp .sub 3 (.tmp 5) (.const (.int .i64 1)) 3), Sg 3 6]) (.block 0 (.loop (.seq (.seq (.reg false [Mv 7 3, Oo 8 (.binOp .gtr 3 (.tmp 7) (.const (.int .i64 0)) 3)]) (.cond (.tmp 8) .skip (.exit 0))) (.seq (.block 1 (.seq (.reg true [Mv 11 0, Mv 12 3, Ix 13 22 11 12, Ld 14 3 13, Mv 15 0, Mv 16 3, Oo 17 (.binOp .sub 3 (.tmp 16) (.const (.int .i64 1)) 3), Ix 18 22 15 17, Ld 19 3 18, Cl 20 90 #[.tmp 14, .tmp 19] #[3, 3]]) (.cond (.tmp 20) (.seq (.reg false [Oo 2 (.assign (.const (.bool false)))]) .ret) .skip))) (.reg false [Mv 9 3, Oo 10 (.binOp .sub 3 (.tmp 9) (.const (.int .i64 1)) 3), Sg 3 10])))))) (.seq (.reg false [Oo 2 (.assign (.const (.bool true)))]) .ret)))⟩
theorem sf116 : sfOf Try.f116 = some s116 := by kernel_rfl
theorem hb116 : hasBody Try.prog 116 = true := by kernel_rfl
def s117 : SF := ⟨61, [.tmp 2], (.seq (.reg false [Oo 2 (.assign (.const (.slice none 0 0)))]) (.seq (.seq (.reg false [Mv 6 0, Ln 7 6 22, Oo 8 (.binOp .lss 3 (.tmp 7) (.const (.int .i64 2)) 3)]) (.cond (.tmp 8) (.seq (.reg false [Mv 9 0, Sg 2 9]) .ret) .skip)) (.seq (.seq (.reg false [Oo 3 (.assign (.const (.int .i64 1)))]) (.block 0 (.loop (.seq (.seq (.reg false [Mv 10 3, Mv 11 0, Ln 12 11 22, Oo 13 (.binOp .lss 3 (.tmp 10) (.tmp 12) 3)]) (.cond (.tmp 13) .skip (.exit 0))) (.seq (.block 1 (.seq (.reg true [Mv 16 0, Mv 17 3, Ix 18 22 16 17, Ld 19 3 18, Mv 20 0, Mv 21 3, Oo 22 (.binOp .sub 3 (.tmp 21) (.const (.int .i64 1)) 3), Ix 23 22 20 22, Ld 24 3 23, Oo 25 (.binOp .eql 3 (.tmp 19) (.tmp 24) 3)]) (.cond (.tmp 25) (.seq (.reg false [Mv 26 0, Mv 27 3, Oo 28 (.slice 22 (.tmp 26) (some (.tmp 27)) none none), Sg 4 28]) (.seq (.seq (.reg false [Oo 5 (.assign (.const (.int .i64 1)))]) (.block 2 (.loop (.seq (.seq (.reg false [Mv 29 5, Mv 30 4, Ln 31 30 22, Oo 32 (.binOp .lss 3 (.tmp 29) (.tmp 31) 3)]) (.cond (.tmp 32) .skip (.exit 2))) (.seq (.block 3 (.seq (.reg true [Mv 35 4, Mv 36 5, Ix 37 22 35 36, Ld 38 3 37, Mv 39 4, Mv 40 5, Oo 41 (.binOp .sub 3 (.tmp 40) (.const (.int .i64 1)) 3), Ix 42 22 39 41, Ld 43 3 42, Oo 44 (.binOp .neq 3 (.tmp 38) (.tmp 43) 3)]) (.cond (.tmp 44) (.seq (.reg false [Mv 45 0, Mv 46 3, Mv 47 4, Mv 48 5, Ix 49 22 47 48, Ld 50 3 49, Ix 51 22 45 46, ⟨none, .store 3 (.tmp 51) (.tmp 50), none⟩]) (.reg false [Mv 52 3, Oo 53 (.binOp .add 3 (.tmp 52) (.const (.int .i64 1)) 3), Sg 3 53])) .skip))) (.reg false [Mv 33 5, Oo 34 (.binOp .add 3 (.tmp 33) (.const (.int .i64 1)) 3), Sg 5 34])))))) (.seq (.reg false [Mv 54 0, Mv 55 3, Oo 56 (.slice 22 (.tmp 54) (some (.tmp 55)) none none), ⟨none, .call { callee := .builtin .clear, args := #[.tmp 56], argTypes := #[22] }, none⟩]) (.seq (.reg false [Mv 57 0, Mv 58 3, Oo 59 (.slice 22 (.tmp 57) none (some (.tmp 58)) none), Sg 2 59]) .ret)))) .skip))) (.reg false [Mv 14 3, Oo 15 (.binOp .add 3 (.tmp 14) (.const (.int .i64 1)) 3), Sg 3 15])))))) (.seq (.reg false [Mv 60 0, Sg 2 60]) .ret))))⟩
theorem sf117 : sfOf Try.f117 = some s117 := by kernel_rfl
theorem hb117 : hasBody Try.prog 117 = true := by kernel_rfl
def s118 : SF := ⟨36, [.tmp 4], (.seq (.reg false [Oo 2 (.box 135 (.tmp 0)), Oo 4 (.assign (.const (.slice none 0 0)))]) (.seq (.seq (.reg false [Fa 9 135 2 0, Fa 10 24 9 1, Ld 11 22 10, Ln 12 11 22, Oo 13 (.move (.const (.int .i64 0)))]) (.block 0 (.loop (.seq (.reg false [Oo 14 (.binOp .lss 3 (.tmp 13) (.tmp 12) 3)]) (.seq (.cond (.tmp 14) .skip (.exit 0)) (.seq (.block 1 (.seq (.reg false [Mv 15 13, Sg 5 15]) (.seq (.reg false [Oo 6 (.assign (.const (.int .i64 1)))]) (.block 2 (.loop (.seq (.seq (.reg false [Mv 16 6, Oo 17 (.binOp .leq 102 (.tmp 16) (.const (.int .i64 4)) 102)]) (.cond (.tmp 17) .skip (.exit 2))) (.seq (.block 3 (.seq (.reg false [Mv 20 1, Ln 21 20 22, Oo 22 (.move (.const (.int .i64 0)))]) (.block 4 (.loop (.seq (.reg false [Oo 23 (.binOp .lss 3 (.tmp 22) (.tmp 21) 3)]) (.seq (.cond (.tmp 23) .skip (.exit 4)) (.seq (.block 5 (.seq (.reg false [Ix 24 22 20 22, Ld 25 3 24, Sg 8 25]) (.reg false [Mv 26 4, Mv 27 5, Mv 28 6, Mv 29 8, Oo 30 (.build 104 #[(0, (.tmp 27)), (1, (.tmp 28)), (2, (.tmp 29))]), Oo 31 (.buildSlice 32 1 #[(0, (.tmp 30))]), Oo 32 (.call { callee := .builtin .append, args := #[.tmp 26, .tmp 31], argTypes := #[32, 32] }), Sg 4 32]))) (.reg false [Oo 33 (.binOp .add 3 (.tmp 22) (.const (.int .i64 1)) 3), Mv 22 33])))))))) (.reg false [Mv 18 6, Oo 19 (.binOp .add 102 (.tmp 18) (.const (.int .i64 1)) 102), Sg 6 19])))))))) (.reg false [Oo 34 (.binOp .add 3 (.tmp 13) (.const (.int .i64 1)) 3), Mv 13 34]))))))) (.seq (.reg false [Mv 35 4, Sg 4 35]) .ret)))⟩
theorem sf118 : sfOf Try.f118 = some s118 := by kernel_rfl
theorem hb118 : hasBody Try.prog 118 = true := by kernel_rfl
def s119 : SF := ⟨19, [.tmp 4], (.seq (.reg false [Oo 4 (.assign (.const (.int .i64 0)))]) (.seq (.seq (.reg false [Mv 6 0, Ln 7 6 25, Oo 8 (.move (.const (.int .i64 0)))]) (.block 0 (.loop (.seq (.reg false [Oo 9 (.binOp .lss 3 (.tmp 8) (.tmp 7) 3)]) (.seq (.cond (.tmp 9) .skip (.exit 0)) (.seq (.block 1 (.seq (.reg false [Mv 10 8, Sg 5 10]) (.seq (.reg false [Mv 11 1, Mv 12 0, Mv 13 5, Ix 14 25 12 13, Ld 15 48 14, Oo 16 (.call { callee := .value (.tmp 11), args := #[.tmp 15], argTypes := #[48] })]) (.cond (.tmp 16) (.seq (.reg false [Mv 17 5, Sg 4 17]) .ret) .skip)))) (.reg false [Oo 18 (.binOp .add 3 (.tmp 8) (.const (.int .i64 1)) 3), Mv 8 18]))))))) (.seq (.reg false [Oo 4 (.assign (.const (.int .i64 (-1))))]) .ret)))⟩
theorem sf119 : sfOf Try.f119 = some s119 := by kernel_rfl
theorem hb119 : hasBody Try.prog 119 = true := by kernel_rfl
def s120 : SF := ⟨8, [.tmp 3], (.seq (.reg false [Oo 2 (.box 104 (.tmp 0)), Oo 3 (.assign (.const (.bool false)))]) (.seq (.reg false [Ld 4 135 1, Ld 5 104 2, Cl 6 121 #[.tmp 4, .tmp 5] #[135, 104], Oo 7 (.unOp .not 4 (.tmp 6)), Sg 3 7]) .ret))⟩
theorem sf120 : sfOf Try.f120 = some s120 := by kernel_rfl
theorem hb120 : hasBody Try.prog 120 = true := by kernel_rfl
def s121 : SF := ⟨21, [.tmp 4], (.seq (.reg false [Oo 2 (.box 135 (.tmp 0)), Oo 3 (.box 104 (.tmp 1)), Oo 4 (.assign (.const (.bool false)))]) (.seq (.reg false [Ld 5 135 2, Fa 6 104 3 0, Ld 7 3 6, Cl 8 115 #[.tmp 5, .tmp 7] #[135, 3], Mv 9 8, Og 10 (.fieldAddr 104 (.tmp 3) 1) 9 true, Og 11 (.load 102 (.tmp 10)) 9 true, Og 12 (.buildSlice 22 1 #[(0, (.tmp 11))]) 9 true, Og 13 (.call { callee := .value (.func 88), args := #[.const (.int .i64 1), .const (.int .i64 4), .tmp 12], argTypes := #[3, 3, 22] }) 9 true, Oo 14 (.pick (.tmp 9) (.tmp 13) (.const (.bool false))), Mv 15 14, Og 16 (.fieldAddr 104 (.tmp 3) 2) 15 true, Og 17 (.load 3 (.tmp 16)) 15 true, Og 18 (.buildSlice 22 1 #[(0, (.tmp 17))]) 15 true, Og 19 (.call { callee := .value (.func 93), args := #[.tmp 18], argTypes := #[22] }) 15 true, Oo 20 (.pick (.tmp 15) (.tmp 19) (.const (.bool false))), Sg 4 20]) .ret))⟩
theorem sf121 : sfOf Try.f121 = some s121 := by kernel_rfl
theorem hb121 : hasBody Try.prog 121 = true := by kernel_rfl
def s122 : SF := ⟨19, [.tmp 4], (.seq (.reg false [Oo 4 (.assign (.const (.int .i64 0)))]) (.seq (.seq (.reg false [Mv 6 0, Ln 7 6 22, Oo 8 (.move (.const (.int .i64 0)))]) (.block 0 (.loop (.seq (.reg false [Oo 9 (.binOp .lss 3 (.tmp 8) (.tmp 7) 3)]) (.seq (.cond (.tmp 9) .skip (.exit 0)) (.seq (.block 1 (.seq (.reg false [Mv 10 8, Sg 5 10]) (.seq (.reg false [Mv 11 1, Mv 12 0, Mv 13 5, Ix 14 22 12 13, Ld 15 3 14, Oo 16 (.call { callee := .value (.tmp 11), args := #[.tmp 15], argTypes := #[3] })]) (.cond (.tmp 16) (.seq (.reg false [Mv 17 5, Sg 4 17]) .ret) .skip)))) (.reg false [Oo 18 (.binOp .add 3 (.tmp 8) (.const (.int .i64 1)) 3), Mv 8 18]))))))) (.seq (.reg false [Oo 4 (.assign (.const (.int .i64 (-1))))]) .ret)))⟩
theorem sf122 : sfOf Try.f122 = some s122 := by kernel_rfl
theorem hb122 : hasBody Try.prog 122 = true := by kernel_rfl
end Go.Dw.Seat
end
section
set_option linter.unusedSimpArgs false
namespace Go.Dw.Seat
open Go Go.Dw Go.Proofs Go.IntWalk
structure Cause where
  noz : Int
  kind : Int
  frm : Int
instance : DecidableEq Cause := fun a b => decidable_of_iff (a.noz = b.noz ∧ a.kind = b.kind ∧ a.frm = b.frm) (by cases a; cases b; simp)
def eC (c : Cause) : List C := [.v (.int .i64 c.noz), .v (.int .i64 c.kind), .v (.int .i64 c.frm)]
theorem eC_nb (c : Cause) : C.nbs (eC c) = true := rfl
structure Look where
  box : Int
  noz : Int
  step : Int
  glue : Bool
instance : DecidableEq Look := fun a b => decidable_of_iff (a.box = b.box ∧ a.noz = b.noz ∧ a.step = b.step ∧ a.glue = b.glue) (by cases a; cases b; simp)
def eL (c : Look) : List C := [.v (.int .i64 c.box), .v (.int .i64 c.noz), .v (.int .i64 c.step), .v (.bool c.glue)]
theorem eL_nb (c : Look) : C.nbs (eL c) = true := rfl
structure Room where
  wl : Int
  wh : Int
  dl : Int
  dh : Int
instance : DecidableEq Room := fun a b => decidable_of_iff (a.wl = b.wl ∧ a.wh = b.wh ∧ a.dl = b.dl ∧ a.dh = b.dh) (by cases a; cases b; simp)
def eR (c : Room) : List C := [.v (.int .i64 c.wl), .v (.int .i64 c.wh), .v (.int .i64 c.dl), .v (.int .i64 c.dh)]
theorem eR_nb (c : Room) : C.nbs (eR c) = true := rfl
def eSb (b : Bool) (s : List Cause) : List C := [.sl b 3 (rows eC s)]
abbrev eS := eSb false
theorem eS_nb (s : List Cause) : C.nbs (eS s) = true := by simp [eSb, C.nbs, C.nb, rows_nb eC_nb]
def eG (s : List Int) : List C := [.sl false 1 (rows eI s)]
theorem eG_nb (s : List Int) : C.nbs (eG s) = true := by simp [eG, C.nbs, C.nb, rows_nb eI_nb]
structure Plan where
  steps : Int
  noz : List Int
abbrev dP (b : Bool) (p : Plan) : D := .agg [.c (.v (.int .i64 p.steps)), .c (.sl b 1 (rows eI p.noz))]
abbrev dCs (b : Bool) (l : List Cause) : D := .c (.sl b 3 (rows eC l))
abbrev dLs (b : Bool) (l : List Look) : D := .c (.sl b 4 (rows eL l))
abbrev dSs (b : Bool) (l : List (List Cause)) : D := .c (.sl b 1 (rows eS l))
theorem eqCause (a b : Cause) : (a.noz == b.noz && (a.kind == b.kind && a.frm == b.frm)) = decide (a = b) := by
  cases a; cases b
  rw [Bool.eq_iff_iff]
  simp
theorem rowC_snocC (l : List Cause) (a b c : Int) : rowC (rows eC l) ++ [[D.c (.v (.int .i64 a)), D.c (.v (.int .i64 b)), D.c (.v (.int .i64 c))]] = rowC (rows eC (l ++ [⟨a, b, c⟩])) := by simp [rowC, rows, eC]
theorem rowC_snocL (l : List Look) (a b c : Int) (d : Bool) : rowC (rows eL l) ++ [[D.c (.v (.int .i64 a)), D.c (.v (.int .i64 b)), D.c (.v (.int .i64 c)), D.c (.v (.bool d))]] = rowC (rows eL (l ++ [⟨a, b, c, d⟩])) := by simp [rowC, rows, eL]
theorem rowC_snocS (l : List (List Cause)) (s : List Cause) : rowC (rows (eSb false) l) ++ [[D.c (.sl false 3 (rows eC s))]] = rowC (rows (eSb false) (l ++ [s])) := by simp [rowC, rows, eSb]
attribute [go_sem] rowC_snocC rowC_snocL rowC_snocS
attribute [go_sem] eC eL eR eS eSb eG dP dCs dLs dSs
end Go.Dw.Seat
end
section
set_option linter.unusedSimpArgs false
namespace Go.Dw.Seat
open Go Go.Dw Go.Proofs Go.IntWalk
theorem c113 (n : Int) : DCall Try.prog 113 [dI n] [] (bD false) [] := by
  refine DCall.of Try.func113 sf113 hb113 (Nat.le_of_ble_eq_true rfl) (okRes_nil fun _ => rfl) ?_; simp only [s113, Mv, Sg, Ld, Fa, Xt, Ix, Ln, Cl, Oo, Og, idxs, Nat.reduceAdd]
  repeat' (first
    | (with_reducible refine DW.seq ?_)
    | (with_reducible refine DW.block ?_)
    | (with_reducible refine DW.skip ?_)
    | (with_reducible refine DW.exit ?_)
    | (with_reducible refine DW.ret ?_)
    | (with_reducible refine DW.reg ?_)
    | (simp (disch := omega) only [go_sem, Nat.reduceLT, Nat.reduceLeDiff, Nat.reduceAdd, Nat.reduceMul, Nat.reduceEqDiff, ↓reduceIte, reduceCtorEq, Nat.reduceBEq, Nat.reduceBNe, Nat.reducePow, Int.reduceLE, Int.reduceLT, Int.reduceNeg, Int.reduceToNat, Int.reduceEq, Int.reduceAdd, Int.reduceSub, Int.reduceMul, Int.reduceBEq, Int.reduceBNe, Blk.men, Blk.keysIn])
    | (exact retS_of rfl rfl rfl)
    | (refine DW.cond_tt rfl ?_)
    | (refine DW.cond_ff rfl ?_)
    | (refine DW.cond rfl ?_ ?_ <;> intro hc <;> (try simp only [go_sem] at hc))
    | (refine g_split ?_ ?_ <;> intro hc <;> (try simp only [hc]) <;> (try simp only [go_sem] at hc)))
theorem c122 (b : Bool) (l : List (Int)) (hl : l.length ≤ 2 ^ 36) (g : FuncId) (fs caps : List C) (p : Int → Bool) (hp : ∀ x ∈ l, DCall Try.prog g (fs.map D.c ++ [dI x] ++ caps.map D.c) [] (bD (p x)) []) : DCall Try.prog 122 [.c (.sl b 1 (rows eI l)), .c (.fn (.func g) fs caps)] [] (dI (idxI p l)) [] := by
  refine DCall.of Try.func122 sf122 hb122 (Nat.le_of_ble_eq_true rfl) (okRes_nil fun _ => rfl) ?_; simp only [s122, Mv, Sg, Ld, Fa, Xt, Ix, Ln, Cl, Oo, Og, idxs, Nat.reduceAdd]
  repeat' (first
    | (with_reducible refine DW.seq ?_)
    | (with_reducible refine DW.block ?_)
    | (with_reducible refine DW.skip ?_)
    | (with_reducible refine DW.exit ?_)
    | (with_reducible refine DW.ret ?_)
    | (with_reducible refine DW.reg ?_)
    | (simp (disch := omega) only [go_sem, Nat.reduceLT, Nat.reduceLeDiff, Nat.reduceAdd, Nat.reduceMul, Nat.reduceEqDiff, ↓reduceIte, reduceCtorEq, Nat.reduceBEq, Nat.reduceBNe, Nat.reducePow, Int.reduceLE, Int.reduceLT, Int.reduceNeg, Int.reduceToNat, Int.reduceEq, Int.reduceAdd, Int.reduceSub, Int.reduceMul, Int.reduceBEq, Int.reduceBNe, Blk.men, Blk.keysIn])
    | (exact retS_of rfl rfl rfl)
    | (refine DW.cond_tt rfl ?_)
    | (refine DW.cond_ff rfl ?_)
    | (refine DW.cond rfl ?_ ?_ <;> intro hc <;> (try simp only [go_sem] at hc))
    | (refine g_split ?_ ?_ <;> intro hc <;> (try simp only [hc]) <;> (try simp only [go_sem] at hc)))
  refine DW.loop (ι := { i : Nat // i ≤ l.length ∧ ∀ j u, j < i → l[j]? = some u → p u = false }) (fun i => ⟨19, [(8, dI i.1), (7, dI l.length), (1, .c (.fn (.func g) fs caps)), (0, .c (.sl b 1 (rows eI l)))], []⟩) (fun i => l.length - i.1) ⟨0, Nat.zero_le _, fun j u h => by omega⟩ ?_ ?_
  · refine Ent.to ?_ ?_ <;> simp (disch := omega) only [wkT_cons, wkX_cons, wkT_nil, wkX_nil, get, Nat.reduceEqDiff, ↓reduceIte, ex_some, wk_self, wk_top, wk_nil, wkB_self, and_self, dI, i64_in, and_true, true_and, Int.natCast_add, Int.natCast_one, Int.ofNat_zero, Int.natCast_zero]
  rintro ⟨i, hi, hij⟩
  rcases at_or l i hi with ⟨v, hv, hlt, hd⟩ | ⟨he, hd⟩
  · have hcall := hp v (List.mem_of_getElem? hv)
    repeat' (first
    | (with_reducible refine DW.seq ?_)
    | (with_reducible refine DW.block ?_)
    | (with_reducible refine DW.skip ?_)
    | (with_reducible refine DW.exit ?_)
    | (with_reducible refine DW.ret ?_)
    | (with_reducible refine DW.reg ?_)
    | (simp (disch := omega) only [go_sem, Nat.reduceLT, Nat.reduceLeDiff, Nat.reduceAdd, Nat.reduceMul, Nat.reduceEqDiff, ↓reduceIte, reduceCtorEq, Nat.reduceBEq, Nat.reduceBNe, Nat.reducePow, Int.reduceLE, Int.reduceLT, Int.reduceNeg, Int.reduceToNat, Int.reduceEq, Int.reduceAdd, Int.reduceSub, Int.reduceMul, Int.reduceBEq, Int.reduceBNe, Blk.men, Blk.keysIn, hd, hv, closeDs_fn, List.map_cons, List.map_nil])
    | (exact retS_of rfl rfl rfl)
    | (refine DW.cond_tt rfl ?_)
    | (refine DW.cond_ff rfl ?_)
    | (refine DW.cond rfl ?_ ?_ <;> intro hc <;> (try simp only [go_sem] at hc))
    | (refine g_split ?_ ?_ <;> intro hc <;> (try simp only [hc]) <;> (try simp only [go_sem] at hc)))
    refine call_c hcall (by decide) ?_
    simp (disch := omega) only [go_sem, Nat.reduceLT, Nat.reduceLeDiff, Nat.reduceAdd, Nat.reduceMul, Nat.reduceEqDiff, ↓reduceIte, reduceCtorEq, Nat.reduceBEq, Nat.reduceBNe, Nat.reducePow, Int.reduceLE, Int.reduceLT, Int.reduceNeg, Int.reduceToNat, Int.reduceEq, Int.reduceAdd, Int.reduceSub, Int.reduceMul, Int.reduceBEq, Int.reduceBNe, Blk.men, Blk.keysIn]
    refine DW.cond rfl ?_ ?_ <;> intro hc
    · repeat' (first
    | (with_reducible refine DW.seq ?_)
    | (with_reducible refine DW.block ?_)
    | (with_reducible refine DW.skip ?_)
    | (with_reducible refine DW.exit ?_)
    | (with_reducible refine DW.ret ?_)
    | (with_reducible refine DW.reg ?_)
    | (simp (disch := omega) only [go_sem, Nat.reduceLT, Nat.reduceLeDiff, Nat.reduceAdd, Nat.reduceMul, Nat.reduceEqDiff, ↓reduceIte, reduceCtorEq, Nat.reduceBEq, Nat.reduceBNe, Nat.reducePow, Int.reduceLE, Int.reduceLT, Int.reduceNeg, Int.reduceToNat, Int.reduceEq, Int.reduceAdd, Int.reduceSub, Int.reduceMul, Int.reduceBEq, Int.reduceBNe, Blk.men, Blk.keysIn])
    | (exact retS_of rfl rfl rfl)
    | (refine DW.cond_tt rfl ?_)
    | (refine DW.cond_ff rfl ?_)
    | (refine DW.cond rfl ?_ ?_ <;> intro hc <;> (try simp only [go_sem] at hc))
    | (refine g_split ?_ ?_ <;> intro hc <;> (try simp only [hc]) <;> (try simp only [go_sem] at hc)))
      refine retS_of rfl ?_ rfl; simp only [oneD, St.op, get, Nat.reduceEqDiff, ↓reduceIte, Option.getD_some, bD, dI]
      simp only [idxI, idxOf_some hij hv hc]
    · repeat' (first
    | (with_reducible refine DW.seq ?_)
    | (with_reducible refine DW.block ?_)
    | (with_reducible refine DW.skip ?_)
    | (with_reducible refine DW.exit ?_)
    | (with_reducible refine DW.ret ?_)
    | (with_reducible refine DW.reg ?_)
    | (simp (disch := omega) only [go_sem, Nat.reduceLT, Nat.reduceLeDiff, Nat.reduceAdd, Nat.reduceMul, Nat.reduceEqDiff, ↓reduceIte, reduceCtorEq, Nat.reduceBEq, Nat.reduceBNe, Nat.reducePow, Int.reduceLE, Int.reduceLT, Int.reduceNeg, Int.reduceToNat, Int.reduceEq, Int.reduceAdd, Int.reduceSub, Int.reduceMul, Int.reduceBEq, Int.reduceBNe, Blk.men, Blk.keysIn])
    | (exact retS_of rfl rfl rfl)
    | (refine DW.cond_tt rfl ?_)
    | (refine DW.cond_ff rfl ?_)
    | (refine DW.cond rfl ?_ ?_ <;> intro hc <;> (try simp only [go_sem] at hc))
    | (refine g_split ?_ ?_ <;> intro hc <;> (try simp only [hc]) <;> (try simp only [go_sem] at hc)))
      refine ⟨⟨i + 1, by omega, fun j u hj hu => by
        rcases Nat.lt_or_ge j i with h | h
        · exact hij j u h hu
        · have : j = i := by omega
          subst this
          rw [hv] at hu; cases hu; exact hc⟩, ?_, Ent.to ?_ ?_⟩ <;> first | (show _ < _; (try simp only); omega) | (simp (disch := omega) only [wkT_cons, wkX_cons, wkT_nil, wkX_nil, get, Nat.reduceEqDiff, ↓reduceIte, ex_some, wk_self, wk_top, wk_nil, wkB_self, and_self, dI, i64_in, and_true, true_and, Int.natCast_add, Int.natCast_one, Int.ofNat_zero, Int.natCast_zero])
  · repeat' (first
    | (with_reducible refine DW.seq ?_)
    | (with_reducible refine DW.block ?_)
    | (with_reducible refine DW.skip ?_)
    | (with_reducible refine DW.exit ?_)
    | (with_reducible refine DW.ret ?_)
    | (with_reducible refine DW.reg ?_)
    | (simp (disch := omega) only [go_sem, Nat.reduceLT, Nat.reduceLeDiff, Nat.reduceAdd, Nat.reduceMul, Nat.reduceEqDiff, ↓reduceIte, reduceCtorEq, Nat.reduceBEq, Nat.reduceBNe, Nat.reducePow, Int.reduceLE, Int.reduceLT, Int.reduceNeg, Int.reduceToNat, Int.reduceEq, Int.reduceAdd, Int.reduceSub, Int.reduceMul, Int.reduceBEq, Int.reduceBNe, Blk.men, Blk.keysIn, hd])
    | (exact retS_of rfl rfl rfl)
    | (refine DW.cond_tt rfl ?_)
    | (refine DW.cond_ff rfl ?_)
    | (refine DW.cond rfl ?_ ?_ <;> intro hc <;> (try simp only [go_sem] at hc))
    | (refine g_split ?_ ?_ <;> intro hc <;> (try simp only [hc]) <;> (try simp only [go_sem] at hc)))
    refine retS_of rfl ?_ rfl; simp only [oneD, St.op, get, Nat.reduceEqDiff, ↓reduceIte, Option.getD_some, bD, dI]
    simp only [idxI, idxOf_none (he ▸ hij)]
theorem c110 (b : Bool) (l : List (Int)) (hl : l.length ≤ 2 ^ 36) (g : FuncId) (fs caps : List C) (p : Int → Bool) (hp : ∀ x ∈ l, DCall Try.prog g (fs.map D.c ++ [dI x] ++ caps.map D.c) [] (bD (p x)) []) : DCall Try.prog 110 [.c (.sl b 1 (rows eI l)), .c (.fn (.func g) fs caps)] [] (bD (l.any p)) [] := by
  refine DCall.of Try.func110 sf110 hb110 (Nat.le_of_ble_eq_true rfl) (okRes_nil fun _ => rfl) ?_; simp only [s110, Mv, Sg, Ld, Fa, Xt, Ix, Ln, Cl, Oo, Og, idxs, Nat.reduceAdd]
  repeat' (first
    | (with_reducible refine DW.seq ?_)
    | (with_reducible refine DW.block ?_)
    | (with_reducible refine DW.skip ?_)
    | (with_reducible refine DW.exit ?_)
    | (with_reducible refine DW.ret ?_)
    | (with_reducible refine DW.reg ?_)
    | (simp (disch := omega) only [go_sem, Nat.reduceLT, Nat.reduceLeDiff, Nat.reduceAdd, Nat.reduceMul, Nat.reduceEqDiff, ↓reduceIte, reduceCtorEq, Nat.reduceBEq, Nat.reduceBNe, Nat.reducePow, Int.reduceLE, Int.reduceLT, Int.reduceNeg, Int.reduceToNat, Int.reduceEq, Int.reduceAdd, Int.reduceSub, Int.reduceMul, Int.reduceBEq, Int.reduceBNe, Blk.men, Blk.keysIn])
    | (exact retS_of rfl rfl rfl)
    | (refine DW.cond_tt rfl ?_)
    | (refine DW.cond_ff rfl ?_)
    | (refine DW.cond rfl ?_ ?_ <;> intro hc <;> (try simp only [go_sem] at hc))
    | (refine g_split ?_ ?_ <;> intro hc <;> (try simp only [hc]) <;> (try simp only [go_sem] at hc)))
  refine call_c (c122 b l hl g fs caps p hp) (by decide) ?_
  repeat' (first
    | (with_reducible refine DW.seq ?_)
    | (with_reducible refine DW.block ?_)
    | (with_reducible refine DW.skip ?_)
    | (with_reducible refine DW.exit ?_)
    | (with_reducible refine DW.ret ?_)
    | (with_reducible refine DW.reg ?_)
    | (simp (disch := omega) only [go_sem, Nat.reduceLT, Nat.reduceLeDiff, Nat.reduceAdd, Nat.reduceMul, Nat.reduceEqDiff, ↓reduceIte, reduceCtorEq, Nat.reduceBEq, Nat.reduceBNe, Nat.reducePow, Int.reduceLE, Int.reduceLT, Int.reduceNeg, Int.reduceToNat, Int.reduceEq, Int.reduceAdd, Int.reduceSub, Int.reduceMul, Int.reduceBEq, Int.reduceBNe, Blk.men, Blk.keysIn])
    | (exact retS_of rfl rfl rfl)
    | (refine DW.cond_tt rfl ?_)
    | (refine DW.cond_ff rfl ?_)
    | (refine DW.cond rfl ?_ ?_ <;> intro hc <;> (try simp only [go_sem] at hc))
    | (refine g_split ?_ ?_ <;> intro hc <;> (try simp only [hc]) <;> (try simp only [go_sem] at hc)))
  refine retS_of rfl ?_ rfl; simp only [oneD, St.op, get, Nat.reduceEqDiff, ↓reduceIte, Option.getD_some, bD, dI]
  rw [idxI_any]
theorem c100 (b : Bool) (l : List (Cause)) (hl : l.length ≤ 2 ^ 36) (g : FuncId) (fs caps : List C) (p : Cause → Bool) (hp : ∀ x ∈ l, DCall Try.prog g (fs.map D.c ++ [.agg ((eC x).map D.c)] ++ caps.map D.c) [] (bD (p x)) []) : DCall Try.prog 100 [.c (.sl b 3 (rows eC l)), .c (.fn (.func g) fs caps)] [] (dI (idxI p l)) [] := by
  refine DCall.of Try.func100 sf100 hb100 (Nat.le_of_ble_eq_true rfl) (okRes_nil fun _ => rfl) ?_; simp only [s100, Mv, Sg, Ld, Fa, Xt, Ix, Ln, Cl, Oo, Og, idxs, Nat.reduceAdd]
  repeat' (first
    | (with_reducible refine DW.seq ?_)
    | (with_reducible refine DW.block ?_)
    | (with_reducible refine DW.skip ?_)
    | (with_reducible refine DW.exit ?_)
    | (with_reducible refine DW.ret ?_)
    | (with_reducible refine DW.reg ?_)
    | (simp (disch := omega) only [go_sem, Nat.reduceLT, Nat.reduceLeDiff, Nat.reduceAdd, Nat.reduceMul, Nat.reduceEqDiff, ↓reduceIte, reduceCtorEq, Nat.reduceBEq, Nat.reduceBNe, Nat.reducePow, Int.reduceLE, Int.reduceLT, Int.reduceNeg, Int.reduceToNat, Int.reduceEq, Int.reduceAdd, Int.reduceSub, Int.reduceMul, Int.reduceBEq, Int.reduceBNe, Blk.men, Blk.keysIn])
    | (exact retS_of rfl rfl rfl)
    | (refine DW.cond_tt rfl ?_)
    | (refine DW.cond_ff rfl ?_)
    | (refine DW.cond rfl ?_ ?_ <;> intro hc <;> (try simp only [go_sem] at hc))
    | (refine g_split ?_ ?_ <;> intro hc <;> (try simp only [hc]) <;> (try simp only [go_sem] at hc)))
  refine DW.loop (ι := { i : Nat // i ≤ l.length ∧ ∀ j u, j < i → l[j]? = some u → p u = false }) (fun i => ⟨19, [(8, dI i.1), (7, dI l.length), (1, .c (.fn (.func g) fs caps)), (0, .c (.sl b 3 (rows eC l)))], []⟩) (fun i => l.length - i.1) ⟨0, Nat.zero_le _, fun j u h => by omega⟩ ?_ ?_
  · refine Ent.to ?_ ?_ <;> simp (disch := omega) only [wkT_cons, wkX_cons, wkT_nil, wkX_nil, get, Nat.reduceEqDiff, ↓reduceIte, ex_some, wk_self, wk_top, wk_nil, wkB_self, and_self, dI, i64_in, and_true, true_and, Int.natCast_add, Int.natCast_one, Int.ofNat_zero, Int.natCast_zero]
  rintro ⟨i, hi, hij⟩
  rcases at_or l i hi with ⟨v, hv, hlt, hd⟩ | ⟨he, hd⟩
  · have hcall := hp v (List.mem_of_getElem? hv)
    repeat' (first
    | (with_reducible refine DW.seq ?_)
    | (with_reducible refine DW.block ?_)
    | (with_reducible refine DW.skip ?_)
    | (with_reducible refine DW.exit ?_)
    | (with_reducible refine DW.ret ?_)
    | (with_reducible refine DW.reg ?_)
    | (simp (disch := omega) only [go_sem, Nat.reduceLT, Nat.reduceLeDiff, Nat.reduceAdd, Nat.reduceMul, Nat.reduceEqDiff, ↓reduceIte, reduceCtorEq, Nat.reduceBEq, Nat.reduceBNe, Nat.reducePow, Int.reduceLE, Int.reduceLT, Int.reduceNeg, Int.reduceToNat, Int.reduceEq, Int.reduceAdd, Int.reduceSub, Int.reduceMul, Int.reduceBEq, Int.reduceBNe, Blk.men, Blk.keysIn, hd, hv, closeDs_fn, List.map_cons, List.map_nil])
    | (exact retS_of rfl rfl rfl)
    | (refine DW.cond_tt rfl ?_)
    | (refine DW.cond_ff rfl ?_)
    | (refine DW.cond rfl ?_ ?_ <;> intro hc <;> (try simp only [go_sem] at hc))
    | (refine g_split ?_ ?_ <;> intro hc <;> (try simp only [hc]) <;> (try simp only [go_sem] at hc)))
    refine call_c hcall (by decide) ?_
    simp (disch := omega) only [go_sem, Nat.reduceLT, Nat.reduceLeDiff, Nat.reduceAdd, Nat.reduceMul, Nat.reduceEqDiff, ↓reduceIte, reduceCtorEq, Nat.reduceBEq, Nat.reduceBNe, Nat.reducePow, Int.reduceLE, Int.reduceLT, Int.reduceNeg, Int.reduceToNat, Int.reduceEq, Int.reduceAdd, Int.reduceSub, Int.reduceMul, Int.reduceBEq, Int.reduceBNe, Blk.men, Blk.keysIn]
    refine DW.cond rfl ?_ ?_ <;> intro hc
    · repeat' (first
    | (with_reducible refine DW.seq ?_)
    | (with_reducible refine DW.block ?_)
    | (with_reducible refine DW.skip ?_)
    | (with_reducible refine DW.exit ?_)
    | (with_reducible refine DW.ret ?_)
    | (with_reducible refine DW.reg ?_)
    | (simp (disch := omega) only [go_sem, Nat.reduceLT, Nat.reduceLeDiff, Nat.reduceAdd, Nat.reduceMul, Nat.reduceEqDiff, ↓reduceIte, reduceCtorEq, Nat.reduceBEq, Nat.reduceBNe, Nat.reducePow, Int.reduceLE, Int.reduceLT, Int.reduceNeg, Int.reduceToNat, Int.reduceEq, Int.reduceAdd, Int.reduceSub, Int.reduceMul, Int.reduceBEq, Int.reduceBNe, Blk.men, Blk.keysIn])
    | (exact retS_of rfl rfl rfl)
    | (refine DW.cond_tt rfl ?_)
    | (refine DW.cond_ff rfl ?_)
    | (refine DW.cond rfl ?_ ?_ <;> intro hc <;> (try simp only [go_sem] at hc))
    | (refine g_split ?_ ?_ <;> intro hc <;> (try simp only [hc]) <;> (try simp only [go_sem] at hc)))
      refine retS_of rfl ?_ rfl; simp only [oneD, St.op, get, Nat.reduceEqDiff, ↓reduceIte, Option.getD_some, bD, dI]
      simp only [idxI, idxOf_some hij hv hc]
    · repeat' (first
    | (with_reducible refine DW.seq ?_)
    | (with_reducible refine DW.block ?_)
    | (with_reducible refine DW.skip ?_)
    | (with_reducible refine DW.exit ?_)
    | (with_reducible refine DW.ret ?_)
    | (with_reducible refine DW.reg ?_)
    | (simp (disch := omega) only [go_sem, Nat.reduceLT, Nat.reduceLeDiff, Nat.reduceAdd, Nat.reduceMul, Nat.reduceEqDiff, ↓reduceIte, reduceCtorEq, Nat.reduceBEq, Nat.reduceBNe, Nat.reducePow, Int.reduceLE, Int.reduceLT, Int.reduceNeg, Int.reduceToNat, Int.reduceEq, Int.reduceAdd, Int.reduceSub, Int.reduceMul, Int.reduceBEq, Int.reduceBNe, Blk.men, Blk.keysIn])
    | (exact retS_of rfl rfl rfl)
    | (refine DW.cond_tt rfl ?_)
    | (refine DW.cond_ff rfl ?_)
    | (refine DW.cond rfl ?_ ?_ <;> intro hc <;> (try simp only [go_sem] at hc))
    | (refine g_split ?_ ?_ <;> intro hc <;> (try simp only [hc]) <;> (try simp only [go_sem] at hc)))
      refine ⟨⟨i + 1, by omega, fun j u hj hu => by
        rcases Nat.lt_or_ge j i with h | h
        · exact hij j u h hu
        · have : j = i := by omega
          subst this
          rw [hv] at hu; cases hu; exact hc⟩, ?_, Ent.to ?_ ?_⟩ <;> first | (show _ < _; (try simp only); omega) | (simp (disch := omega) only [wkT_cons, wkX_cons, wkT_nil, wkX_nil, get, Nat.reduceEqDiff, ↓reduceIte, ex_some, wk_self, wk_top, wk_nil, wkB_self, and_self, dI, i64_in, and_true, true_and, Int.natCast_add, Int.natCast_one, Int.ofNat_zero, Int.natCast_zero])
  · repeat' (first
    | (with_reducible refine DW.seq ?_)
    | (with_reducible refine DW.block ?_)
    | (with_reducible refine DW.skip ?_)
    | (with_reducible refine DW.exit ?_)
    | (with_reducible refine DW.ret ?_)
    | (with_reducible refine DW.reg ?_)
    | (simp (disch := omega) only [go_sem, Nat.reduceLT, Nat.reduceLeDiff, Nat.reduceAdd, Nat.reduceMul, Nat.reduceEqDiff, ↓reduceIte, reduceCtorEq, Nat.reduceBEq, Nat.reduceBNe, Nat.reducePow, Int.reduceLE, Int.reduceLT, Int.reduceNeg, Int.reduceToNat, Int.reduceEq, Int.reduceAdd, Int.reduceSub, Int.reduceMul, Int.reduceBEq, Int.reduceBNe, Blk.men, Blk.keysIn, hd])
    | (exact retS_of rfl rfl rfl)
    | (refine DW.cond_tt rfl ?_)
    | (refine DW.cond_ff rfl ?_)
    | (refine DW.cond rfl ?_ ?_ <;> intro hc <;> (try simp only [go_sem] at hc))
    | (refine g_split ?_ ?_ <;> intro hc <;> (try simp only [hc]) <;> (try simp only [go_sem] at hc)))
    refine retS_of rfl ?_ rfl; simp only [oneD, St.op, get, Nat.reduceEqDiff, ↓reduceIte, Option.getD_some, bD, dI]
    simp only [idxI, idxOf_none (he ▸ hij)]
theorem c67 (b : Bool) (l : List (Cause)) (hl : l.length ≤ 2 ^ 36) (g : FuncId) (fs caps : List C) (p : Cause → Bool) (hp : ∀ x ∈ l, DCall Try.prog g (fs.map D.c ++ [.agg ((eC x).map D.c)] ++ caps.map D.c) [] (bD (p x)) []) : DCall Try.prog 67 [.c (.sl b 3 (rows eC l)), .c (.fn (.func g) fs caps)] [] (bD (l.any p)) [] := by
  refine DCall.of Try.func67 sf67 hb67 (Nat.le_of_ble_eq_true rfl) (okRes_nil fun _ => rfl) ?_; simp only [s67, Mv, Sg, Ld, Fa, Xt, Ix, Ln, Cl, Oo, Og, idxs, Nat.reduceAdd]
  repeat' (first
    | (with_reducible refine DW.seq ?_)
    | (with_reducible refine DW.block ?_)
    | (with_reducible refine DW.skip ?_)
    | (with_reducible refine DW.exit ?_)
    | (with_reducible refine DW.ret ?_)
    | (with_reducible refine DW.reg ?_)
    | (simp (disch := omega) only [go_sem, Nat.reduceLT, Nat.reduceLeDiff, Nat.reduceAdd, Nat.reduceMul, Nat.reduceEqDiff, ↓reduceIte, reduceCtorEq, Nat.reduceBEq, Nat.reduceBNe, Nat.reducePow, Int.reduceLE, Int.reduceLT, Int.reduceNeg, Int.reduceToNat, Int.reduceEq, Int.reduceAdd, Int.reduceSub, Int.reduceMul, Int.reduceBEq, Int.reduceBNe, Blk.men, Blk.keysIn])
    | (exact retS_of rfl rfl rfl)
    | (refine DW.cond_tt rfl ?_)
    | (refine DW.cond_ff rfl ?_)
    | (refine DW.cond rfl ?_ ?_ <;> intro hc <;> (try simp only [go_sem] at hc))
    | (refine g_split ?_ ?_ <;> intro hc <;> (try simp only [hc]) <;> (try simp only [go_sem] at hc)))
  refine call_c (c100 b l hl g fs caps p hp) (by decide) ?_
  repeat' (first
    | (with_reducible refine DW.seq ?_)
    | (with_reducible refine DW.block ?_)
    | (with_reducible refine DW.skip ?_)
    | (with_reducible refine DW.exit ?_)
    | (with_reducible refine DW.ret ?_)
    | (with_reducible refine DW.reg ?_)
    | (simp (disch := omega) only [go_sem, Nat.reduceLT, Nat.reduceLeDiff, Nat.reduceAdd, Nat.reduceMul, Nat.reduceEqDiff, ↓reduceIte, reduceCtorEq, Nat.reduceBEq, Nat.reduceBNe, Nat.reducePow, Int.reduceLE, Int.reduceLT, Int.reduceNeg, Int.reduceToNat, Int.reduceEq, Int.reduceAdd, Int.reduceSub, Int.reduceMul, Int.reduceBEq, Int.reduceBNe, Blk.men, Blk.keysIn])
    | (exact retS_of rfl rfl rfl)
    | (refine DW.cond_tt rfl ?_)
    | (refine DW.cond_ff rfl ?_)
    | (refine DW.cond rfl ?_ ?_ <;> intro hc <;> (try simp only [go_sem] at hc))
    | (refine g_split ?_ ?_ <;> intro hc <;> (try simp only [hc]) <;> (try simp only [go_sem] at hc)))
  refine retS_of rfl ?_ rfl; simp only [oneD, St.op, get, Nat.reduceEqDiff, ↓reduceIte, Option.getD_some, bD, dI]
  rw [idxI_any]
theorem c119 (b : Bool) (l : List (Look)) (hl : l.length ≤ 2 ^ 36) (g : FuncId) (fs caps : List C) (p : Look → Bool) (hp : ∀ x ∈ l, DCall Try.prog g (fs.map D.c ++ [.agg ((eL x).map D.c)] ++ caps.map D.c) [] (bD (p x)) []) : DCall Try.prog 119 [.c (.sl b 4 (rows eL l)), .c (.fn (.func g) fs caps)] [] (dI (idxI p l)) [] := by
  refine DCall.of Try.func119 sf119 hb119 (Nat.le_of_ble_eq_true rfl) (okRes_nil fun _ => rfl) ?_; simp only [s119, Mv, Sg, Ld, Fa, Xt, Ix, Ln, Cl, Oo, Og, idxs, Nat.reduceAdd]
  repeat' (first
    | (with_reducible refine DW.seq ?_)
    | (with_reducible refine DW.block ?_)
    | (with_reducible refine DW.skip ?_)
    | (with_reducible refine DW.exit ?_)
    | (with_reducible refine DW.ret ?_)
    | (with_reducible refine DW.reg ?_)
    | (simp (disch := omega) only [go_sem, Nat.reduceLT, Nat.reduceLeDiff, Nat.reduceAdd, Nat.reduceMul, Nat.reduceEqDiff, ↓reduceIte, reduceCtorEq, Nat.reduceBEq, Nat.reduceBNe, Nat.reducePow, Int.reduceLE, Int.reduceLT, Int.reduceNeg, Int.reduceToNat, Int.reduceEq, Int.reduceAdd, Int.reduceSub, Int.reduceMul, Int.reduceBEq, Int.reduceBNe, Blk.men, Blk.keysIn])
    | (exact retS_of rfl rfl rfl)
    | (refine DW.cond_tt rfl ?_)
    | (refine DW.cond_ff rfl ?_)
    | (refine DW.cond rfl ?_ ?_ <;> intro hc <;> (try simp only [go_sem] at hc))
    | (refine g_split ?_ ?_ <;> intro hc <;> (try simp only [hc]) <;> (try simp only [go_sem] at hc)))
  refine DW.loop (ι := { i : Nat // i ≤ l.length ∧ ∀ j u, j < i → l[j]? = some u → p u = false }) (fun i => ⟨19, [(8, dI i.1), (7, dI l.length), (1, .c (.fn (.func g) fs caps)), (0, .c (.sl b 4 (rows eL l)))], []⟩) (fun i => l.length - i.1) ⟨0, Nat.zero_le _, fun j u h => by omega⟩ ?_ ?_
  · refine Ent.to ?_ ?_ <;> simp (disch := omega) only [wkT_cons, wkX_cons, wkT_nil, wkX_nil, get, Nat.reduceEqDiff, ↓reduceIte, ex_some, wk_self, wk_top, wk_nil, wkB_self, and_self, dI, i64_in, and_true, true_and, Int.natCast_add, Int.natCast_one, Int.ofNat_zero, Int.natCast_zero]
  rintro ⟨i, hi, hij⟩
  rcases at_or l i hi with ⟨v, hv, hlt, hd⟩ | ⟨he, hd⟩
  · have hcall := hp v (List.mem_of_getElem? hv)
    repeat' (first
    | (with_reducible refine DW.seq ?_)
    | (with_reducible refine DW.block ?_)
    | (with_reducible refine DW.skip ?_)
    | (with_reducible refine DW.exit ?_)
    | (with_reducible refine DW.ret ?_)
    | (with_reducible refine DW.reg ?_)
    | (simp (disch := omega) only [go_sem, Nat.reduceLT, Nat.reduceLeDiff, Nat.reduceAdd, Nat.reduceMul, Nat.reduceEqDiff, ↓reduceIte, reduceCtorEq, Nat.reduceBEq, Nat.reduceBNe, Nat.reducePow, Int.reduceLE, Int.reduceLT, Int.reduceNeg, Int.reduceToNat, Int.reduceEq, Int.reduceAdd, Int.reduceSub, Int.reduceMul, Int.reduceBEq, Int.reduceBNe, Blk.men, Blk.keysIn, hd, hv, closeDs_fn, List.map_cons, List.map_nil])
    | (exact retS_of rfl rfl rfl)
    | (refine DW.cond_tt rfl ?_)
    | (refine DW.cond_ff rfl ?_)
    | (refine DW.cond rfl ?_ ?_ <;> intro hc <;> (try simp only [go_sem] at hc))
    | (refine g_split ?_ ?_ <;> intro hc <;> (try simp only [hc]) <;> (try simp only [go_sem] at hc)))
    refine call_c hcall (by decide) ?_
    simp (disch := omega) only [go_sem, Nat.reduceLT, Nat.reduceLeDiff, Nat.reduceAdd, Nat.reduceMul, Nat.reduceEqDiff, ↓reduceIte, reduceCtorEq, Nat.reduceBEq, Nat.reduceBNe, Nat.reducePow, Int.reduceLE, Int.reduceLT, Int.reduceNeg, Int.reduceToNat, Int.reduceEq, Int.reduceAdd, Int.reduceSub, Int.reduceMul, Int.reduceBEq, Int.reduceBNe, Blk.men, Blk.keysIn]
    refine DW.cond rfl ?_ ?_ <;> intro hc
    · repeat' (first
    | (with_reducible refine DW.seq ?_)
    | (with_reducible refine DW.block ?_)
    | (with_reducible refine DW.skip ?_)
    | (with_reducible refine DW.exit ?_)
    | (with_reducible refine DW.ret ?_)
    | (with_reducible refine DW.reg ?_)
    | (simp (disch := omega) only [go_sem, Nat.reduceLT, Nat.reduceLeDiff, Nat.reduceAdd, Nat.reduceMul, Nat.reduceEqDiff, ↓reduceIte, reduceCtorEq, Nat.reduceBEq, Nat.reduceBNe, Nat.reducePow, Int.reduceLE, Int.reduceLT, Int.reduceNeg, Int.reduceToNat, Int.reduceEq, Int.reduceAdd, Int.reduceSub, Int.reduceMul, Int.reduceBEq, Int.reduceBNe, Blk.men, Blk.keysIn])
    | (exact retS_of rfl rfl rfl)
    | (refine DW.cond_tt rfl ?_)
    | (refine DW.cond_ff rfl ?_)
    | (refine DW.cond rfl ?_ ?_ <;> intro hc <;> (try simp only [go_sem] at hc))
    | (refine g_split ?_ ?_ <;> intro hc <;> (try simp only [hc]) <;> (try simp only [go_sem] at hc)))
      refine retS_of rfl ?_ rfl; simp only [oneD, St.op, get, Nat.reduceEqDiff, ↓reduceIte, Option.getD_some, bD, dI]
      simp only [idxI, idxOf_some hij hv hc]
    · repeat' (first
    | (with_reducible refine DW.seq ?_)
    | (with_reducible refine DW.block ?_)
    | (with_reducible refine DW.skip ?_)
    | (with_reducible refine DW.exit ?_)
    | (with_reducible refine DW.ret ?_)
    | (with_reducible refine DW.reg ?_)
    | (simp (disch := omega) only [go_sem, Nat.reduceLT, Nat.reduceLeDiff, Nat.reduceAdd, Nat.reduceMul, Nat.reduceEqDiff, ↓reduceIte, reduceCtorEq, Nat.reduceBEq, Nat.reduceBNe, Nat.reducePow, Int.reduceLE, Int.reduceLT, Int.reduceNeg, Int.reduceToNat, Int.reduceEq, Int.reduceAdd, Int.reduceSub, Int.reduceMul, Int.reduceBEq, Int.reduceBNe, Blk.men, Blk.keysIn])
    | (exact retS_of rfl rfl rfl)
    | (refine DW.cond_tt rfl ?_)
    | (refine DW.cond_ff rfl ?_)
    | (refine DW.cond rfl ?_ ?_ <;> intro hc <;> (try simp only [go_sem] at hc))
    | (refine g_split ?_ ?_ <;> intro hc <;> (try simp only [hc]) <;> (try simp only [go_sem] at hc)))
      refine ⟨⟨i + 1, by omega, fun j u hj hu => by
        rcases Nat.lt_or_ge j i with h | h
        · exact hij j u h hu
        · have : j = i := by omega
          subst this
          rw [hv] at hu; cases hu; exact hc⟩, ?_, Ent.to ?_ ?_⟩ <;> first | (show _ < _; (try simp only); omega) | (simp (disch := omega) only [wkT_cons, wkX_cons, wkT_nil, wkX_nil, get, Nat.reduceEqDiff, ↓reduceIte, ex_some, wk_self, wk_top, wk_nil, wkB_self, and_self, dI, i64_in, and_true, true_and, Int.natCast_add, Int.natCast_one, Int.ofNat_zero, Int.natCast_zero])
  · repeat' (first
    | (with_reducible refine DW.seq ?_)
    | (with_reducible refine DW.block ?_)
    | (with_reducible refine DW.skip ?_)
    | (with_reducible refine DW.exit ?_)
    | (with_reducible refine DW.ret ?_)
    | (with_reducible refine DW.reg ?_)
    | (simp (disch := omega) only [go_sem, Nat.reduceLT, Nat.reduceLeDiff, Nat.reduceAdd, Nat.reduceMul, Nat.reduceEqDiff, ↓reduceIte, reduceCtorEq, Nat.reduceBEq, Nat.reduceBNe, Nat.reducePow, Int.reduceLE, Int.reduceLT, Int.reduceNeg, Int.reduceToNat, Int.reduceEq, Int.reduceAdd, Int.reduceSub, Int.reduceMul, Int.reduceBEq, Int.reduceBNe, Blk.men, Blk.keysIn, hd])
    | (exact retS_of rfl rfl rfl)
    | (refine DW.cond_tt rfl ?_)
    | (refine DW.cond_ff rfl ?_)
    | (refine DW.cond rfl ?_ ?_ <;> intro hc <;> (try simp only [go_sem] at hc))
    | (refine g_split ?_ ?_ <;> intro hc <;> (try simp only [hc]) <;> (try simp only [go_sem] at hc)))
    refine retS_of rfl ?_ rfl; simp only [oneD, St.op, get, Nat.reduceEqDiff, ↓reduceIte, Option.getD_some, bD, dI]
    simp only [idxI, idxOf_none (he ▸ hij)]
theorem c98 (b : Bool) (l : List (Look)) (hl : l.length ≤ 2 ^ 36) (g : FuncId) (fs caps : List C) (p : Look → Bool) (hp : ∀ x ∈ l, DCall Try.prog g (fs.map D.c ++ [.agg ((eL x).map D.c)] ++ caps.map D.c) [] (bD (p x)) []) : DCall Try.prog 98 [.c (.sl b 4 (rows eL l)), .c (.fn (.func g) fs caps)] [] (bD (l.any p)) [] := by
  refine DCall.of Try.func98 sf98 hb98 (Nat.le_of_ble_eq_true rfl) (okRes_nil fun _ => rfl) ?_; simp only [s98, Mv, Sg, Ld, Fa, Xt, Ix, Ln, Cl, Oo, Og, idxs, Nat.reduceAdd]
  repeat' (first
    | (with_reducible refine DW.seq ?_)
    | (with_reducible refine DW.block ?_)
    | (with_reducible refine DW.skip ?_)
    | (with_reducible refine DW.exit ?_)
    | (with_reducible refine DW.ret ?_)
    | (with_reducible refine DW.reg ?_)
    | (simp (disch := omega) only [go_sem, Nat.reduceLT, Nat.reduceLeDiff, Nat.reduceAdd, Nat.reduceMul, Nat.reduceEqDiff, ↓reduceIte, reduceCtorEq, Nat.reduceBEq, Nat.reduceBNe, Nat.reducePow, Int.reduceLE, Int.reduceLT, Int.reduceNeg, Int.reduceToNat, Int.reduceEq, Int.reduceAdd, Int.reduceSub, Int.reduceMul, Int.reduceBEq, Int.reduceBNe, Blk.men, Blk.keysIn])
    | (exact retS_of rfl rfl rfl)
    | (refine DW.cond_tt rfl ?_)
    | (refine DW.cond_ff rfl ?_)
    | (refine DW.cond rfl ?_ ?_ <;> intro hc <;> (try simp only [go_sem] at hc))
    | (refine g_split ?_ ?_ <;> intro hc <;> (try simp only [hc]) <;> (try simp only [go_sem] at hc)))
  refine call_c (c119 b l hl g fs caps p hp) (by decide) ?_
  repeat' (first
    | (with_reducible refine DW.seq ?_)
    | (with_reducible refine DW.block ?_)
    | (with_reducible refine DW.skip ?_)
    | (with_reducible refine DW.exit ?_)
    | (with_reducible refine DW.ret ?_)
    | (with_reducible refine DW.reg ?_)
    | (simp (disch := omega) only [go_sem, Nat.reduceLT, Nat.reduceLeDiff, Nat.reduceAdd, Nat.reduceMul, Nat.reduceEqDiff, ↓reduceIte, reduceCtorEq, Nat.reduceBEq, Nat.reduceBNe, Nat.reducePow, Int.reduceLE, Int.reduceLT, Int.reduceNeg, Int.reduceToNat, Int.reduceEq, Int.reduceAdd, Int.reduceSub, Int.reduceMul, Int.reduceBEq, Int.reduceBNe, Blk.men, Blk.keysIn])
    | (exact retS_of rfl rfl rfl)
    | (refine DW.cond_tt rfl ?_)
    | (refine DW.cond_ff rfl ?_)
    | (refine DW.cond rfl ?_ ?_ <;> intro hc <;> (try simp only [go_sem] at hc))
    | (refine g_split ?_ ?_ <;> intro hc <;> (try simp only [hc]) <;> (try simp only [go_sem] at hc)))
  refine retS_of rfl ?_ rfl; simp only [oneD, St.op, get, Nat.reduceEqDiff, ↓reduceIte, Option.getD_some, bD, dI]
  rw [idxI_any]
theorem c109 (b : Bool) (l : List (Room)) (hl : l.length ≤ 2 ^ 36) (g : FuncId) (fs caps : List C) (p : Room → Bool) (hp : ∀ x ∈ l, DCall Try.prog g (fs.map D.c ++ [.agg ((eR x).map D.c)] ++ caps.map D.c) [] (bD (p x)) []) : DCall Try.prog 109 [.c (.sl b 4 (rows eR l)), .c (.fn (.func g) fs caps)] [] (dI (idxI p l)) [] := by
  refine DCall.of Try.func109 sf109 hb109 (Nat.le_of_ble_eq_true rfl) (okRes_nil fun _ => rfl) ?_; simp only [s109, Mv, Sg, Ld, Fa, Xt, Ix, Ln, Cl, Oo, Og, idxs, Nat.reduceAdd]
  repeat' (first
    | (with_reducible refine DW.seq ?_)
    | (with_reducible refine DW.block ?_)
    | (with_reducible refine DW.skip ?_)
    | (with_reducible refine DW.exit ?_)
    | (with_reducible refine DW.ret ?_)
    | (with_reducible refine DW.reg ?_)
    | (simp (disch := omega) only [go_sem, Nat.reduceLT, Nat.reduceLeDiff, Nat.reduceAdd, Nat.reduceMul, Nat.reduceEqDiff, ↓reduceIte, reduceCtorEq, Nat.reduceBEq, Nat.reduceBNe, Nat.reducePow, Int.reduceLE, Int.reduceLT, Int.reduceNeg, Int.reduceToNat, Int.reduceEq, Int.reduceAdd, Int.reduceSub, Int.reduceMul, Int.reduceBEq, Int.reduceBNe, Blk.men, Blk.keysIn])
    | (exact retS_of rfl rfl rfl)
    | (refine DW.cond_tt rfl ?_)
    | (refine DW.cond_ff rfl ?_)
    | (refine DW.cond rfl ?_ ?_ <;> intro hc <;> (try simp only [go_sem] at hc))
    | (refine g_split ?_ ?_ <;> intro hc <;> (try simp only [hc]) <;> (try simp only [go_sem] at hc)))
  refine DW.loop (ι := { i : Nat // i ≤ l.length ∧ ∀ j u, j < i → l[j]? = some u → p u = false }) (fun i => ⟨19, [(8, dI i.1), (7, dI l.length), (1, .c (.fn (.func g) fs caps)), (0, .c (.sl b 4 (rows eR l)))], []⟩) (fun i => l.length - i.1) ⟨0, Nat.zero_le _, fun j u h => by omega⟩ ?_ ?_
  · refine Ent.to ?_ ?_ <;> simp (disch := omega) only [wkT_cons, wkX_cons, wkT_nil, wkX_nil, get, Nat.reduceEqDiff, ↓reduceIte, ex_some, wk_self, wk_top, wk_nil, wkB_self, and_self, dI, i64_in, and_true, true_and, Int.natCast_add, Int.natCast_one, Int.ofNat_zero, Int.natCast_zero]
  rintro ⟨i, hi, hij⟩
  rcases at_or l i hi with ⟨v, hv, hlt, hd⟩ | ⟨he, hd⟩
  · have hcall := hp v (List.mem_of_getElem? hv)
    repeat' (first
    | (with_reducible refine DW.seq ?_)
    | (with_reducible refine DW.block ?_)
    | (with_reducible refine DW.skip ?_)
    | (with_reducible refine DW.exit ?_)
    | (with_reducible refine DW.ret ?_)
    | (with_reducible refine DW.reg ?_)
    | (simp (disch := omega) only [go_sem, Nat.reduceLT, Nat.reduceLeDiff, Nat.reduceAdd, Nat.reduceMul, Nat.reduceEqDiff, ↓reduceIte, reduceCtorEq, Nat.reduceBEq, Nat.reduceBNe, Nat.reducePow, Int.reduceLE, Int.reduceLT, Int.reduceNeg, Int.reduceToNat, Int.reduceEq, Int.reduceAdd, Int.reduceSub, Int.reduceMul, Int.reduceBEq, Int.reduceBNe, Blk.men, Blk.keysIn, hd, hv, closeDs_fn, List.map_cons, List.map_nil])
    | (exact retS_of rfl rfl rfl)
    | (refine DW.cond_tt rfl ?_)
    | (refine DW.cond_ff rfl ?_)
    | (refine DW.cond rfl ?_ ?_ <;> intro hc <;> (try simp only [go_sem] at hc))
    | (refine g_split ?_ ?_ <;> intro hc <;> (try simp only [hc]) <;> (try simp only [go_sem] at hc)))
    refine call_c hcall (by decide) ?_
    simp (disch := omega) only [go_sem, Nat.reduceLT, Nat.reduceLeDiff, Nat.reduceAdd, Nat.reduceMul, Nat.reduceEqDiff, ↓reduceIte, reduceCtorEq, Nat.reduceBEq, Nat.reduceBNe, Nat.reducePow, Int.reduceLE, Int.reduceLT, Int.reduceNeg, Int.reduceToNat, Int.reduceEq, Int.reduceAdd, Int.reduceSub, Int.reduceMul, Int.reduceBEq, Int.reduceBNe, Blk.men, Blk.keysIn]
    refine DW.cond rfl ?_ ?_ <;> intro hc
    · repeat' (first
    | (with_reducible refine DW.seq ?_)
    | (with_reducible refine DW.block ?_)
    | (with_reducible refine DW.skip ?_)
    | (with_reducible refine DW.exit ?_)
    | (with_reducible refine DW.ret ?_)
    | (with_reducible refine DW.reg ?_)
    | (simp (disch := omega) only [go_sem, Nat.reduceLT, Nat.reduceLeDiff, Nat.reduceAdd, Nat.reduceMul, Nat.reduceEqDiff, ↓reduceIte, reduceCtorEq, Nat.reduceBEq, Nat.reduceBNe, Nat.reducePow, Int.reduceLE, Int.reduceLT, Int.reduceNeg, Int.reduceToNat, Int.reduceEq, Int.reduceAdd, Int.reduceSub, Int.reduceMul, Int.reduceBEq, Int.reduceBNe, Blk.men, Blk.keysIn])
    | (exact retS_of rfl rfl rfl)
    | (refine DW.cond_tt rfl ?_)
    | (refine DW.cond_ff rfl ?_)
    | (refine DW.cond rfl ?_ ?_ <;> intro hc <;> (try simp only [go_sem] at hc))
    | (refine g_split ?_ ?_ <;> intro hc <;> (try simp only [hc]) <;> (try simp only [go_sem] at hc)))
      refine retS_of rfl ?_ rfl; simp only [oneD, St.op, get, Nat.reduceEqDiff, ↓reduceIte, Option.getD_some, bD, dI]
      simp only [idxI, idxOf_some hij hv hc]
    · repeat' (first
    | (with_reducible refine DW.seq ?_)
    | (with_reducible refine DW.block ?_)
    | (with_reducible refine DW.skip ?_)
    | (with_reducible refine DW.exit ?_)
    | (with_reducible refine DW.ret ?_)
    | (with_reducible refine DW.reg ?_)
    | (simp (disch := omega) only [go_sem, Nat.reduceLT, Nat.reduceLeDiff, Nat.reduceAdd, Nat.reduceMul, Nat.reduceEqDiff, ↓reduceIte, reduceCtorEq, Nat.reduceBEq, Nat.reduceBNe, Nat.reducePow, Int.reduceLE, Int.reduceLT, Int.reduceNeg, Int.reduceToNat, Int.reduceEq, Int.reduceAdd, Int.reduceSub, Int.reduceMul, Int.reduceBEq, Int.reduceBNe, Blk.men, Blk.keysIn])
    | (exact retS_of rfl rfl rfl)
    | (refine DW.cond_tt rfl ?_)
    | (refine DW.cond_ff rfl ?_)
    | (refine DW.cond rfl ?_ ?_ <;> intro hc <;> (try simp only [go_sem] at hc))
    | (refine g_split ?_ ?_ <;> intro hc <;> (try simp only [hc]) <;> (try simp only [go_sem] at hc)))
      refine ⟨⟨i + 1, by omega, fun j u hj hu => by
        rcases Nat.lt_or_ge j i with h | h
        · exact hij j u h hu
        · have : j = i := by omega
          subst this
          rw [hv] at hu; cases hu; exact hc⟩, ?_, Ent.to ?_ ?_⟩ <;> first | (show _ < _; (try simp only); omega) | (simp (disch := omega) only [wkT_cons, wkX_cons, wkT_nil, wkX_nil, get, Nat.reduceEqDiff, ↓reduceIte, ex_some, wk_self, wk_top, wk_nil, wkB_self, and_self, dI, i64_in, and_true, true_and, Int.natCast_add, Int.natCast_one, Int.ofNat_zero, Int.natCast_zero])
  · repeat' (first
    | (with_reducible refine DW.seq ?_)
    | (with_reducible refine DW.block ?_)
    | (with_reducible refine DW.skip ?_)
    | (with_reducible refine DW.exit ?_)
    | (with_reducible refine DW.ret ?_)
    | (with_reducible refine DW.reg ?_)
    | (simp (disch := omega) only [go_sem, Nat.reduceLT, Nat.reduceLeDiff, Nat.reduceAdd, Nat.reduceMul, Nat.reduceEqDiff, ↓reduceIte, reduceCtorEq, Nat.reduceBEq, Nat.reduceBNe, Nat.reducePow, Int.reduceLE, Int.reduceLT, Int.reduceNeg, Int.reduceToNat, Int.reduceEq, Int.reduceAdd, Int.reduceSub, Int.reduceMul, Int.reduceBEq, Int.reduceBNe, Blk.men, Blk.keysIn, hd])
    | (exact retS_of rfl rfl rfl)
    | (refine DW.cond_tt rfl ?_)
    | (refine DW.cond_ff rfl ?_)
    | (refine DW.cond rfl ?_ ?_ <;> intro hc <;> (try simp only [go_sem] at hc))
    | (refine g_split ?_ ?_ <;> intro hc <;> (try simp only [hc]) <;> (try simp only [go_sem] at hc)))
    refine retS_of rfl ?_ rfl; simp only [oneD, St.op, get, Nat.reduceEqDiff, ↓reduceIte, Option.getD_some, bD, dI]
    simp only [idxI, idxOf_none (he ▸ hij)]
theorem c87 (b : Bool) (l : List (Room)) (hl : l.length ≤ 2 ^ 36) (g : FuncId) (fs caps : List C) (p : Room → Bool) (hp : ∀ x ∈ l, DCall Try.prog g (fs.map D.c ++ [.agg ((eR x).map D.c)] ++ caps.map D.c) [] (bD (p x)) []) : DCall Try.prog 87 [.c (.sl b 4 (rows eR l)), .c (.fn (.func g) fs caps)] [] (bD (l.any p)) [] := by
  refine DCall.of Try.func87 sf87 hb87 (Nat.le_of_ble_eq_true rfl) (okRes_nil fun _ => rfl) ?_; simp only [s87, Mv, Sg, Ld, Fa, Xt, Ix, Ln, Cl, Oo, Og, idxs, Nat.reduceAdd]
  repeat' (first
    | (with_reducible refine DW.seq ?_)
    | (with_reducible refine DW.block ?_)
    | (with_reducible refine DW.skip ?_)
    | (with_reducible refine DW.exit ?_)
    | (with_reducible refine DW.ret ?_)
    | (with_reducible refine DW.reg ?_)
    | (simp (disch := omega) only [go_sem, Nat.reduceLT, Nat.reduceLeDiff, Nat.reduceAdd, Nat.reduceMul, Nat.reduceEqDiff, ↓reduceIte, reduceCtorEq, Nat.reduceBEq, Nat.reduceBNe, Nat.reducePow, Int.reduceLE, Int.reduceLT, Int.reduceNeg, Int.reduceToNat, Int.reduceEq, Int.reduceAdd, Int.reduceSub, Int.reduceMul, Int.reduceBEq, Int.reduceBNe, Blk.men, Blk.keysIn])
    | (exact retS_of rfl rfl rfl)
    | (refine DW.cond_tt rfl ?_)
    | (refine DW.cond_ff rfl ?_)
    | (refine DW.cond rfl ?_ ?_ <;> intro hc <;> (try simp only [go_sem] at hc))
    | (refine g_split ?_ ?_ <;> intro hc <;> (try simp only [hc]) <;> (try simp only [go_sem] at hc)))
  refine call_c (c109 b l hl g fs caps p hp) (by decide) ?_
  repeat' (first
    | (with_reducible refine DW.seq ?_)
    | (with_reducible refine DW.block ?_)
    | (with_reducible refine DW.skip ?_)
    | (with_reducible refine DW.exit ?_)
    | (with_reducible refine DW.ret ?_)
    | (with_reducible refine DW.reg ?_)
    | (simp (disch := omega) only [go_sem, Nat.reduceLT, Nat.reduceLeDiff, Nat.reduceAdd, Nat.reduceMul, Nat.reduceEqDiff, ↓reduceIte, reduceCtorEq, Nat.reduceBEq, Nat.reduceBNe, Nat.reducePow, Int.reduceLE, Int.reduceLT, Int.reduceNeg, Int.reduceToNat, Int.reduceEq, Int.reduceAdd, Int.reduceSub, Int.reduceMul, Int.reduceBEq, Int.reduceBNe, Blk.men, Blk.keysIn])
    | (exact retS_of rfl rfl rfl)
    | (refine DW.cond_tt rfl ?_)
    | (refine DW.cond_ff rfl ?_)
    | (refine DW.cond rfl ?_ ?_ <;> intro hc <;> (try simp only [go_sem] at hc))
    | (refine g_split ?_ ?_ <;> intro hc <;> (try simp only [hc]) <;> (try simp only [go_sem] at hc)))
  refine retS_of rfl ?_ rfl; simp only [oneD, St.op, get, Nat.reduceEqDiff, ↓reduceIte, Option.getD_some, bD, dI]
  rw [idxI_any]
theorem c101 (b : Bool) (l : List (List Cause)) (hl : l.length ≤ 2 ^ 36) (g : FuncId) (fs caps : List C) (p : List Cause → Bool) (hp : ∀ x ∈ l, DCall Try.prog g (fs.map D.c ++ [.c (.sl false 3 (rows eC x))] ++ caps.map D.c) [] (bD (p x)) []) : DCall Try.prog 101 [.c (.sl b 1 (rows eS l)), .c (.fn (.func g) fs caps)] [] (dI (idxI p l)) [] := by
  refine DCall.of Try.func101 sf101 hb101 (Nat.le_of_ble_eq_true rfl) (okRes_nil fun _ => rfl) ?_; simp only [s101, Mv, Sg, Ld, Fa, Xt, Ix, Ln, Cl, Oo, Og, idxs, Nat.reduceAdd]
  repeat' (first
    | (with_reducible refine DW.seq ?_)
    | (with_reducible refine DW.block ?_)
    | (with_reducible refine DW.skip ?_)
    | (with_reducible refine DW.exit ?_)
    | (with_reducible refine DW.ret ?_)
    | (with_reducible refine DW.reg ?_)
    | (simp (disch := omega) only [go_sem, Nat.reduceLT, Nat.reduceLeDiff, Nat.reduceAdd, Nat.reduceMul, Nat.reduceEqDiff, ↓reduceIte, reduceCtorEq, Nat.reduceBEq, Nat.reduceBNe, Nat.reducePow, Int.reduceLE, Int.reduceLT, Int.reduceNeg, Int.reduceToNat, Int.reduceEq, Int.reduceAdd, Int.reduceSub, Int.reduceMul, Int.reduceBEq, Int.reduceBNe, Blk.men, Blk.keysIn])
    | (exact retS_of rfl rfl rfl)
    | (refine DW.cond_tt rfl ?_)
    | (refine DW.cond_ff rfl ?_)
    | (refine DW.cond rfl ?_ ?_ <;> intro hc <;> (try simp only [go_sem] at hc))
    | (refine g_split ?_ ?_ <;> intro hc <;> (try simp only [hc]) <;> (try simp only [go_sem] at hc)))
  refine DW.loop (ι := { i : Nat // i ≤ l.length ∧ ∀ j u, j < i → l[j]? = some u → p u = false }) (fun i => ⟨19, [(8, dI i.1), (7, dI l.length), (1, .c (.fn (.func g) fs caps)), (0, .c (.sl b 1 (rows eS l)))], []⟩) (fun i => l.length - i.1) ⟨0, Nat.zero_le _, fun j u h => by omega⟩ ?_ ?_
  · refine Ent.to ?_ ?_ <;> simp (disch := omega) only [wkT_cons, wkX_cons, wkT_nil, wkX_nil, get, Nat.reduceEqDiff, ↓reduceIte, ex_some, wk_self, wk_top, wk_nil, wkB_self, and_self, dI, i64_in, and_true, true_and, Int.natCast_add, Int.natCast_one, Int.ofNat_zero, Int.natCast_zero]
  rintro ⟨i, hi, hij⟩
  rcases at_or l i hi with ⟨v, hv, hlt, hd⟩ | ⟨he, hd⟩
  · have hcall := hp v (List.mem_of_getElem? hv)
    repeat' (first
    | (with_reducible refine DW.seq ?_)
    | (with_reducible refine DW.block ?_)
    | (with_reducible refine DW.skip ?_)
    | (with_reducible refine DW.exit ?_)
    | (with_reducible refine DW.ret ?_)
    | (with_reducible refine DW.reg ?_)
    | (simp (disch := omega) only [go_sem, Nat.reduceLT, Nat.reduceLeDiff, Nat.reduceAdd, Nat.reduceMul, Nat.reduceEqDiff, ↓reduceIte, reduceCtorEq, Nat.reduceBEq, Nat.reduceBNe, Nat.reducePow, Int.reduceLE, Int.reduceLT, Int.reduceNeg, Int.reduceToNat, Int.reduceEq, Int.reduceAdd, Int.reduceSub, Int.reduceMul, Int.reduceBEq, Int.reduceBNe, Blk.men, Blk.keysIn, hd, hv, closeDs_fn, List.map_cons, List.map_nil])
    | (exact retS_of rfl rfl rfl)
    | (refine DW.cond_tt rfl ?_)
    | (refine DW.cond_ff rfl ?_)
    | (refine DW.cond rfl ?_ ?_ <;> intro hc <;> (try simp only [go_sem] at hc))
    | (refine g_split ?_ ?_ <;> intro hc <;> (try simp only [hc]) <;> (try simp only [go_sem] at hc)))
    refine call_c hcall (by decide) ?_
    simp (disch := omega) only [go_sem, Nat.reduceLT, Nat.reduceLeDiff, Nat.reduceAdd, Nat.reduceMul, Nat.reduceEqDiff, ↓reduceIte, reduceCtorEq, Nat.reduceBEq, Nat.reduceBNe, Nat.reducePow, Int.reduceLE, Int.reduceLT, Int.reduceNeg, Int.reduceToNat, Int.reduceEq, Int.reduceAdd, Int.reduceSub, Int.reduceMul, Int.reduceBEq, Int.reduceBNe, Blk.men, Blk.keysIn]
    refine DW.cond rfl ?_ ?_ <;> intro hc
    · repeat' (first
    | (with_reducible refine DW.seq ?_)
    | (with_reducible refine DW.block ?_)
    | (with_reducible refine DW.skip ?_)
    | (with_reducible refine DW.exit ?_)
    | (with_reducible refine DW.ret ?_)
    | (with_reducible refine DW.reg ?_)
    | (simp (disch := omega) only [go_sem, Nat.reduceLT, Nat.reduceLeDiff, Nat.reduceAdd, Nat.reduceMul, Nat.reduceEqDiff, ↓reduceIte, reduceCtorEq, Nat.reduceBEq, Nat.reduceBNe, Nat.reducePow, Int.reduceLE, Int.reduceLT, Int.reduceNeg, Int.reduceToNat, Int.reduceEq, Int.reduceAdd, Int.reduceSub, Int.reduceMul, Int.reduceBEq, Int.reduceBNe, Blk.men, Blk.keysIn])
    | (exact retS_of rfl rfl rfl)
    | (refine DW.cond_tt rfl ?_)
    | (refine DW.cond_ff rfl ?_)
    | (refine DW.cond rfl ?_ ?_ <;> intro hc <;> (try simp only [go_sem] at hc))
    | (refine g_split ?_ ?_ <;> intro hc <;> (try simp only [hc]) <;> (try simp only [go_sem] at hc)))
      refine retS_of rfl ?_ rfl; simp only [oneD, St.op, get, Nat.reduceEqDiff, ↓reduceIte, Option.getD_some, bD, dI]
      simp only [idxI, idxOf_some hij hv hc]
    · repeat' (first
    | (with_reducible refine DW.seq ?_)
    | (with_reducible refine DW.block ?_)
    | (with_reducible refine DW.skip ?_)
    | (with_reducible refine DW.exit ?_)
    | (with_reducible refine DW.ret ?_)
    | (with_reducible refine DW.reg ?_)
    | (simp (disch := omega) only [go_sem, Nat.reduceLT, Nat.reduceLeDiff, Nat.reduceAdd, Nat.reduceMul, Nat.reduceEqDiff, ↓reduceIte, reduceCtorEq, Nat.reduceBEq, Nat.reduceBNe, Nat.reducePow, Int.reduceLE, Int.reduceLT, Int.reduceNeg, Int.reduceToNat, Int.reduceEq, Int.reduceAdd, Int.reduceSub, Int.reduceMul, Int.reduceBEq, Int.reduceBNe, Blk.men, Blk.keysIn])
    | (exact retS_of rfl rfl rfl)
    | (refine DW.cond_tt rfl ?_)
    | (refine DW.cond_ff rfl ?_)
    | (refine DW.cond rfl ?_ ?_ <;> intro hc <;> (try simp only [go_sem] at hc))
    | (refine g_split ?_ ?_ <;> intro hc <;> (try simp only [hc]) <;> (try simp only [go_sem] at hc)))
      refine ⟨⟨i + 1, by omega, fun j u hj hu => by
        rcases Nat.lt_or_ge j i with h | h
        · exact hij j u h hu
        · have : j = i := by omega
          subst this
          rw [hv] at hu; cases hu; exact hc⟩, ?_, Ent.to ?_ ?_⟩ <;> first | (show _ < _; (try simp only); omega) | (simp (disch := omega) only [wkT_cons, wkX_cons, wkT_nil, wkX_nil, get, Nat.reduceEqDiff, ↓reduceIte, ex_some, wk_self, wk_top, wk_nil, wkB_self, and_self, dI, i64_in, and_true, true_and, Int.natCast_add, Int.natCast_one, Int.ofNat_zero, Int.natCast_zero])
  · repeat' (first
    | (with_reducible refine DW.seq ?_)
    | (with_reducible refine DW.block ?_)
    | (with_reducible refine DW.skip ?_)
    | (with_reducible refine DW.exit ?_)
    | (with_reducible refine DW.ret ?_)
    | (with_reducible refine DW.reg ?_)
    | (simp (disch := omega) only [go_sem, Nat.reduceLT, Nat.reduceLeDiff, Nat.reduceAdd, Nat.reduceMul, Nat.reduceEqDiff, ↓reduceIte, reduceCtorEq, Nat.reduceBEq, Nat.reduceBNe, Nat.reducePow, Int.reduceLE, Int.reduceLT, Int.reduceNeg, Int.reduceToNat, Int.reduceEq, Int.reduceAdd, Int.reduceSub, Int.reduceMul, Int.reduceBEq, Int.reduceBNe, Blk.men, Blk.keysIn, hd])
    | (exact retS_of rfl rfl rfl)
    | (refine DW.cond_tt rfl ?_)
    | (refine DW.cond_ff rfl ?_)
    | (refine DW.cond rfl ?_ ?_ <;> intro hc <;> (try simp only [go_sem] at hc))
    | (refine g_split ?_ ?_ <;> intro hc <;> (try simp only [hc]) <;> (try simp only [go_sem] at hc)))
    refine retS_of rfl ?_ rfl; simp only [oneD, St.op, get, Nat.reduceEqDiff, ↓reduceIte, Option.getD_some, bD, dI]
    simp only [idxI, idxOf_none (he ▸ hij)]
theorem c69 (b : Bool) (l : List (List Cause)) (hl : l.length ≤ 2 ^ 36) (g : FuncId) (fs caps : List C) (p : List Cause → Bool) (hp : ∀ x ∈ l, DCall Try.prog g (fs.map D.c ++ [.c (.sl false 3 (rows eC x))] ++ caps.map D.c) [] (bD (p x)) []) : DCall Try.prog 69 [.c (.sl b 1 (rows eS l)), .c (.fn (.func g) fs caps)] [] (bD (l.any p)) [] := by
  refine DCall.of Try.func69 sf69 hb69 (Nat.le_of_ble_eq_true rfl) (okRes_nil fun _ => rfl) ?_; simp only [s69, Mv, Sg, Ld, Fa, Xt, Ix, Ln, Cl, Oo, Og, idxs, Nat.reduceAdd]
  repeat' (first
    | (with_reducible refine DW.seq ?_)
    | (with_reducible refine DW.block ?_)
    | (with_reducible refine DW.skip ?_)
    | (with_reducible refine DW.exit ?_)
    | (with_reducible refine DW.ret ?_)
    | (with_reducible refine DW.reg ?_)
    | (simp (disch := omega) only [go_sem, Nat.reduceLT, Nat.reduceLeDiff, Nat.reduceAdd, Nat.reduceMul, Nat.reduceEqDiff, ↓reduceIte, reduceCtorEq, Nat.reduceBEq, Nat.reduceBNe, Nat.reducePow, Int.reduceLE, Int.reduceLT, Int.reduceNeg, Int.reduceToNat, Int.reduceEq, Int.reduceAdd, Int.reduceSub, Int.reduceMul, Int.reduceBEq, Int.reduceBNe, Blk.men, Blk.keysIn])
    | (exact retS_of rfl rfl rfl)
    | (refine DW.cond_tt rfl ?_)
    | (refine DW.cond_ff rfl ?_)
    | (refine DW.cond rfl ?_ ?_ <;> intro hc <;> (try simp only [go_sem] at hc))
    | (refine g_split ?_ ?_ <;> intro hc <;> (try simp only [hc]) <;> (try simp only [go_sem] at hc)))
  refine call_c (c101 b l hl g fs caps p hp) (by decide) ?_
  repeat' (first
    | (with_reducible refine DW.seq ?_)
    | (with_reducible refine DW.block ?_)
    | (with_reducible refine DW.skip ?_)
    | (with_reducible refine DW.exit ?_)
    | (with_reducible refine DW.ret ?_)
    | (with_reducible refine DW.reg ?_)
    | (simp (disch := omega) only [go_sem, Nat.reduceLT, Nat.reduceLeDiff, Nat.reduceAdd, Nat.reduceMul, Nat.reduceEqDiff, ↓reduceIte, reduceCtorEq, Nat.reduceBEq, Nat.reduceBNe, Nat.reducePow, Int.reduceLE, Int.reduceLT, Int.reduceNeg, Int.reduceToNat, Int.reduceEq, Int.reduceAdd, Int.reduceSub, Int.reduceMul, Int.reduceBEq, Int.reduceBNe, Blk.men, Blk.keysIn])
    | (exact retS_of rfl rfl rfl)
    | (refine DW.cond_tt rfl ?_)
    | (refine DW.cond_ff rfl ?_)
    | (refine DW.cond rfl ?_ ?_ <;> intro hc <;> (try simp only [go_sem] at hc))
    | (refine g_split ?_ ?_ <;> intro hc <;> (try simp only [hc]) <;> (try simp only [go_sem] at hc)))
  refine retS_of rfl ?_ rfl; simp only [oneD, St.op, get, Nat.reduceEqDiff, ↓reduceIte, Option.getD_some, bD, dI]
  rw [idxI_any]
end Go.Dw.Seat
end
