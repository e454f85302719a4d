/- Helpers of a proof. -/
import Derived.Test.YtecgononbfgigaaW35
import Derived.Test.YtecgononbfgigaaProg
set_option linter.unusedVariables false
set_option linter.unusedSimpArgs false
section
namespace Go.Dw.Seat
open Go Go.Dw Go.Proofs
theorem el0 : elemI Try.prog 0 = none := by kernel_rfl
theorem ty1 : tyI Try.prog 1 = some ⟨false, 1, [.nilFunc], 8⟩ := by kernel_rfl
theorem el1 : elemI Try.prog 1 = none := by kernel_rfl
theorem ty2 : tyI Try.prog 2 = some ⟨false, 1, [(.int .i64 0)], 8⟩ := by kernel_rfl
theorem el2 : elemI Try.prog 2 = none := by kernel_rfl
theorem it2 : intI Try.prog 2 = some .i64 := by kernel_rfl
theorem ty3 : tyI Try.prog 3 = some ⟨false, 1, [(.int .i64 0)], 8⟩ := by kernel_rfl
theorem el3 : elemI Try.prog 3 = none := by kernel_rfl
theorem it3 : intI Try.prog 3 = some .i64 := by kernel_rfl
theorem ty4 : tyI Try.prog 4 = some ⟨false, 1, [(.bool false)], 1⟩ := by kernel_rfl
theorem el4 : elemI Try.prog 4 = none := by kernel_rfl
theorem bl4 : blI Try.prog 4 = true := by kernel_rfl
theorem ty5 : tyI Try.prog 5 = some ⟨false, 1, [(.int .u8 0)], 1⟩ := by kernel_rfl
theorem el5 : elemI Try.prog 5 = none := by kernel_rfl
theorem it5 : intI Try.prog 5 = some .u8 := by kernel_rfl
theorem ty6 : tyI Try.prog 6 = some ⟨false, 1, [(.int .u8 0)], 1⟩ := by kernel_rfl
theorem el6 : elemI Try.prog 6 = none := by kernel_rfl
theorem it6 : intI Try.prog 6 = some .u8 := by kernel_rfl
theorem ty7 : tyI Try.prog 7 = some ⟨true, 4, [(.int .i64 0), (.int .i64 0), (.bool false), (.int .u8 0)], 24⟩ := by kernel_rfl
theorem el7 : elemI Try.prog 7 = none := by kernel_rfl
theorem eq7 : eqTy Try.prog 7 = some (.st [(0, 1, .it), (1, 1, .it), (2, 1, .bl), (3, 1, .it)]) := by kernel_rfl
theorem pl7 : placesI Try.prog 7 = some [(0, 1), (1, 1), (2, 1), (3, 1)] := by kernel_rfl
theorem fi7_0 : fieldI Try.prog 7 0 = some (0, 1, false) := by kernel_rfl
theorem fi7_1 : fieldI Try.prog 7 1 = some (1, 1, false) := by kernel_rfl
theorem fi7_2 : fieldI Try.prog 7 2 = some (2, 1, false) := by kernel_rfl
theorem fi7_3 : fieldI Try.prog 7 3 = some (3, 1, false) := by kernel_rfl
theorem ty8 : tyI Try.prog 8 = some ⟨true, 4, [(.int .i64 0), (.int .i64 0), (.bool false), (.int .u8 0)], 24⟩ := by kernel_rfl
theorem el8 : elemI Try.prog 8 = none := by kernel_rfl
theorem eq8 : eqTy Try.prog 8 = some (.st [(0, 1, .it), (1, 1, .it), (2, 1, .bl), (3, 1, .it)]) := by kernel_rfl
theorem pl8 : placesI Try.prog 8 = some [(0, 1), (1, 1), (2, 1), (3, 1)] := by kernel_rfl
theorem fi8_0 : fieldI Try.prog 8 0 = some (0, 1, false) := by kernel_rfl
theorem fi8_1 : fieldI Try.prog 8 1 = some (1, 1, false) := by kernel_rfl
theorem fi8_2 : fieldI Try.prog 8 2 = some (2, 1, false) := by kernel_rfl
theorem fi8_3 : fieldI Try.prog 8 3 = some (3, 1, false) := by kernel_rfl
theorem ty9 : tyI Try.prog 9 = some ⟨false, 1, [(.string ⟨#[]⟩)], 16⟩ := by kernel_rfl
theorem el9 : elemI Try.prog 9 = none := by kernel_rfl
theorem ty10 : tyI Try.prog 10 = some ⟨false, 1, [(.string ⟨#[]⟩)], 16⟩ := by kernel_rfl
theorem el10 : elemI Try.prog 10 = none := by kernel_rfl
theorem ty11 : tyI Try.prog 11 = some ⟨false, 1, [(.string ⟨#[]⟩)], 16⟩ := by kernel_rfl
theorem el11 : elemI Try.prog 11 = none := by kernel_rfl
theorem ty12 : tyI Try.prog 12 = some ⟨false, 1, [(.int .u64 0)], 8⟩ := by kernel_rfl
theorem el12 : elemI Try.prog 12 = none := by kernel_rfl
theorem it12 : intI Try.prog 12 = some .u64 := by kernel_rfl
theorem ty13 : tyI Try.prog 13 = some ⟨true, 2, [(.string ⟨#[]⟩), (.int .u64 0)], 24⟩ := by kernel_rfl
theorem el13 : elemI Try.prog 13 = none := by kernel_rfl
theorem pl13 : placesI Try.prog 13 = some [(0, 1), (1, 1)] := by kernel_rfl
theorem fi13_0 : fieldI Try.prog 13 0 = some (0, 1, false) := by kernel_rfl
theorem fi13_1 : fieldI Try.prog 13 1 = some (1, 1, false) := by kernel_rfl
theorem ty14 : tyI Try.prog 14 = some ⟨true, 2, [(.string ⟨#[]⟩), (.int .u64 0)], 24⟩ := by kernel_rfl
theorem el14 : elemI Try.prog 14 = none := by kernel_rfl
theorem pl14 : placesI Try.prog 14 = some [(0, 1), (1, 1)] := by kernel_rfl
theorem fi14_0 : fieldI Try.prog 14 0 = some (0, 1, false) := by kernel_rfl
theorem fi14_1 : fieldI Try.prog 14 1 = some (1, 1, false) := by kernel_rfl
theorem ty15 : tyI Try.prog 15 = some ⟨false, 1, [(.pointer none)], 8⟩ := by kernel_rfl
theorem el15 : elemI Try.prog 15 = none := by kernel_rfl
theorem ty16 : tyI Try.prog 16 = some ⟨false, 1, [(.pointer none)], 8⟩ := by kernel_rfl
theorem el16 : elemI Try.prog 16 = none := by kernel_rfl
theorem ty17 : tyI Try.prog 17 = some ⟨false, 1, [(.pointer none)], 8⟩ := by kernel_rfl
theorem el17 : elemI Try.prog 17 = none := by kernel_rfl
theorem ty18 : tyI Try.prog 18 = some ⟨true, 1, [(.pointer none)], 8⟩ := by kernel_rfl
theorem el18 : elemI Try.prog 18 = none := by kernel_rfl
theorem pl18 : placesI Try.prog 18 = some [(0, 1)] := by kernel_rfl
theorem fi18_0 : fieldI Try.prog 18 0 = some (0, 1, false) := by kernel_rfl
theorem ty19 : tyI Try.prog 19 = some ⟨true, 1, [(.pointer none)], 8⟩ := by kernel_rfl
theorem el19 : elemI Try.prog 19 = none := by kernel_rfl
theorem pl19 : placesI Try.prog 19 = some [(0, 1)] := by kernel_rfl
theorem fi19_0 : fieldI Try.prog 19 0 = some (0, 1, false) := by kernel_rfl
theorem ty20 : tyI Try.prog 20 = some ⟨false, 1, [.nilIface], 16⟩ := by kernel_rfl
theorem el20 : elemI Try.prog 20 = none := by kernel_rfl
theorem ty21 : tyI Try.prog 21 = some ⟨false, 1, [(.int .i32 0)], 4⟩ := by kernel_rfl
theorem el21 : elemI Try.prog 21 = none := by kernel_rfl
theorem it21 : intI Try.prog 21 = some .i32 := by kernel_rfl
theorem ty22 : tyI Try.prog 22 = some ⟨false, 1, [(.slice none 0 0)], 24⟩ := by kernel_rfl
theorem el22 : elemI Try.prog 22 = some 3 := by kernel_rfl
theorem ty23 : tyI Try.prog 23 = some ⟨true, 2, [(.int .i64 0), (.slice none 0 0)], 32⟩ := by kernel_rfl
theorem el23 : elemI Try.prog 23 = none := by kernel_rfl
theorem pl23 : placesI Try.prog 23 = some [(0, 1), (1, 1)] := by kernel_rfl
theorem fi23_0 : fieldI Try.prog 23 0 = some (0, 1, false) := by kernel_rfl
theorem fi23_1 : fieldI Try.prog 23 1 = some (1, 1, false) := by kernel_rfl
theorem ty24 : tyI Try.prog 24 = some ⟨true, 2, [(.int .i64 0), (.slice none 0 0)], 32⟩ := by kernel_rfl
theorem el24 : elemI Try.prog 24 = none := by kernel_rfl
theorem pl24 : placesI Try.prog 24 = some [(0, 1), (1, 1)] := by kernel_rfl
theorem fi24_0 : fieldI Try.prog 24 0 = some (0, 1, false) := by kernel_rfl
theorem fi24_1 : fieldI Try.prog 24 1 = some (1, 1, false) := by kernel_rfl
theorem ty25 : tyI Try.prog 25 = some ⟨false, 1, [(.slice none 0 0)], 24⟩ := by kernel_rfl
theorem el25 : elemI Try.prog 25 = some 48 := by kernel_rfl
theorem ty26 : tyI Try.prog 26 = some ⟨true, 2, [(.slice none 0 0), (.slice none 0 0)], 48⟩ := by kernel_rfl
theorem el26 : elemI Try.prog 26 = none := by kernel_rfl
theorem pl26 : placesI Try.prog 26 = some [(0, 1), (1, 1)] := by kernel_rfl
theorem fi26_0 : fieldI Try.prog 26 0 = some (0, 1, false) := by kernel_rfl
theorem fi26_1 : fieldI Try.prog 26 1 = some (1, 1, false) := by kernel_rfl
theorem ty27 : tyI Try.prog 27 = some ⟨true, 2, [(.slice none 0 0), (.slice none 0 0)], 48⟩ := by kernel_rfl
theorem el27 : elemI Try.prog 27 = none := by kernel_rfl
theorem pl27 : placesI Try.prog 27 = some [(0, 1), (1, 1)] := by kernel_rfl
theorem fi27_0 : fieldI Try.prog 27 0 = some (0, 1, false) := by kernel_rfl
theorem fi27_1 : fieldI Try.prog 27 1 = some (1, 1, false) := by kernel_rfl
theorem ty28 : tyI Try.prog 28 = some ⟨false, 1, [.nilFunc], 8⟩ := by kernel_rfl
theorem el28 : elemI Try.prog 28 = none := by kernel_rfl
theorem ty29 : tyI Try.prog 29 = some ⟨false, 1, [.nilFunc], 8⟩ := by kernel_rfl
theorem el29 : elemI Try.prog 29 = none := by kernel_rfl
theorem ty30 : tyI Try.prog 30 = some ⟨false, 1, [.nilFunc], 8⟩ := by kernel_rfl
theorem el30 : elemI Try.prog 30 = none := by kernel_rfl
theorem ty31 : tyI Try.prog 31 = some ⟨false, 1, [.nilFunc], 8⟩ := by kernel_rfl
theorem el31 : elemI Try.prog 31 = none := by kernel_rfl
theorem ty32 : tyI Try.prog 32 = some ⟨false, 1, [(.slice none 0 0)], 24⟩ := by kernel_rfl
theorem el32 : elemI Try.prog 32 = some 104 := by kernel_rfl
theorem ty33 : tyI Try.prog 33 = some ⟨false, 1, [(.int .i64 0)], 8⟩ := by kernel_rfl
theorem el33 : elemI Try.prog 33 = none := by kernel_rfl
theorem it33 : intI Try.prog 33 = some .i64 := by kernel_rfl
theorem el34 : elemI Try.prog 34 = none := by kernel_rfl
theorem ty35 : tyI Try.prog 35 = some ⟨false, 1, [.nilFunc], 8⟩ := by kernel_rfl
theorem el35 : elemI Try.prog 35 = none := by kernel_rfl
theorem el36 : elemI Try.prog 36 = none := by kernel_rfl
theorem ty37 : tyI Try.prog 37 = some ⟨false, 1, [.nilFunc], 8⟩ := by kernel_rfl
theorem el37 : elemI Try.prog 37 = none := by kernel_rfl
theorem ty38 : tyI Try.prog 38 = some ⟨false, 1, [.nilFunc], 8⟩ := by kernel_rfl
theorem el38 : elemI Try.prog 38 = none := by kernel_rfl
theorem ty39 : tyI Try.prog 39 = some ⟨false, 1, [.nilFunc], 8⟩ := by kernel_rfl
theorem el39 : elemI Try.prog 39 = none := by kernel_rfl
theorem ty40 : tyI Try.prog 40 = some ⟨false, 1, [.nilFunc], 8⟩ := by kernel_rfl
theorem el40 : elemI Try.prog 40 = none := by kernel_rfl
theorem ty41 : tyI Try.prog 41 = some ⟨false, 1, [(.slice none 0 0)], 24⟩ := by kernel_rfl
theorem el41 : elemI Try.prog 41 = some 32 := by kernel_rfl
theorem el42 : elemI Try.prog 42 = none := by kernel_rfl
theorem ty43 : tyI Try.prog 43 = some ⟨false, 1, [.nilFunc], 8⟩ := by kernel_rfl
theorem el43 : elemI Try.prog 43 = none := by kernel_rfl
theorem ty44 : tyI Try.prog 44 = some ⟨false, 1, [.nilFunc], 8⟩ := by kernel_rfl
theorem el44 : elemI Try.prog 44 = none := by kernel_rfl
theorem ty45 : tyI Try.prog 45 = some ⟨false, 1, [.nilFunc], 8⟩ := by kernel_rfl
theorem el45 : elemI Try.prog 45 = none := by kernel_rfl
theorem ty46 : tyI Try.prog 46 = some ⟨false, 1, [.nilFunc], 8⟩ := by kernel_rfl
theorem el46 : elemI Try.prog 46 = none := by kernel_rfl
theorem ty47 : tyI Try.prog 47 = some ⟨true, 4, [(.int .i64 0), (.int .i64 0), (.int .i64 0), (.bool false)], 32⟩ := by kernel_rfl
theorem el47 : elemI Try.prog 47 = none := by kernel_rfl
theorem eq47 : eqTy Try.prog 47 = some (.st [(0, 1, .it), (1, 1, .it), (2, 1, .it), (3, 1, .bl)]) := by kernel_rfl
theorem pl47 : placesI Try.prog 47 = some [(0, 1), (1, 1), (2, 1), (3, 1)] := by kernel_rfl
theorem fi47_0 : fieldI Try.prog 47 0 = some (0, 1, false) := by kernel_rfl
theorem fi47_1 : fieldI Try.prog 47 1 = some (1, 1, false) := by kernel_rfl
theorem fi47_2 : fieldI Try.prog 47 2 = some (2, 1, false) := by kernel_rfl
theorem fi47_3 : fieldI Try.prog 47 3 = some (3, 1, false) := by kernel_rfl
theorem ty48 : tyI Try.prog 48 = some ⟨true, 4, [(.int .i64 0), (.int .i64 0), (.int .i64 0), (.bool false)], 32⟩ := by kernel_rfl
theorem el48 : elemI Try.prog 48 = none := by kernel_rfl
theorem eq48 : eqTy Try.prog 48 = some (.st [(0, 1, .it), (1, 1, .it), (2, 1, .it), (3, 1, .bl)]) := by kernel_rfl
theorem pl48 : placesI Try.prog 48 = some [(0, 1), (1, 1), (2, 1), (3, 1)] := by kernel_rfl
theorem fi48_0 : fieldI Try.prog 48 0 = some (0, 1, false) := by kernel_rfl
theorem fi48_1 : fieldI Try.prog 48 1 = some (1, 1, false) := by kernel_rfl
theorem fi48_2 : fieldI Try.prog 48 2 = some (2, 1, false) := by kernel_rfl
theorem fi48_3 : fieldI Try.prog 48 3 = some (3, 1, false) := by kernel_rfl
theorem el49 : elemI Try.prog 49 = none := by kernel_rfl
theorem ty50 : tyI Try.prog 50 = some ⟨false, 1, [.nilFunc], 8⟩ := by kernel_rfl
theorem el50 : elemI Try.prog 50 = none := by kernel_rfl
theorem ty51 : tyI Try.prog 51 = some ⟨false, 1, [.nilFunc], 8⟩ := by kernel_rfl
theorem el51 : elemI Try.prog 51 = none := by kernel_rfl
theorem el52 : elemI Try.prog 52 = none := by kernel_rfl
theorem ty53 : tyI Try.prog 53 = some ⟨false, 1, [.nilFunc], 8⟩ := by kernel_rfl
theorem el53 : elemI Try.prog 53 = none := by kernel_rfl
theorem ty54 : tyI Try.prog 54 = some ⟨false, 1, [.nilFunc], 8⟩ := by kernel_rfl
theorem el54 : elemI Try.prog 54 = none := by kernel_rfl
theorem ty55 : tyI Try.prog 55 = some ⟨true, 2, [(.slice none 0 0), (.slice none 0 0)], 48⟩ := by kernel_rfl
theorem el55 : elemI Try.prog 55 = none := by kernel_rfl
theorem ar55 : arrI Try.prog 55 = some (2, 32) := by kernel_rfl
theorem pl55 : placesI Try.prog 55 = some [(0, 1), (1, 1)] := by kernel_rfl
theorem ty56 : tyI Try.prog 56 = some ⟨false, 1, [.nilFunc], 8⟩ := by kernel_rfl
theorem el56 : elemI Try.prog 56 = none := by kernel_rfl
theorem el57 : elemI Try.prog 57 = none := by kernel_rfl
theorem ty58 : tyI Try.prog 58 = some ⟨false, 1, [.nilFunc], 8⟩ := by kernel_rfl
theorem el58 : elemI Try.prog 58 = none := by kernel_rfl
theorem ty59 : tyI Try.prog 59 = some ⟨false, 1, [.nilFunc], 8⟩ := by kernel_rfl
theorem el59 : elemI Try.prog 59 = none := by kernel_rfl
theorem ty60 : tyI Try.prog 60 = some ⟨false, 1, [.nilFunc], 8⟩ := by kernel_rfl
theorem el60 : elemI Try.prog 60 = none := by kernel_rfl
theorem el61 : elemI Try.prog 61 = none := by kernel_rfl
theorem ty62 : tyI Try.prog 62 = some ⟨false, 1, [.nilFunc], 8⟩ := by kernel_rfl
theorem el62 : elemI Try.prog 62 = none := by kernel_rfl
theorem ty63 : tyI Try.prog 63 = some ⟨false, 1, [.nilFunc], 8⟩ := by kernel_rfl
theorem el63 : elemI Try.prog 63 = none := by kernel_rfl
theorem ty64 : tyI Try.prog 64 = some ⟨false, 1, [.nilFunc], 8⟩ := by kernel_rfl
theorem el64 : elemI Try.prog 64 = none := by kernel_rfl
theorem ty65 : tyI Try.prog 65 = some ⟨false, 1, [(.slice none 0 0)], 24⟩ := by kernel_rfl
theorem el65 : elemI Try.prog 65 = some 22 := by kernel_rfl
theorem el66 : elemI Try.prog 66 = none := by kernel_rfl
theorem ty67 : tyI Try.prog 67 = some ⟨false, 1, [.nilFunc], 8⟩ := by kernel_rfl
theorem el67 : elemI Try.prog 67 = none := by kernel_rfl
theorem ty68 : tyI Try.prog 68 = some ⟨false, 1, [.nilFunc], 8⟩ := by kernel_rfl
theorem el68 : elemI Try.prog 68 = none := by kernel_rfl
theorem ty69 : tyI Try.prog 69 = some ⟨false, 1, [.nilFunc], 8⟩ := by kernel_rfl
theorem el69 : elemI Try.prog 69 = none := by kernel_rfl
theorem ty70 : tyI Try.prog 70 = some ⟨false, 1, [.nilFunc], 8⟩ := by kernel_rfl
theorem el70 : elemI Try.prog 70 = none := by kernel_rfl
theorem ty71 : tyI Try.prog 71 = some ⟨true, 3, [(.int .i64 0), (.int .i64 0), (.int .i64 0)], 24⟩ := by kernel_rfl
theorem el71 : elemI Try.prog 71 = none := by kernel_rfl
theorem eq71 : eqTy Try.prog 71 = some (.st [(0, 1, .it), (1, 1, .it), (2, 1, .it)]) := by kernel_rfl
theorem pl71 : placesI Try.prog 71 = some [(0, 1), (1, 1), (2, 1)] := by kernel_rfl
theorem fi71_0 : fieldI Try.prog 71 0 = some (0, 1, false) := by kernel_rfl
theorem fi71_1 : fieldI Try.prog 71 1 = some (1, 1, false) := by kernel_rfl
theorem fi71_2 : fieldI Try.prog 71 2 = some (2, 1, false) := by kernel_rfl
theorem ty72 : tyI Try.prog 72 = some ⟨true, 3, [(.int .i64 0), (.int .i64 0), (.int .i64 0)], 24⟩ := by kernel_rfl
theorem el72 : elemI Try.prog 72 = none := by kernel_rfl
theorem eq72 : eqTy Try.prog 72 = some (.st [(0, 1, .it), (1, 1, .it), (2, 1, .it)]) := by kernel_rfl
theorem pl72 : placesI Try.prog 72 = some [(0, 1), (1, 1), (2, 1)] := by kernel_rfl
theorem fi72_0 : fieldI Try.prog 72 0 = some (0, 1, false) := by kernel_rfl
theorem fi72_1 : fieldI Try.prog 72 1 = some (1, 1, false) := by kernel_rfl
theorem fi72_2 : fieldI Try.prog 72 2 = some (2, 1, false) := by kernel_rfl
theorem ty73 : tyI Try.prog 73 = some ⟨false, 1, [(.slice none 0 0)], 24⟩ := by kernel_rfl
theorem el73 : elemI Try.prog 73 = some 85 := by kernel_rfl
theorem ty74 : tyI Try.prog 74 = some ⟨true, 2, [(.slice none 0 0), (.slice none 0 0)], 48⟩ := by kernel_rfl
theorem el74 : elemI Try.prog 74 = none := by kernel_rfl
theorem pl74 : placesI Try.prog 74 = some [(0, 1), (1, 1)] := by kernel_rfl
theorem fi74_0 : fieldI Try.prog 74 0 = some (0, 1, false) := by kernel_rfl
theorem fi74_1 : fieldI Try.prog 74 1 = some (1, 1, false) := by kernel_rfl
theorem ty75 : tyI Try.prog 75 = some ⟨true, 2, [(.slice none 0 0), (.slice none 0 0)], 48⟩ := by kernel_rfl
theorem el75 : elemI Try.prog 75 = none := by kernel_rfl
theorem pl75 : placesI Try.prog 75 = some [(0, 1), (1, 1)] := by kernel_rfl
theorem fi75_0 : fieldI Try.prog 75 0 = some (0, 1, false) := by kernel_rfl
theorem fi75_1 : fieldI Try.prog 75 1 = some (1, 1, false) := by kernel_rfl
theorem ty76 : tyI Try.prog 76 = some ⟨false, 1, [.nilFunc], 8⟩ := by kernel_rfl
theorem el76 : elemI Try.prog 76 = none := by kernel_rfl
theorem el77 : elemI Try.prog 77 = none := by kernel_rfl
theorem ty78 : tyI Try.prog 78 = some ⟨false, 1, [.nilFunc], 8⟩ := by kernel_rfl
theorem el78 : elemI Try.prog 78 = none := by kernel_rfl
theorem ty79 : tyI Try.prog 79 = some ⟨false, 1, [.nilFunc], 8⟩ := by kernel_rfl
theorem el79 : elemI Try.prog 79 = none := by kernel_rfl
theorem ty80 : tyI Try.prog 80 = some ⟨true, 2, [(.int .i64 0), (.int .i64 0)], 16⟩ := by kernel_rfl
theorem el80 : elemI Try.prog 80 = none := by kernel_rfl
theorem eq80 : eqTy Try.prog 80 = some (.st [(0, 1, .it), (1, 1, .it)]) := by kernel_rfl
theorem pl80 : placesI Try.prog 80 = some [(0, 1), (1, 1)] := by kernel_rfl
theorem fi80_0 : fieldI Try.prog 80 0 = some (0, 1, false) := by kernel_rfl
theorem fi80_1 : fieldI Try.prog 80 1 = some (1, 1, false) := by kernel_rfl
theorem ty81 : tyI Try.prog 81 = some ⟨true, 2, [(.int .i64 0), (.int .i64 0)], 16⟩ := by kernel_rfl
theorem el81 : elemI Try.prog 81 = none := by kernel_rfl
theorem eq81 : eqTy Try.prog 81 = some (.st [(0, 1, .it), (1, 1, .it)]) := by kernel_rfl
theorem pl81 : placesI Try.prog 81 = some [(0, 1), (1, 1)] := by kernel_rfl
theorem fi81_0 : fieldI Try.prog 81 0 = some (0, 1, false) := by kernel_rfl
theorem fi81_1 : fieldI Try.prog 81 1 = some (1, 1, false) := by kernel_rfl
theorem el82 : elemI Try.prog 82 = none := by kernel_rfl
theorem ty83 : tyI Try.prog 83 = some ⟨false, 1, [.nilFunc], 8⟩ := by kernel_rfl
theorem el83 : elemI Try.prog 83 = none := by kernel_rfl
theorem ty84 : tyI Try.prog 84 = some ⟨true, 4, [(.int .i64 0), (.int .i64 0), (.int .i64 0), (.int .i64 0)], 32⟩ := by kernel_rfl
theorem el84 : elemI Try.prog 84 = none := by kernel_rfl
theorem eq84 : eqTy Try.prog 84 = some (.st [(0, 2, (.st [(0, 1, .it), (1, 1, .it)])), (2, 2, (.st [(0, 1, .it), (1, 1, .it)]))]) := by kernel_rfl
theorem pl84 : placesI Try.prog 84 = some [(0, 2), (2, 2)] := by kernel_rfl
theorem fi84_0 : fieldI Try.prog 84 0 = some (0, 2, true) := by kernel_rfl
theorem fi84_1 : fieldI Try.prog 84 1 = some (2, 2, true) := by kernel_rfl
theorem ty85 : tyI Try.prog 85 = some ⟨true, 4, [(.int .i64 0), (.int .i64 0), (.int .i64 0), (.int .i64 0)], 32⟩ := by kernel_rfl
theorem el85 : elemI Try.prog 85 = none := by kernel_rfl
theorem eq85 : eqTy Try.prog 85 = some (.st [(0, 2, (.st [(0, 1, .it), (1, 1, .it)])), (2, 2, (.st [(0, 1, .it), (1, 1, .it)]))]) := by kernel_rfl
theorem pl85 : placesI Try.prog 85 = some [(0, 2), (2, 2)] := by kernel_rfl
theorem fi85_0 : fieldI Try.prog 85 0 = some (0, 2, true) := by kernel_rfl
theorem fi85_1 : fieldI Try.prog 85 1 = some (2, 2, true) := by kernel_rfl
theorem ty86 : tyI Try.prog 86 = some ⟨false, 1, [.nilFunc], 8⟩ := by kernel_rfl
theorem el86 : elemI Try.prog 86 = none := by kernel_rfl
theorem ty87 : tyI Try.prog 87 = some ⟨false, 1, [.nilFunc], 8⟩ := by kernel_rfl
theorem el87 : elemI Try.prog 87 = none := by kernel_rfl
theorem ty88 : tyI Try.prog 88 = some ⟨false, 1, [.nilFunc], 8⟩ := by kernel_rfl
theorem el88 : elemI Try.prog 88 = none := by kernel_rfl
theorem ty89 : tyI Try.prog 89 = some ⟨false, 1, [(.slice none 0 0)], 24⟩ := by kernel_rfl
theorem el89 : elemI Try.prog 89 = some 116 := by kernel_rfl
theorem ty90 : tyI Try.prog 90 = some ⟨true, 3, [(.int .u8 0), (.int .u8 0), (.int .u8 0)], 3⟩ := by kernel_rfl
theorem el90 : elemI Try.prog 90 = none := by kernel_rfl
theorem ar90 : arrI Try.prog 90 = some (3, 5) := by kernel_rfl
theorem pl90 : placesI Try.prog 90 = some [(0, 1), (1, 1), (2, 1)] := by kernel_rfl
theorem ty91 : tyI Try.prog 91 = some ⟨true, 6, [(.int .u8 0), (.int .u8 0), (.int .u8 0), (.int .u8 0), (.int .u8 0), (.int .u8 0)], 6⟩ := by kernel_rfl
theorem el91 : elemI Try.prog 91 = none := by kernel_rfl
theorem ar91 : arrI Try.prog 91 = some (2, 90) := by kernel_rfl
theorem pl91 : placesI Try.prog 91 = some [(0, 3), (3, 3)] := by kernel_rfl
theorem ty92 : tyI Try.prog 92 = some ⟨true, 12, [(.int .u8 0), (.slice none 0 0), (.int .u8 0), (.int .u8 0), (.int .u8 0), (.int .u8 0), (.int .u8 0), (.int .u8 0), (.int .u8 0), (.int .u8 0), (.int .u8 0), (.int .u8 0)], 48⟩ := by kernel_rfl
theorem el92 : elemI Try.prog 92 = none := by kernel_rfl
theorem pl92 : placesI Try.prog 92 = some [(0, 1), (1, 1), (2, 3), (5, 6), (11, 1)] := by kernel_rfl
theorem fi92_0 : fieldI Try.prog 92 0 = some (0, 1, false) := by kernel_rfl
theorem fi92_1 : fieldI Try.prog 92 1 = some (1, 1, false) := by kernel_rfl
theorem fi92_2 : fieldI Try.prog 92 2 = some (2, 3, true) := by kernel_rfl
theorem fi92_3 : fieldI Try.prog 92 3 = some (5, 6, true) := by kernel_rfl
theorem fi92_4 : fieldI Try.prog 92 4 = some (11, 1, false) := by kernel_rfl
theorem ty93 : tyI Try.prog 93 = some ⟨true, 12, [(.int .u8 0), (.slice none 0 0), (.int .u8 0), (.int .u8 0), (.int .u8 0), (.int .u8 0), (.int .u8 0), (.int .u8 0), (.int .u8 0), (.int .u8 0), (.int .u8 0), (.int .u8 0)], 48⟩ := by kernel_rfl
theorem el93 : elemI Try.prog 93 = none := by kernel_rfl
theorem pl93 : placesI Try.prog 93 = some [(0, 1), (1, 1), (2, 3), (5, 6), (11, 1)] := by kernel_rfl
theorem fi93_0 : fieldI Try.prog 93 0 = some (0, 1, false) := by kernel_rfl
theorem fi93_1 : fieldI Try.prog 93 1 = some (1, 1, false) := by kernel_rfl
theorem fi93_2 : fieldI Try.prog 93 2 = some (2, 3, true) := by kernel_rfl
theorem fi93_3 : fieldI Try.prog 93 3 = some (5, 6, true) := by kernel_rfl
theorem fi93_4 : fieldI Try.prog 93 4 = some (11, 1, false) := by kernel_rfl
theorem ty94 : tyI Try.prog 94 = some ⟨false, 1, [(.slice none 0 0)], 24⟩ := by kernel_rfl
theorem el94 : elemI Try.prog 94 = some 90 := by kernel_rfl
theorem ty95 : tyI Try.prog 95 = some ⟨false, 1, [.nilFunc], 8⟩ := by kernel_rfl
theorem el95 : elemI Try.prog 95 = none := by kernel_rfl
theorem ty96 : tyI Try.prog 96 = some ⟨false, 1, [.nilFunc], 8⟩ := by kernel_rfl
theorem el96 : elemI Try.prog 96 = none := by kernel_rfl
theorem ty97 : tyI Try.prog 97 = some ⟨false, 1, [.nilFunc], 8⟩ := by kernel_rfl
theorem el97 : elemI Try.prog 97 = none := by kernel_rfl
theorem ty98 : tyI Try.prog 98 = some ⟨false, 1, [.nilFunc], 8⟩ := by kernel_rfl
theorem el98 : elemI Try.prog 98 = none := by kernel_rfl
theorem ty99 : tyI Try.prog 99 = some ⟨false, 1, [.nilFunc], 8⟩ := by kernel_rfl
theorem el99 : elemI Try.prog 99 = none := by kernel_rfl
theorem ty100 : tyI Try.prog 100 = some ⟨false, 1, [.nilFunc], 8⟩ := by kernel_rfl
theorem el100 : elemI Try.prog 100 = none := by kernel_rfl
theorem ty101 : tyI Try.prog 101 = some ⟨false, 1, [.nilFunc], 8⟩ := by kernel_rfl
theorem el101 : elemI Try.prog 101 = none := by kernel_rfl
theorem ty102 : tyI Try.prog 102 = some ⟨false, 1, [(.int .i64 0)], 8⟩ := by kernel_rfl
theorem el102 : elemI Try.prog 102 = none := by kernel_rfl
theorem it102 : intI Try.prog 102 = some .i64 := by kernel_rfl
theorem ty103 : tyI Try.prog 103 = some ⟨true, 3, [(.int .i64 0), (.int .i64 0), (.int .i64 0)], 24⟩ := by kernel_rfl
theorem el103 : elemI Try.prog 103 = none := by kernel_rfl
theorem eq103 : eqTy Try.prog 103 = some (.st [(0, 1, .it), (1, 1, .it), (2, 1, .it)]) := by kernel_rfl
theorem pl103 : placesI Try.prog 103 = some [(0, 1), (1, 1), (2, 1)] := by kernel_rfl
theorem fi103_0 : fieldI Try.prog 103 0 = some (0, 1, false) := by kernel_rfl
theorem fi103_1 : fieldI Try.prog 103 1 = some (1, 1, false) := by kernel_rfl
theorem fi103_2 : fieldI Try.prog 103 2 = some (2, 1, false) := by kernel_rfl
theorem ty104 : tyI Try.prog 104 = some ⟨true, 3, [(.int .i64 0), (.int .i64 0), (.int .i64 0)], 24⟩ := by kernel_rfl
theorem el104 : elemI Try.prog 104 = none := by kernel_rfl
theorem eq104 : eqTy Try.prog 104 = some (.st [(0, 1, .it), (1, 1, .it), (2, 1, .it)]) := by kernel_rfl
theorem pl104 : placesI Try.prog 104 = some [(0, 1), (1, 1), (2, 1)] := by kernel_rfl
theorem fi104_0 : fieldI Try.prog 104 0 = some (0, 1, false) := by kernel_rfl
theorem fi104_1 : fieldI Try.prog 104 1 = some (1, 1, false) := by kernel_rfl
theorem fi104_2 : fieldI Try.prog 104 2 = some (2, 1, false) := by kernel_rfl
theorem ty105 : tyI Try.prog 105 = some ⟨false, 1, [.nilFunc], 8⟩ := by kernel_rfl
theorem el105 : elemI Try.prog 105 = none := by kernel_rfl
theorem ty106 : tyI Try.prog 106 = some ⟨false, 1, [.nilFunc], 8⟩ := by kernel_rfl
theorem el106 : elemI Try.prog 106 = none := by kernel_rfl
theorem ty107 : tyI Try.prog 107 = some ⟨false, 1, [(.slice none 0 0)], 24⟩ := by kernel_rfl
theorem el107 : elemI Try.prog 107 = some 91 := by kernel_rfl
theorem el108 : elemI Try.prog 108 = none := by kernel_rfl
theorem ty109 : tyI Try.prog 109 = some ⟨false, 1, [.nilFunc], 8⟩ := by kernel_rfl
theorem el109 : elemI Try.prog 109 = none := by kernel_rfl
theorem ty110 : tyI Try.prog 110 = some ⟨false, 1, [.nilFunc], 8⟩ := by kernel_rfl
theorem el110 : elemI Try.prog 110 = none := by kernel_rfl
theorem ty111 : tyI Try.prog 111 = some ⟨false, 1, [.nilFunc], 8⟩ := by kernel_rfl
theorem el111 : elemI Try.prog 111 = none := by kernel_rfl
theorem ty112 : tyI Try.prog 112 = some ⟨false, 1, [.nilFunc], 8⟩ := by kernel_rfl
theorem el112 : elemI Try.prog 112 = none := by kernel_rfl
theorem ty113 : tyI Try.prog 113 = some ⟨false, 1, [.nilFunc], 8⟩ := by kernel_rfl
theorem el113 : elemI Try.prog 113 = none := by kernel_rfl
theorem ty114 : tyI Try.prog 114 = some ⟨false, 1, [(.int .u64 0)], 8⟩ := by kernel_rfl
theorem el114 : elemI Try.prog 114 = none := by kernel_rfl
theorem it114 : intI Try.prog 114 = some .u64 := by kernel_rfl
theorem ty115 : tyI Try.prog 115 = some ⟨false, 1, [.nilFunc], 8⟩ := by kernel_rfl
theorem el115 : elemI Try.prog 115 = none := by kernel_rfl
theorem ty116 : tyI Try.prog 116 = some ⟨false, 1, [(.int .u16 0)], 2⟩ := by kernel_rfl
theorem el116 : elemI Try.prog 116 = none := by kernel_rfl
theorem it116 : intI Try.prog 116 = some .u16 := by kernel_rfl
theorem ty117 : tyI Try.prog 117 = some ⟨true, 2, [(.int .u8 0), (.int .u8 0)], 2⟩ := by kernel_rfl
theorem el117 : elemI Try.prog 117 = none := by kernel_rfl
theorem ar117 : arrI Try.prog 117 = some (2, 5) := by kernel_rfl
theorem pl117 : placesI Try.prog 117 = some [(0, 1), (1, 1)] := by kernel_rfl
theorem ty118 : tyI Try.prog 118 = some ⟨false, 1, [(.slice none 0 0)], 24⟩ := by kernel_rfl
theorem el118 : elemI Try.prog 118 = some 167 := by kernel_rfl
theorem ty119 : tyI Try.prog 119 = some ⟨true, 5, [(.int .u16 0), (.int .u8 0), (.int .u8 0), (.slice none 0 0), (.slice none 0 0)], 56⟩ := by kernel_rfl
theorem el119 : elemI Try.prog 119 = none := by kernel_rfl
theorem pl119 : placesI Try.prog 119 = some [(0, 1), (1, 2), (3, 1), (4, 1)] := by kernel_rfl
theorem fi119_0 : fieldI Try.prog 119 0 = some (0, 1, false) := by kernel_rfl
theorem fi119_1 : fieldI Try.prog 119 1 = some (1, 2, true) := by kernel_rfl
theorem fi119_2 : fieldI Try.prog 119 2 = some (3, 1, false) := by kernel_rfl
theorem fi119_3 : fieldI Try.prog 119 3 = some (4, 1, false) := by kernel_rfl
theorem ty120 : tyI Try.prog 120 = some ⟨true, 5, [(.int .u16 0), (.int .u8 0), (.int .u8 0), (.slice none 0 0), (.slice none 0 0)], 56⟩ := by kernel_rfl
theorem el120 : elemI Try.prog 120 = none := by kernel_rfl
theorem pl120 : placesI Try.prog 120 = some [(0, 1), (1, 2), (3, 1), (4, 1)] := by kernel_rfl
theorem fi120_0 : fieldI Try.prog 120 0 = some (0, 1, false) := by kernel_rfl
theorem fi120_1 : fieldI Try.prog 120 1 = some (1, 2, true) := by kernel_rfl
theorem fi120_2 : fieldI Try.prog 120 2 = some (3, 1, false) := by kernel_rfl
theorem fi120_3 : fieldI Try.prog 120 3 = some (4, 1, false) := by kernel_rfl
theorem ty121 : tyI Try.prog 121 = some ⟨false, 1, [(.slice none 0 0)], 24⟩ := by kernel_rfl
theorem el121 : elemI Try.prog 121 = some 127 := by kernel_rfl
theorem el122 : elemI Try.prog 122 = none := by kernel_rfl
theorem ty123 : tyI Try.prog 123 = some ⟨false, 1, [.nilFunc], 8⟩ := by kernel_rfl
theorem el123 : elemI Try.prog 123 = none := by kernel_rfl
theorem ty124 : tyI Try.prog 124 = some ⟨false, 1, [(.slice none 0 0)], 24⟩ := by kernel_rfl
theorem el124 : elemI Try.prog 124 = some 4 := by kernel_rfl
theorem el125 : elemI Try.prog 125 = none := by kernel_rfl
theorem ty126 : tyI Try.prog 126 = some ⟨false, 1, [.nilFunc], 8⟩ := by kernel_rfl
theorem el126 : elemI Try.prog 126 = none := by kernel_rfl
theorem ty127 : tyI Try.prog 127 = some ⟨true, 2, [(.int .i64 0), (.int .i64 0)], 16⟩ := by kernel_rfl
theorem el127 : elemI Try.prog 127 = none := by kernel_rfl
theorem ar127 : arrI Try.prog 127 = some (2, 3) := by kernel_rfl
theorem pl127 : placesI Try.prog 127 = some [(0, 1), (1, 1)] := by kernel_rfl
theorem ty128 : tyI Try.prog 128 = some ⟨false, 1, [.nilFunc], 8⟩ := by kernel_rfl
theorem el128 : elemI Try.prog 128 = none := by kernel_rfl
theorem ty129 : tyI Try.prog 129 = some ⟨false, 1, [.nilFunc], 8⟩ := by kernel_rfl
theorem el129 : elemI Try.prog 129 = none := by kernel_rfl
theorem ty130 : tyI Try.prog 130 = some ⟨false, 1, [.nilFunc], 8⟩ := by kernel_rfl
theorem el130 : elemI Try.prog 130 = none := by kernel_rfl
theorem ty131 : tyI Try.prog 131 = some ⟨false, 1, [.nilFunc], 8⟩ := by kernel_rfl
theorem el131 : elemI Try.prog 131 = none := by kernel_rfl
theorem ty132 : tyI Try.prog 132 = some ⟨false, 1, [.nilFunc], 8⟩ := by kernel_rfl
theorem el132 : elemI Try.prog 132 = none := by kernel_rfl
theorem ty133 : tyI Try.prog 133 = some ⟨false, 1, [.nilFunc], 8⟩ := by kernel_rfl
theorem el133 : elemI Try.prog 133 = none := by kernel_rfl
theorem ty134 : tyI Try.prog 134 = some ⟨true, 2, [(.int .i64 0), (.slice none 0 0)], 32⟩ := by kernel_rfl
theorem el134 : elemI Try.prog 134 = none := by kernel_rfl
theorem pl134 : placesI Try.prog 134 = some [(0, 2)] := by kernel_rfl
theorem fi134_0 : fieldI Try.prog 134 0 = some (0, 2, true) := by kernel_rfl
theorem ty135 : tyI Try.prog 135 = some ⟨true, 2, [(.int .i64 0), (.slice none 0 0)], 32⟩ := by kernel_rfl
theorem el135 : elemI Try.prog 135 = none := by kernel_rfl
theorem pl135 : placesI Try.prog 135 = some [(0, 2)] := by kernel_rfl
theorem fi135_0 : fieldI Try.prog 135 0 = some (0, 2, true) := by kernel_rfl
theorem el136 : elemI Try.prog 136 = none := by kernel_rfl
theorem ty137 : tyI Try.prog 137 = some ⟨false, 1, [.nilFunc], 8⟩ := by kernel_rfl
theorem el137 : elemI Try.prog 137 = none := by kernel_rfl
theorem ty138 : tyI Try.prog 138 = some ⟨false, 1, [.nilFunc], 8⟩ := by kernel_rfl
theorem el138 : elemI Try.prog 138 = none := by kernel_rfl
theorem ty139 : tyI Try.prog 139 = some ⟨false, 1, [.nilFunc], 8⟩ := by kernel_rfl
theorem el139 : elemI Try.prog 139 = none := by kernel_rfl
theorem ty140 : tyI Try.prog 140 = some ⟨false, 1, [.nilFunc], 8⟩ := by kernel_rfl
theorem el140 : elemI Try.prog 140 = none := by kernel_rfl
theorem ty141 : tyI Try.prog 141 = some ⟨false, 1, [.nilFunc], 8⟩ := by kernel_rfl
theorem el141 : elemI Try.prog 141 = none := by kernel_rfl
theorem ty142 : tyI Try.prog 142 = some ⟨false, 1, [.nilFunc], 8⟩ := by kernel_rfl
theorem el142 : elemI Try.prog 142 = none := by kernel_rfl
theorem ty143 : tyI Try.prog 143 = some ⟨false, 1, [.nilFunc], 8⟩ := by kernel_rfl
theorem el143 : elemI Try.prog 143 = none := by kernel_rfl
theorem ty144 : tyI Try.prog 144 = some ⟨false, 1, [.nilFunc], 8⟩ := by kernel_rfl
theorem el144 : elemI Try.prog 144 = none := by kernel_rfl
theorem ty145 : tyI Try.prog 145 = some ⟨false, 1, [.nilFunc], 8⟩ := by kernel_rfl
theorem el145 : elemI Try.prog 145 = none := by kernel_rfl
theorem ty146 : tyI Try.prog 146 = some ⟨false, 1, [.nilFunc], 8⟩ := by kernel_rfl
theorem el146 : elemI Try.prog 146 = none := by kernel_rfl
theorem ty147 : tyI Try.prog 147 = some ⟨false, 1, [.nilFunc], 8⟩ := by kernel_rfl
theorem el147 : elemI Try.prog 147 = none := by kernel_rfl
theorem ty148 : tyI Try.prog 148 = some ⟨true, 3, [(.int .i64 0), (.int .i64 0), (.int .i64 0)], 24⟩ := by kernel_rfl
theorem el148 : elemI Try.prog 148 = none := by kernel_rfl
theorem eq148 : eqTy Try.prog 148 = some (.st [(0, 1, .it), (1, 1, .it), (2, 1, .it)]) := by kernel_rfl
theorem pl148 : placesI Try.prog 148 = some [(0, 1), (1, 1), (2, 1)] := by kernel_rfl
theorem fi148_0 : fieldI Try.prog 148 0 = some (0, 1, false) := by kernel_rfl
theorem fi148_1 : fieldI Try.prog 148 1 = some (1, 1, false) := by kernel_rfl
theorem fi148_2 : fieldI Try.prog 148 2 = some (2, 1, false) := by kernel_rfl
theorem ty149 : tyI Try.prog 149 = some ⟨true, 3, [(.int .i64 0), (.int .i64 0), (.int .i64 0)], 24⟩ := by kernel_rfl
theorem el149 : elemI Try.prog 149 = none := by kernel_rfl
theorem eq149 : eqTy Try.prog 149 = some (.st [(0, 1, .it), (1, 1, .it), (2, 1, .it)]) := by kernel_rfl
theorem pl149 : placesI Try.prog 149 = some [(0, 1), (1, 1), (2, 1)] := by kernel_rfl
theorem fi149_0 : fieldI Try.prog 149 0 = some (0, 1, false) := by kernel_rfl
theorem fi149_1 : fieldI Try.prog 149 1 = some (1, 1, false) := by kernel_rfl
theorem fi149_2 : fieldI Try.prog 149 2 = some (2, 1, false) := by kernel_rfl
theorem ty150 : tyI Try.prog 150 = some ⟨false, 1, [.nilFunc], 8⟩ := by kernel_rfl
theorem el150 : elemI Try.prog 150 = none := by kernel_rfl
theorem el151 : elemI Try.prog 151 = none := by kernel_rfl
theorem ty152 : tyI Try.prog 152 = some ⟨false, 1, [.nilFunc], 8⟩ := by kernel_rfl
theorem el152 : elemI Try.prog 152 = none := by kernel_rfl
theorem ty153 : tyI Try.prog 153 = some ⟨false, 1, [.nilFunc], 8⟩ := by kernel_rfl
theorem el153 : elemI Try.prog 153 = none := by kernel_rfl
theorem ty154 : tyI Try.prog 154 = some ⟨false, 1, [.nilFunc], 8⟩ := by kernel_rfl
theorem el154 : elemI Try.prog 154 = none := by kernel_rfl
theorem ty155 : tyI Try.prog 155 = some ⟨false, 1, [.nilFunc], 8⟩ := by kernel_rfl
theorem el155 : elemI Try.prog 155 = none := by kernel_rfl
theorem ty156 : tyI Try.prog 156 = some ⟨false, 1, [.nilFunc], 8⟩ := by kernel_rfl
theorem el156 : elemI Try.prog 156 = none := by kernel_rfl
theorem ty157 : tyI Try.prog 157 = some ⟨false, 1, [.nilFunc], 8⟩ := by kernel_rfl
theorem el157 : elemI Try.prog 157 = none := by kernel_rfl
theorem ty158 : tyI Try.prog 158 = some ⟨false, 1, [.nilFunc], 8⟩ := by kernel_rfl
theorem el158 : elemI Try.prog 158 = none := by kernel_rfl
theorem ty159 : tyI Try.prog 159 = some ⟨false, 1, [.nilFunc], 8⟩ := by kernel_rfl
theorem el159 : elemI Try.prog 159 = none := by kernel_rfl
theorem ty160 : tyI Try.prog 160 = some ⟨true, 3, [(.int .i64 0), (.int .i64 0), (.int .i64 0)], 24⟩ := by kernel_rfl
theorem el160 : elemI Try.prog 160 = none := by kernel_rfl
theorem eq160 : eqTy Try.prog 160 = some (.st [(0, 3, (.st [(0, 1, .it), (1, 1, .it), (2, 1, .it)]))]) := by kernel_rfl
theorem pl160 : placesI Try.prog 160 = some [(0, 3)] := by kernel_rfl
theorem fi160_0 : fieldI Try.prog 160 0 = some (0, 3, true) := by kernel_rfl
theorem ty161 : tyI Try.prog 161 = some ⟨true, 3, [(.int .i64 0), (.int .i64 0), (.int .i64 0)], 24⟩ := by kernel_rfl
theorem el161 : elemI Try.prog 161 = none := by kernel_rfl
theorem eq161 : eqTy Try.prog 161 = some (.st [(0, 3, (.st [(0, 1, .it), (1, 1, .it), (2, 1, .it)]))]) := by kernel_rfl
theorem pl161 : placesI Try.prog 161 = some [(0, 3)] := by kernel_rfl
theorem fi161_0 : fieldI Try.prog 161 0 = some (0, 3, true) := by kernel_rfl
theorem ty162 : tyI Try.prog 162 = some ⟨false, 1, [.nilFunc], 8⟩ := by kernel_rfl
theorem el162 : elemI Try.prog 162 = none := by kernel_rfl
theorem ty163 : tyI Try.prog 163 = some ⟨false, 1, [.nilFunc], 8⟩ := by kernel_rfl
theorem el163 : elemI Try.prog 163 = none := by kernel_rfl
theorem ty164 : tyI Try.prog 164 = some ⟨false, 1, [.nilFunc], 8⟩ := by kernel_rfl
theorem el164 : elemI Try.prog 164 = none := by kernel_rfl
theorem ty165 : tyI Try.prog 165 = some ⟨false, 1, [.nilFunc], 8⟩ := by kernel_rfl
theorem el165 : elemI Try.prog 165 = none := by kernel_rfl
theorem ty166 : tyI Try.prog 166 = some ⟨false, 1, [.nilFunc], 8⟩ := by kernel_rfl
theorem el166 : elemI Try.prog 166 = none := by kernel_rfl
theorem ty167 : tyI Try.prog 167 = some ⟨true, 6, [(.int .u8 0), (.int .u8 0), (.int .u8 0), (.int .u8 0), (.int .u8 0), (.int .u8 0)], 6⟩ := by kernel_rfl
theorem el167 : elemI Try.prog 167 = none := by kernel_rfl
theorem ar167 : arrI Try.prog 167 = some (6, 5) := by kernel_rfl
theorem pl167 : placesI Try.prog 167 = some [(0, 1), (1, 1), (2, 1), (3, 1), (4, 1), (5, 1)] := by kernel_rfl
theorem ty168 : tyI Try.prog 168 = some ⟨false, 1, [.nilFunc], 8⟩ := by kernel_rfl
theorem el168 : elemI Try.prog 168 = none := by kernel_rfl
theorem ty169 : tyI Try.prog 169 = some ⟨false, 1, [.nilFunc], 8⟩ := by kernel_rfl
theorem el169 : elemI Try.prog 169 = none := by kernel_rfl
theorem ty170 : tyI Try.prog 170 = some ⟨false, 1, [.nilFunc], 8⟩ := by kernel_rfl
theorem el170 : elemI Try.prog 170 = none := by kernel_rfl
theorem ty171 : tyI Try.prog 171 = some ⟨false, 1, [.nilFunc], 8⟩ := by kernel_rfl
theorem el171 : elemI Try.prog 171 = none := by kernel_rfl
theorem ty172 : tyI Try.prog 172 = some ⟨false, 1, [.nilFunc], 8⟩ := by kernel_rfl
theorem el172 : elemI Try.prog 172 = none := by kernel_rfl
theorem ty173 : tyI Try.prog 173 = some ⟨false, 1, [.nilFunc], 8⟩ := by kernel_rfl
theorem el173 : elemI Try.prog 173 = none := by kernel_rfl
theorem ty174 : tyI Try.prog 174 = some ⟨false, 1, [.nilFunc], 8⟩ := by kernel_rfl
theorem el174 : elemI Try.prog 174 = none := by kernel_rfl
theorem ty175 : tyI Try.prog 175 = some ⟨false, 1, [.nilFunc], 8⟩ := by kernel_rfl
theorem el175 : elemI Try.prog 175 = none := by kernel_rfl
theorem ty176 : tyI Try.prog 176 = some ⟨false, 1, [.nilFunc], 8⟩ := by kernel_rfl
theorem el176 : elemI Try.prog 176 = none := by kernel_rfl
theorem ty177 : tyI Try.prog 177 = some ⟨false, 1, [.nilFunc], 8⟩ := by kernel_rfl
theorem el177 : elemI Try.prog 177 = none := by kernel_rfl
theorem ty178 : tyI Try.prog 178 = some ⟨false, 1, [.nilFunc], 8⟩ := by kernel_rfl
theorem el178 : elemI Try.prog 178 = none := by kernel_rfl
theorem ty179 : tyI Try.prog 179 = some ⟨false, 1, [.nilFunc], 8⟩ := by kernel_rfl
theorem el179 : elemI Try.prog 179 = none := by kernel_rfl
theorem ty180 : tyI Try.prog 180 = some ⟨false, 1, [.nilFunc], 8⟩ := by kernel_rfl
theorem el180 : elemI Try.prog 180 = none := by kernel_rfl
theorem ty181 : tyI Try.prog 181 = some ⟨false, 1, [.nilFunc], 8⟩ := by kernel_rfl
theorem el181 : elemI Try.prog 181 = none := by kernel_rfl
theorem ty182 : tyI Try.prog 182 = some ⟨false, 1, [.nilFunc], 8⟩ := by kernel_rfl
theorem el182 : elemI Try.prog 182 = none := by kernel_rfl
theorem ty183 : tyI Try.prog 183 = some ⟨false, 1, [.nilFunc], 8⟩ := by kernel_rfl
theorem el183 : elemI Try.prog 183 = none := by kernel_rfl
theorem ty184 : tyI Try.prog 184 = some ⟨false, 1, [.nilFunc], 8⟩ := by kernel_rfl
theorem el184 : elemI Try.prog 184 = none := by kernel_rfl
theorem ty185 : tyI Try.prog 185 = some ⟨true, 4, [(.pointer none), (.pointer none), (.pointer none), (.string ⟨#[]⟩)], 40⟩ := by kernel_rfl
theorem el185 : elemI Try.prog 185 = none := by kernel_rfl
theorem pl185 : placesI Try.prog 185 = some [(0, 1), (1, 1), (2, 1), (3, 1)] := by kernel_rfl
theorem fi185_0 : fieldI Try.prog 185 0 = some (0, 1, false) := by kernel_rfl
theorem fi185_1 : fieldI Try.prog 185 1 = some (1, 1, false) := by kernel_rfl
theorem fi185_2 : fieldI Try.prog 185 2 = some (2, 1, false) := by kernel_rfl
theorem fi185_3 : fieldI Try.prog 185 3 = some (3, 1, false) := by kernel_rfl
theorem ty186 : tyI Try.prog 186 = some ⟨true, 4, [(.pointer none), (.pointer none), (.pointer none), (.string ⟨#[]⟩)], 40⟩ := by kernel_rfl
theorem el186 : elemI Try.prog 186 = none := by kernel_rfl
theorem pl186 : placesI Try.prog 186 = some [(0, 1), (1, 1), (2, 1), (3, 1)] := by kernel_rfl
theorem fi186_0 : fieldI Try.prog 186 0 = some (0, 1, false) := by kernel_rfl
theorem fi186_1 : fieldI Try.prog 186 1 = some (1, 1, false) := by kernel_rfl
theorem fi186_2 : fieldI Try.prog 186 2 = some (2, 1, false) := by kernel_rfl
theorem fi186_3 : fieldI Try.prog 186 3 = some (3, 1, false) := by kernel_rfl
theorem ty187 : tyI Try.prog 187 = some ⟨true, 0, [], 0⟩ := by kernel_rfl
theorem el187 : elemI Try.prog 187 = none := by kernel_rfl
theorem ar187 : arrI Try.prog 187 = some (0, 16) := by kernel_rfl
theorem pl187 : placesI Try.prog 187 = some [] := by kernel_rfl
theorem ty188 : tyI Try.prog 188 = some ⟨true, 0, [], 0⟩ := by kernel_rfl
theorem el188 : elemI Try.prog 188 = none := by kernel_rfl
theorem pl188 : placesI Try.prog 188 = some [(0, 0)] := by kernel_rfl
theorem ty189 : tyI Try.prog 189 = some ⟨true, 0, [], 0⟩ := by kernel_rfl
theorem el189 : elemI Try.prog 189 = none := by kernel_rfl
theorem pl189 : placesI Try.prog 189 = some [(0, 0)] := by kernel_rfl
theorem ty190 : tyI Try.prog 190 = some ⟨false, 1, [.nilFunc], 8⟩ := by kernel_rfl
theorem el190 : elemI Try.prog 190 = none := by kernel_rfl
theorem ty191 : tyI Try.prog 191 = some ⟨false, 1, [(.int .u32 0)], 4⟩ := by kernel_rfl
theorem el191 : elemI Try.prog 191 = none := by kernel_rfl
theorem it191 : intI Try.prog 191 = some .u32 := by kernel_rfl
theorem ty192 : tyI Try.prog 192 = some ⟨false, 1, [(.int .u8 0)], 1⟩ := by kernel_rfl
theorem el192 : elemI Try.prog 192 = none := by kernel_rfl
theorem it192 : intI Try.prog 192 = some .u8 := by kernel_rfl
theorem ty193 : tyI Try.prog 193 = some ⟨false, 1, [(.int .u8 0)], 1⟩ := by kernel_rfl
theorem el193 : elemI Try.prog 193 = none := by kernel_rfl
theorem it193 : intI Try.prog 193 = some .u8 := by kernel_rfl
theorem ty194 : tyI Try.prog 194 = some ⟨false, 1, [.nilFunc], 8⟩ := by kernel_rfl
theorem el194 : elemI Try.prog 194 = none := by kernel_rfl
theorem ty195 : tyI Try.prog 195 = some ⟨false, 1, [(.pointer none)], 8⟩ := by kernel_rfl
theorem el195 : elemI Try.prog 195 = none := by kernel_rfl
theorem ty196 : tyI Try.prog 196 = some ⟨false, 1, [(.int .i32 0)], 4⟩ := by kernel_rfl
theorem el196 : elemI Try.prog 196 = none := by kernel_rfl
theorem it196 : intI Try.prog 196 = some .i32 := by kernel_rfl
theorem ty197 : tyI Try.prog 197 = some ⟨false, 1, [(.int .i32 0)], 4⟩ := by kernel_rfl
theorem el197 : elemI Try.prog 197 = none := by kernel_rfl
theorem it197 : intI Try.prog 197 = some .i32 := by kernel_rfl
theorem ty198 : tyI Try.prog 198 = some ⟨true, 11, [(.int .u64 0), (.int .u64 0), (.int .u32 0), (.int .u8 0), (.int .u8 0), (.int .u8 0), (.int .u8 0), .nilFunc, (.pointer none), (.int .i32 0), (.int .i32 0)], 48⟩ := by kernel_rfl
theorem el198 : elemI Try.prog 198 = none := by kernel_rfl
theorem pl198 : placesI Try.prog 198 = some [(0, 1), (1, 1), (2, 1), (3, 1), (4, 1), (5, 1), (6, 1), (7, 1), (8, 1), (9, 1), (10, 1)] := by kernel_rfl
theorem fi198_0 : fieldI Try.prog 198 0 = some (0, 1, false) := by kernel_rfl
theorem fi198_1 : fieldI Try.prog 198 1 = some (1, 1, false) := by kernel_rfl
theorem fi198_2 : fieldI Try.prog 198 2 = some (2, 1, false) := by kernel_rfl
theorem fi198_3 : fieldI Try.prog 198 3 = some (3, 1, false) := by kernel_rfl
theorem fi198_4 : fieldI Try.prog 198 4 = some (4, 1, false) := by kernel_rfl
theorem fi198_5 : fieldI Try.prog 198 5 = some (5, 1, false) := by kernel_rfl
theorem fi198_6 : fieldI Try.prog 198 6 = some (6, 1, false) := by kernel_rfl
theorem fi198_7 : fieldI Try.prog 198 7 = some (7, 1, false) := by kernel_rfl
theorem fi198_8 : fieldI Try.prog 198 8 = some (8, 1, false) := by kernel_rfl
theorem fi198_9 : fieldI Try.prog 198 9 = some (9, 1, false) := by kernel_rfl
theorem fi198_10 : fieldI Try.prog 198 10 = some (10, 1, false) := by kernel_rfl
theorem ty199 : tyI Try.prog 199 = some ⟨true, 11, [(.int .u64 0), (.int .u64 0), (.int .u32 0), (.int .u8 0), (.int .u8 0), (.int .u8 0), (.int .u8 0), .nilFunc, (.pointer none), (.int .i32 0), (.int .i32 0)], 48⟩ := by kernel_rfl
theorem el199 : elemI Try.prog 199 = none := by kernel_rfl
theorem pl199 : placesI Try.prog 199 = some [(0, 1), (1, 1), (2, 1), (3, 1), (4, 1), (5, 1), (6, 1), (7, 1), (8, 1), (9, 1), (10, 1)] := by kernel_rfl
theorem fi199_0 : fieldI Try.prog 199 0 = some (0, 1, false) := by kernel_rfl
theorem fi199_1 : fieldI Try.prog 199 1 = some (1, 1, false) := by kernel_rfl
theorem fi199_2 : fieldI Try.prog 199 2 = some (2, 1, false) := by kernel_rfl
theorem fi199_3 : fieldI Try.prog 199 3 = some (3, 1, false) := by kernel_rfl
theorem fi199_4 : fieldI Try.prog 199 4 = some (4, 1, false) := by kernel_rfl
theorem fi199_5 : fieldI Try.prog 199 5 = some (5, 1, false) := by kernel_rfl
theorem fi199_6 : fieldI Try.prog 199 6 = some (6, 1, false) := by kernel_rfl
theorem fi199_7 : fieldI Try.prog 199 7 = some (7, 1, false) := by kernel_rfl
theorem fi199_8 : fieldI Try.prog 199 8 = some (8, 1, false) := by kernel_rfl
theorem fi199_9 : fieldI Try.prog 199 9 = some (9, 1, false) := by kernel_rfl
theorem fi199_10 : fieldI Try.prog 199 10 = some (10, 1, false) := by kernel_rfl
theorem ty200 : tyI Try.prog 200 = some ⟨false, 1, [(.pointer none)], 8⟩ := by kernel_rfl
theorem el200 : elemI Try.prog 200 = none := by kernel_rfl
attribute [go_sem] el0 ty1 el1 ty2 el2 it2 ty3 el3 it3 ty4 el4 bl4 ty5 el5 it5 ty6 el6 it6 ty7 el7 eq7 pl7 fi7_0 fi7_1 fi7_2 fi7_3 ty8 el8 eq8 pl8 fi8_0 fi8_1 fi8_2 fi8_3 ty9 el9 ty10 el10 ty11 el11 ty12 el12 it12 ty13 el13 pl13 fi13_0 fi13_1 ty14 el14 pl14 fi14_0 fi14_1 ty15 el15 ty16 el16 ty17 el17 ty18 el18 pl18 fi18_0 ty19 el19 pl19 fi19_0 ty20 el20 ty21 el21 it21 ty22 el22 ty23 el23 pl23 fi23_0 fi23_1 ty24 el24 pl24 fi24_0 fi24_1 ty25 el25 ty26 el26 pl26 fi26_0 fi26_1 ty27 el27 pl27 fi27_0 fi27_1 ty28 el28 ty29 el29 ty30 el30 ty31 el31 ty32 el32 ty33 el33 it33 el34 ty35 el35 el36 ty37 el37 ty38 el38 ty39 el39 ty40 el40 ty41 el41 el42 ty43 el43 ty44 el44 ty45 el45 ty46 el46 ty47 el47 eq47 pl47 fi47_0 fi47_1 fi47_2 fi47_3 ty48 el48 eq48 pl48 fi48_0 fi48_1 fi48_2 fi48_3 el49 ty50 el50 ty51 el51 el52 ty53 el53 ty54 el54 ty55 el55 ar55 pl55 ty56 el56 el57 ty58 el58 ty59 el59 ty60 el60 el61 ty62 el62 ty63 el63 ty64 el64 ty65 el65 el66 ty67 el67 ty68 el68 ty69 el69 ty70 el70 ty71 el71 eq71 pl71 fi71_0 fi71_1 fi71_2 ty72 el72 eq72 pl72 fi72_0 fi72_1 fi72_2 ty73 el73 ty74 el74 pl74 fi74_0 fi74_1 ty75 el75 pl75 fi75_0 fi75_1 ty76 el76 el77 ty78 el78 ty79 el79 ty80 el80 eq80 pl80 fi80_0 fi80_1 ty81 el81 eq81 pl81 fi81_0 fi81_1 el82 ty83 el83 ty84 el84 eq84 pl84 fi84_0 fi84_1 ty85 el85 eq85 pl85 fi85_0 fi85_1 ty86 el86 ty87 el87 ty88 el88 ty89 el89 ty90 el90 ar90 pl90 ty91 el91 ar91 pl91 ty92 el92 pl92 fi92_0 fi92_1 fi92_2 fi92_3 fi92_4 ty93 el93 pl93 fi93_0 fi93_1 fi93_2 fi93_3 fi93_4 ty94 el94 ty95 el95 ty96 el96 ty97 el97 ty98 el98 ty99 el99 ty100 el100 ty101 el101 ty102 el102 it102 ty103 el103 eq103 pl103 fi103_0 fi103_1 fi103_2 ty104 el104 eq104 pl104 fi104_0 fi104_1 fi104_2 ty105 el105 ty106 el106 ty107 el107 el108 ty109 el109 ty110 el110 ty111 el111 ty112 el112 ty113 el113 ty114 el114 it114 ty115 el115 ty116 el116 it116 ty117 el117 ar117 pl117 ty118 el118 ty119 el119 pl119 fi119_0 fi119_1 fi119_2 fi119_3 ty120 el120 pl120 fi120_0 fi120_1 fi120_2 fi120_3 ty121 el121 el122 ty123 el123 ty124 el124 el125 ty126 el126 ty127 el127 ar127 pl127 ty128 el128 ty129 el129 ty130 el130 ty131 el131 ty132 el132 ty133 el133 ty134 el134 pl134 fi134_0 ty135 el135 pl135 fi135_0 el136 ty137 el137 ty138 el138 ty139 el139 ty140 el140 ty141 el141 ty142 el142 ty143 el143 ty144 el144 ty145 el145 ty146 el146 ty147 el147 ty148 el148 eq148 pl148 fi148_0 fi148_1 fi148_2 ty149 el149 eq149 pl149 fi149_0 fi149_1 fi149_2 ty150 el150 el151 ty152 el152 ty153 el153 ty154 el154 ty155 el155 ty156 el156 ty157 el157 ty158 el158 ty159 el159 ty160 el160 eq160 pl160 fi160_0 ty161 el161 eq161 pl161 fi161_0 ty162 el162 ty163 el163 ty164 el164 ty165 el165 ty166 el166 ty167 el167 ar167 pl167 ty168 el168 ty169 el169 ty170 el170 ty171 el171 ty172 el172 ty173 el173 ty174 el174 ty175 el175 ty176 el176 ty177 el177 ty178 el178 ty179 el179 ty180 el180 ty181 el181 ty182 el182 ty183 el183 ty184 el184 ty185 el185 pl185 fi185_0 fi185_1 fi185_2 fi185_3 ty186 el186 pl186 fi186_0 fi186_1 fi186_2 fi186_3 ty187 el187 ar187 pl187 ty188 el188 pl188 ty189 el189 pl189 ty190 el190 ty191 el191 it191 ty192 el192 it192 ty193 el193 it193 ty194 el194 ty195 el195 ty196 el196 it196 ty197 el197 it197 ty198 el198 pl198 fi198_0 fi198_1 fi198_2 fi198_3 fi198_4 fi198_5 fi198_6 fi198_7 fi198_8 fi198_9 fi198_10 ty199 el199 pl199 fi199_0 fi199_1 fi199_2 fi199_3 fi199_4 fi199_5 fi199_6 fi199_7 fi199_8 fi199_9 fi199_10 ty200 el200
end Go.Dw.Seat
end
section
namespace Go.Dw.Seat
open Go Go.Dw Go.Proofs
theorem hb3 : hasBody Try.prog 3 = true := by kernel_rfl
end Go.Dw.Seat
end
section
namespace Go.Dw.Seat
open Go Go.Dw Go.Proofs
def s12 : SF := ⟨289, [.tmp 4],
 (.seq (.reg false [⟨some 2, .box 120 (.tmp 0), none⟩,
    ⟨some 4, .assign (.const (.bool false)), none⟩])
 (.seq (.reg false [⟨some 38, .load 120 (.tmp 2), none⟩,
    ⟨some 39, .call { callee := .value (.func 56), args := #[.tmp 38], argTypes := #[120] }, none⟩,
    ⟨some 37, .move (.tmp 39), none⟩,
    ⟨some 40, .extract (.tmp 37) 0, none⟩,
    ⟨some 41, .extract (.tmp 37) 1, none⟩,
    ⟨some 42, .extract (.tmp 37) 2, none⟩,
    ⟨some 43, .extract (.tmp 37) 3, none⟩,
    ⟨some 5, .alloc 72, none⟩,
    ⟨none, .store 72 (.tmp 5) (.tmp 40), none⟩,
    ⟨some 6, .assign (.tmp 41), none⟩,
    ⟨some 7, .assign (.tmp 42), none⟩,
    ⟨some 8, .assign (.tmp 43), none⟩])
 (.seq (.ord (.op ⟨some 46, .buildSlice 73 0 #[], none⟩ (.op ⟨some 47, .move (.tmp 6), none⟩ (.alt (.op ⟨some 45, .load 72 (.tmp 5), none⟩ (.alt (.op ⟨some 48, .call { callee := .builtin .append, args := #[.tmp 46, .tmp 47], argTypes := #[73, 73] }, none⟩ (.op ⟨some 49, .move (.tmp 8), none⟩ (.op ⟨some 50, .call { callee := .value (.func 38), args := #[.tmp 49], argTypes := #[22] }, none⟩ (.op ⟨some 51, .call { callee := .value (.func 39), args := #[.tmp 45, .tmp 48, .tmp 50], argTypes := #[72, 73, 22] }, none⟩ (.op ⟨some 44, .move (.tmp 51), none⟩ (.op ⟨some 52, .extract (.tmp 44) 0, none⟩ (.op ⟨some 53, .extract (.tmp 44) 1, none⟩ (.op ⟨some 54, .extract (.tmp 44) 2, none⟩ (.op ⟨some 9, .assign (.tmp 52), none⟩ (.op ⟨some 10, .assign (.tmp 53), none⟩ (.op ⟨some 11, .assign (.tmp 54), none⟩ .done)))))))))))
 (.op ⟨some 49, .move (.tmp 8), none⟩ (.op ⟨some 48, .call { callee := .builtin .append, args := #[.tmp 46, .tmp 47], argTypes := #[73, 73] }, none⟩ (.op ⟨some 50, .call { callee := .value (.func 38), args := #[.tmp 49], argTypes := #[22] }, none⟩ (.op ⟨some 51, .call { callee := .value (.func 39), args := #[.tmp 45, .tmp 48, .tmp 50], argTypes := #[72, 73, 22] }, none⟩ (.op ⟨some 44, .move (.tmp 51), none⟩ (.op ⟨some 52, .extract (.tmp 44) 0, none⟩ (.op ⟨some 53, .extract (.tmp 44) 1, none⟩ (.op ⟨some 54, .extract (.tmp 44) 2, none⟩ (.op ⟨some 9, .assign (.tmp 52), none⟩ (.op ⟨some 10, .assign (.tmp 53), none⟩ (.op ⟨some 11, .assign (.tmp 54), none⟩ .done)))))))))))))
 (.alt (.op ⟨some 48, .call { callee := .builtin .append, args := #[.tmp 46, .tmp 47], argTypes := #[73, 73] }, none⟩ (.op ⟨some 45, .load 72 (.tmp 5), none⟩ (.op ⟨some 49, .move (.tmp 8), none⟩ (.op ⟨some 50, .call { callee := .value (.func 38), args := #[.tmp 49], argTypes := #[22] }, none⟩ (.op ⟨some 51, .call { callee := .value (.func 39), args := #[.tmp 45, .tmp 48, .tmp 50], argTypes := #[72, 73, 22] }, none⟩ (.op ⟨some 44, .move (.tmp 51), none⟩ (.op ⟨some 52, .extract (.tmp 44) 0, none⟩ (.op ⟨some 53, .extract (.tmp 44) 1, none⟩ (.op ⟨some 54, .extract (.tmp 44) 2, none⟩ (.op ⟨some 9, .assign (.tmp 52), none⟩ (.op ⟨some 10, .assign (.tmp 53), none⟩ (.op ⟨some 11, .assign (.tmp 54), none⟩ .done))))))))))))
 (.op ⟨some 49, .move (.tmp 8), none⟩ (.alt (.op ⟨some 45, .load 72 (.tmp 5), none⟩ (.op ⟨some 48, .call { callee := .builtin .append, args := #[.tmp 46, .tmp 47], argTypes := #[73, 73] }, none⟩ (.op ⟨some 50, .call { callee := .value (.func 38), args := #[.tmp 49], argTypes := #[22] }, none⟩ (.op ⟨some 51, .call { callee := .value (.func 39), args := #[.tmp 45, .tmp 48, .tmp 50], argTypes := #[72, 73, 22] }, none⟩ (.op ⟨some 44, .move (.tmp 51), none⟩ (.op ⟨some 52, .extract (.tmp 44) 0, none⟩ (.op ⟨some 53, .extract (.tmp 44) 1, none⟩ (.op ⟨some 54, .extract (.tmp 44) 2, none⟩ (.op ⟨some 9, .assign (.tmp 52), none⟩ (.op ⟨some 10, .assign (.tmp 53), none⟩ (.op ⟨some 11, .assign (.tmp 54), none⟩ .done)))))))))))
 (.op ⟨some 48, .call { callee := .builtin .append, args := #[.tmp 46, .tmp 47], argTypes := #[73, 73] }, none⟩ (.op ⟨some 45, .load 72 (.tmp 5), none⟩ (.op ⟨some 50, .call { callee := .value (.func 38), args := #[.tmp 49], argTypes := #[22] }, none⟩ (.op ⟨some 51, .call { callee := .value (.func 39), args := #[.tmp 45, .tmp 48, .tmp 50], argTypes := #[72, 73, 22] }, none⟩ (.op ⟨some 44, .move (.tmp 51), none⟩ (.op ⟨some 52, .extract (.tmp 44) 0, none⟩ (.op ⟨some 53, .extract (.tmp 44) 1, none⟩ (.op ⟨some 54, .extract (.tmp 44) 2, none⟩ (.op ⟨some 9, .assign (.tmp 52), none⟩ (.op ⟨some 10, .assign (.tmp 53), none⟩ (.op ⟨some 11, .assign (.tmp 54), none⟩ .done))))))))))))))))))
 (.seq (.reg false [⟨some 55, .buildSlice 22 0 #[], none⟩,
    ⟨some 12, .assign (.tmp 55), none⟩])
 (.seq (.seq (.reg false [⟨some 13, .assign (.const (.int .i64 0)), none⟩])
  (.block 0 (.loop (.seq (.seq (.reg false [⟨some 56, .move (.tmp 13), none⟩,
        ⟨some 57, .move (.tmp 8), none⟩,
        ⟨some 58, .call { callee := .builtin .len, args := #[.tmp 57], argTypes := #[22] }, none⟩,
        ⟨some 59, .binOp .lss 3 (.tmp 56) (.tmp 58) 3, none⟩])
     (.cond (.tmp 59)
      .skip
      (.exit 0)))
    (.seq (.block 1 (.reg false [⟨some 62, .move (.tmp 12), none⟩,
        ⟨some 63, .move (.tmp 8), none⟩,
        ⟨some 64, .move (.tmp 13), none⟩,
        ⟨some 65, .indexAddr 22 (.tmp 63) (.tmp 64), none⟩,
        ⟨some 66, .load 3 (.tmp 65), none⟩,
        ⟨some 67, .move (.tmp 1), none⟩,
        ⟨some 68, .convert 5 3 (.tmp 67), none⟩,
        ⟨some 69, .binOp .add 3 (.tmp 66) (.tmp 68) 3, none⟩,
        ⟨some 70, .buildSlice 22 1 #[(0, (.tmp 69))], none⟩,
        ⟨some 71, .call { callee := .builtin .append, args := #[.tmp 62, .tmp 70], argTypes := #[22, 22] }, none⟩,
        ⟨some 12, .assign (.tmp 71), none⟩]))
    (.reg false [⟨some 60, .move (.tmp 13), none⟩,
      ⟨some 61, .binOp .add 3 (.tmp 60) (.const (.int .i64 1)) 3, none⟩,
      ⟨some 13, .assign (.tmp 61), none⟩]))))))
 (.seq (.ord (.op ⟨some 74, .buildSlice 73 0 #[], none⟩ (.op ⟨some 75, .move (.tmp 6), none⟩ (.alt (.op ⟨some 73, .load 72 (.tmp 5), none⟩ (.alt (.op ⟨some 76, .call { callee := .builtin .append, args := #[.tmp 74, .tmp 75], argTypes := #[73, 73] }, none⟩ (.op ⟨some 77, .move (.tmp 12), none⟩ (.op ⟨some 78, .call { callee := .value (.func 39), args := #[.tmp 73, .tmp 76, .tmp 77], argTypes := #[72, 73, 22] }, none⟩ (.op ⟨some 72, .move (.tmp 78), none⟩ (.op ⟨some 79, .extract (.tmp 72) 0, none⟩ (.op ⟨some 80, .extract (.tmp 72) 1, none⟩ (.op ⟨some 81, .extract (.tmp 72) 2, none⟩ (.op ⟨some 14, .assign (.tmp 79), none⟩ (.op ⟨some 15, .assign (.tmp 80), none⟩ (.op ⟨some 16, .assign (.tmp 81), none⟩ .done))))))))))
 (.op ⟨some 77, .move (.tmp 12), none⟩ (.op ⟨some 76, .call { callee := .builtin .append, args := #[.tmp 74, .tmp 75], argTypes := #[73, 73] }, none⟩ (.op ⟨some 78, .call { callee := .value (.func 39), args := #[.tmp 73, .tmp 76, .tmp 77], argTypes := #[72, 73, 22] }, none⟩ (.op ⟨some 72, .move (.tmp 78), none⟩ (.op ⟨some 79, .extract (.tmp 72) 0, none⟩ (.op ⟨some 80, .extract (.tmp 72) 1, none⟩ (.op ⟨some 81, .extract (.tmp 72) 2, none⟩ (.op ⟨some 14, .assign (.tmp 79), none⟩ (.op ⟨some 15, .assign (.tmp 80), none⟩ (.op ⟨some 16, .assign (.tmp 81), none⟩ .done))))))))))))
 (.alt (.op ⟨some 76, .call { callee := .builtin .append, args := #[.tmp 74, .tmp 75], argTypes := #[73, 73] }, none⟩ (.op ⟨some 73, .load 72 (.tmp 5), none⟩ (.op ⟨some 77, .move (.tmp 12), none⟩ (.op ⟨some 78, .call { callee := .value (.func 39), args := #[.tmp 73, .tmp 76, .tmp 77], argTypes := #[72, 73, 22] }, none⟩ (.op ⟨some 72, .move (.tmp 78), none⟩ (.op ⟨some 79, .extract (.tmp 72) 0, none⟩ (.op ⟨some 80, .extract (.tmp 72) 1, none⟩ (.op ⟨some 81, .extract (.tmp 72) 2, none⟩ (.op ⟨some 14, .assign (.tmp 79), none⟩ (.op ⟨some 15, .assign (.tmp 80), none⟩ (.op ⟨some 16, .assign (.tmp 81), none⟩ .done)))))))))))
 (.op ⟨some 77, .move (.tmp 12), none⟩ (.alt (.op ⟨some 73, .load 72 (.tmp 5), none⟩ (.op ⟨some 76, .call { callee := .builtin .append, args := #[.tmp 74, .tmp 75], argTypes := #[73, 73] }, none⟩ (.op ⟨some 78, .call { callee := .value (.func 39), args := #[.tmp 73, .tmp 76, .tmp 77], argTypes := #[72, 73, 22] }, none⟩ (.op ⟨some 72, .move (.tmp 78), none⟩ (.op ⟨some 79, .extract (.tmp 72) 0, none⟩ (.op ⟨some 80, .extract (.tmp 72) 1, none⟩ (.op ⟨some 81, .extract (.tmp 72) 2, none⟩ (.op ⟨some 14, .assign (.tmp 79), none⟩ (.op ⟨some 15, .assign (.tmp 80), none⟩ (.op ⟨some 16, .assign (.tmp 81), none⟩ .done))))))))))
 (.op ⟨some 76, .call { callee := .builtin .append, args := #[.tmp 74, .tmp 75], argTypes := #[73, 73] }, none⟩ (.op ⟨some 73, .load 72 (.tmp 5), none⟩ (.op ⟨some 78, .call { callee := .value (.func 39), args := #[.tmp 73, .tmp 76, .tmp 77], argTypes := #[72, 73, 22] }, none⟩ (.op ⟨some 72, .move (.tmp 78), none⟩ (.op ⟨some 79, .extract (.tmp 72) 0, none⟩ (.op ⟨some 80, .extract (.tmp 72) 1, none⟩ (.op ⟨some 81, .extract (.tmp 72) 2, none⟩ (.op ⟨some 14, .assign (.tmp 79), none⟩ (.op ⟨some 15, .assign (.tmp 80), none⟩ (.op ⟨some 16, .assign (.tmp 81), none⟩ .done)))))))))))))))))
 (.seq (.reg false [⟨some 83, .move (.tmp 9), none⟩,
    ⟨some 84, .move (.tmp 6), none⟩,
    ⟨some 85, .call { callee := .builtin .len, args := #[.tmp 84], argTypes := #[73] }, none⟩,
    ⟨some 86, .call { callee := .value (.func 57), args := #[.tmp 83, .tmp 85], argTypes := #[22, 3] }, none⟩,
    ⟨some 82, .move (.tmp 86), none⟩,
    ⟨some 87, .extract (.tmp 82) 0, none⟩,
    ⟨some 88, .extract (.tmp 82) 1, none⟩,
    ⟨some 17, .assign (.tmp 87), none⟩,
    ⟨some 18, .assign (.tmp 88), none⟩])
 (.seq (.reg false [⟨some 90, .move (.tmp 10), none⟩,
    ⟨some 91, .move (.tmp 6), none⟩,
    ⟨some 92, .call { callee := .builtin .len, args := #[.tmp 91], argTypes := #[73] }, none⟩,
    ⟨some 93, .call { callee := .value (.func 57), args := #[.tmp 90, .tmp 92], argTypes := #[22, 3] }, none⟩,
    ⟨some 89, .move (.tmp 93), none⟩,
    ⟨some 94, .extract (.tmp 89) 0, none⟩,
    ⟨some 95, .extract (.tmp 89) 1, none⟩,
    ⟨some 19, .assign (.tmp 94), none⟩,
    ⟨some 20, .assign (.tmp 95), none⟩])
 (.seq (.reg false [⟨some 97, .move (.tmp 14), none⟩,
    ⟨some 98, .move (.tmp 6), none⟩,
    ⟨some 99, .call { callee := .builtin .len, args := #[.tmp 98], argTypes := #[73] }, none⟩,
    ⟨some 100, .call { callee := .value (.func 57), args := #[.tmp 97, .tmp 99], argTypes := #[22, 3] }, none⟩,
    ⟨some 96, .move (.tmp 100), none⟩,
    ⟨some 101, .extract (.tmp 96) 0, none⟩,
    ⟨some 102, .extract (.tmp 96) 1, none⟩,
    ⟨some 21, .assign (.tmp 101), none⟩,
    ⟨some 22, .assign (.tmp 102), none⟩])
 (.seq (.reg false [⟨some 104, .move (.tmp 15), none⟩,
    ⟨some 105, .move (.tmp 6), none⟩,
    ⟨some 106, .call { callee := .builtin .len, args := #[.tmp 105], argTypes := #[73] }, none⟩,
    ⟨some 107, .call { callee := .value (.func 57), args := #[.tmp 104, .tmp 106], argTypes := #[22, 3] }, none⟩,
    ⟨some 103, .move (.tmp 107), none⟩,
    ⟨some 108, .extract (.tmp 103) 0, none⟩,
    ⟨some 109, .extract (.tmp 103) 1, none⟩,
    ⟨some 23, .assign (.tmp 108), none⟩,
    ⟨some 24, .assign (.tmp 109), none⟩])
 (.seq (.seq (.reg false [⟨some 110, .move (.tmp 11), none⟩,
     ⟨some 111, .binOp .neq 33 (.tmp 110) (.const (.int .i64 0)) 33, none⟩,
     ⟨some 112, .move (.tmp 111), none⟩,
     ⟨some 113, .move (.tmp 16), some (112, false)⟩,
     ⟨some 114, .binOp .neq 33 (.tmp 113) (.const (.int .i64 0)) 33, some (112, false)⟩,
     ⟨some 115, .pick (.tmp 112) (.const (.bool true)) (.tmp 114), none⟩,
     ⟨some 116, .move (.tmp 115), none⟩,
     ⟨some 117, .move (.tmp 18), some (116, false)⟩,
     ⟨some 118, .unOp .not 4 (.tmp 117), some (116, false)⟩,
     ⟨some 119, .pick (.tmp 116) (.const (.bool true)) (.tmp 118), none⟩,
     ⟨some 120, .move (.tmp 119), none⟩,
     ⟨some 121, .move (.tmp 20), some (120, false)⟩,
     ⟨some 122, .unOp .not 4 (.tmp 121), some (120, false)⟩,
     ⟨some 123, .pick (.tmp 120) (.const (.bool true)) (.tmp 122), none⟩,
     ⟨some 124, .move (.tmp 123), none⟩,
     ⟨some 125, .move (.tmp 22), some (124, false)⟩,
     ⟨some 126, .unOp .not 4 (.tmp 125), some (124, false)⟩,
     ⟨some 127, .pick (.tmp 124) (.const (.bool true)) (.tmp 126), none⟩,
     ⟨some 128, .move (.tmp 127), none⟩,
     ⟨some 129, .move (.tmp 24), some (128, false)⟩,
     ⟨some 130, .unOp .not 4 (.tmp 129), some (128, false)⟩,
     ⟨some 131, .pick (.tmp 128) (.const (.bool true)) (.tmp 130), none⟩])
  (.cond (.tmp 131)
   (.seq (.reg false [⟨some 4, .assign (.const (.bool false)), none⟩])
    .ret)
   .skip))
 (.seq (.seq (.reg false [⟨some 25, .assign (.const (.int .i64 0)), none⟩])
  (.block 2 (.loop (.seq (.seq (.reg false [⟨some 132, .move (.tmp 25), none⟩,
        ⟨some 133, .move (.tmp 6), none⟩,
        ⟨some 134, .call { callee := .builtin .len, args := #[.tmp 133], argTypes := #[73] }, none⟩,
        ⟨some 135, .binOp .lss 3 (.tmp 132) (.tmp 134) 3, none⟩])
     (.cond (.tmp 135)
      .skip
      (.exit 2)))
    (.seq (.block 3 (.seq (.ord (.op ⟨some 139, .load 72 (.tmp 5), none⟩ (.op ⟨some 140, .move (.tmp 6), none⟩ (.op ⟨some 141, .move (.tmp 25), none⟩ (.op ⟨some 142, .indexAddr 73 (.tmp 140) (.tmp 141), none⟩ (.op ⟨some 143, .load 85 (.tmp 142), none⟩ (.op ⟨some 144, .call { callee := .value (.func 41), args := #[.tmp 139, .tmp 143], argTypes := #[72, 85] }, none⟩ (.op ⟨some 138, .move (.tmp 144), none⟩ (.op ⟨some 145, .extract (.tmp 138) 0, none⟩ (.op ⟨some 26, .alloc 81, none⟩ (.alt (.op ⟨some 146, .extract (.tmp 138) 1, none⟩ (.op ⟨none, .store 81 (.tmp 26) (.tmp 145), none⟩ (.op ⟨some 27, .assign (.tmp 146), none⟩ .done)))
 (.op ⟨none, .store 81 (.tmp 26) (.tmp 145), none⟩ (.op ⟨some 146, .extract (.tmp 138) 1, none⟩ (.op ⟨some 27, .assign (.tmp 146), none⟩ .done))))))))))))))
      (.seq (.reg true [⟨some 147, .move (.tmp 7), none⟩,
         ⟨some 148, .move (.tmp 25), none⟩,
         ⟨some 149, .indexAddr 121 (.tmp 147) (.tmp 148), none⟩,
         ⟨some 150, .indexAddr 127 (.tmp 149) (.const (.int .i64 0)), none⟩,
         ⟨some 151, .load 3 (.tmp 150), none⟩,
         ⟨some 152, .move (.tmp 7), none⟩,
         ⟨some 153, .move (.tmp 25), none⟩,
         ⟨some 154, .indexAddr 121 (.tmp 152) (.tmp 153), none⟩,
         ⟨some 155, .indexAddr 127 (.tmp 154) (.const (.int .i64 1)), none⟩,
         ⟨some 156, .load 3 (.tmp 155), none⟩,
         ⟨some 28, .assign (.tmp 151), none⟩,
         ⟨some 29, .assign (.tmp 156), none⟩])
      (.seq (.reg false [⟨some 157, .fieldAddr 72 (.tmp 5) 0, none⟩,
         ⟨some 158, .load 3 (.tmp 157), none⟩,
         ⟨some 159, .fieldAddr 72 (.tmp 5) 1, none⟩,
         ⟨some 160, .load 3 (.tmp 159), none⟩,
         ⟨some 161, .move (.tmp 28), none⟩,
         ⟨some 162, .binOp .mul 3 (.tmp 160) (.tmp 161) 3, none⟩,
         ⟨some 163, .binOp .sub 3 (.const (.int .i64 1000)) (.tmp 162) 3, none⟩,
         ⟨some 164, .fieldAddr 72 (.tmp 5) 2, none⟩,
         ⟨some 165, .load 3 (.tmp 164), none⟩,
         ⟨some 166, .move (.tmp 29), none⟩,
         ⟨some 167, .binOp .mul 3 (.tmp 165) (.tmp 166) 3, none⟩,
         ⟨some 168, .binOp .add 3 (.tmp 163) (.tmp 167) 3, none⟩,
         ⟨some 169, .binOp .mul 3 (.tmp 158) (.tmp 168) 3, none⟩,
         ⟨some 30, .assign (.tmp 169), none⟩])
      (.seq (.reg false [⟨some 170, .move (.tmp 30), none⟩,
         ⟨some 171, .binOp .quo 3 (.tmp 170) (.const (.int .i64 1000)) 3, none⟩,
         ⟨some 31, .assign (.tmp 171), none⟩])
      (.seq (.seq (.reg false [⟨some 172, .move (.tmp 30), none⟩,
          ⟨some 173, .binOp .rem 3 (.tmp 172) (.const (.int .i64 1000)) 3, none⟩,
          ⟨some 174, .binOp .gtr 3 (.tmp 173) (.const (.int .i64 0)) 3, none⟩])
       (.cond (.tmp 174)
        (.reg false [⟨some 175, .move (.tmp 31), none⟩,
           ⟨some 176, .binOp .add 3 (.tmp 175) (.const (.int .i64 1)) 3, none⟩,
           ⟨some 31, .assign (.tmp 176), none⟩])
        .skip))
      (.seq (.seq (.reg false [⟨some 177, .move (.tmp 27), none⟩,
          ⟨some 178, .binOp .neq 33 (.tmp 177) (.const (.int .i64 0)) 33, none⟩,
          ⟨some 179, .move (.tmp 178), none⟩,
          ⟨some 180, .move (.tmp 31), some (179, false)⟩,
          ⟨some 181, .fieldAddr 81 (.tmp 26) 0, some (179, false)⟩,
          ⟨some 182, .load 3 (.tmp 181), some (179, false)⟩,
          ⟨some 183, .binOp .lss 3 (.tmp 180) (.tmp 182) 3, some (179, false)⟩,
          ⟨some 184, .pick (.tmp 179) (.const (.bool true)) (.tmp 183), none⟩,
          ⟨some 185, .move (.tmp 184), none⟩,
          ⟨some 186, .move (.tmp 31), some (185, false)⟩,
          ⟨some 187, .fieldAddr 81 (.tmp 26) 1, some (185, false)⟩,
          ⟨some 188, .load 3 (.tmp 187), some (185, false)⟩,
          ⟨some 189, .binOp .gtr 3 (.tmp 186) (.tmp 188) 3, some (185, false)⟩,
          ⟨some 190, .pick (.tmp 185) (.const (.bool true)) (.tmp 189), none⟩])
       (.cond (.tmp 190)
        (.seq (.reg false [⟨some 4, .assign (.const (.bool false)), none⟩])
         .ret)
        .skip))
      (.seq (.reg false [⟨some 191, .move (.tmp 8), none⟩,
         ⟨some 192, .move (.tmp 25), none⟩,
         ⟨some 193, .indexAddr 22 (.tmp 191) (.tmp 192), none⟩,
         ⟨some 194, .load 3 (.tmp 193), none⟩,
         ⟨some 195, .move (.tmp 31), none⟩,
         ⟨some 196, .binOp .lss 3 (.tmp 194) (.tmp 195) 3, none⟩,
         ⟨some 32, .assign (.tmp 196), none⟩])
      (.seq (.seq (.reg false [⟨some 197, .move (.tmp 17), none⟩,
          ⟨some 198, .move (.tmp 25), none⟩,
          ⟨some 199, .indexAddr 124 (.tmp 197) (.tmp 198), none⟩,
          ⟨some 200, .load 4 (.tmp 199), none⟩,
          ⟨some 201, .move (.tmp 200), none⟩,
          ⟨some 202, .move (.tmp 32), some (201, true)⟩,
          ⟨some 203, .unOp .not 4 (.tmp 202), some (201, true)⟩,
          ⟨some 204, .pick (.tmp 201) (.tmp 203) (.const (.bool false)), none⟩,
          ⟨some 205, .move (.tmp 204), none⟩,
          ⟨some 206, .move (.tmp 32), some (205, false)⟩,
          ⟨some 207, .move (.tmp 206), some (205, false)⟩,
          ⟨some 208, .move (.tmp 19), some (207, true)⟩,
          ⟨some 209, .move (.tmp 25), some (207, true)⟩,
          ⟨some 210, .indexAddr 124 (.tmp 208) (.tmp 209), some (207, true)⟩,
          ⟨some 211, .load 4 (.tmp 210), some (207, true)⟩,
          ⟨some 212, .unOp .not 4 (.tmp 211), some (207, true)⟩,
          ⟨some 213, .pick (.tmp 207) (.tmp 212) (.const (.bool false)), some (205, false)⟩,
          ⟨some 214, .pick (.tmp 205) (.const (.bool true)) (.tmp 213), none⟩,
          ⟨some 215, .move (.tmp 214), none⟩,
          ⟨some 216, .move (.tmp 21), some (215, false)⟩,
          ⟨some 217, .move (.tmp 25), some (215, false)⟩,
          ⟨some 218, .indexAddr 124 (.tmp 216) (.tmp 217), some (215, false)⟩,
          ⟨some 219, .load 4 (.tmp 218), some (215, false)⟩,
          ⟨some 220, .move (.tmp 219), some (215, false)⟩,
          ⟨some 221, .move (.tmp 17), some (220, true)⟩,
          ⟨some 222, .move (.tmp 25), some (220, true)⟩,
          ⟨some 223, .indexAddr 124 (.tmp 221) (.tmp 222), some (220, true)⟩,
          ⟨some 224, .load 4 (.tmp 223), some (220, true)⟩,
          ⟨some 225, .unOp .not 4 (.tmp 224), some (220, true)⟩,
          ⟨some 226, .pick (.tmp 220) (.tmp 225) (.const (.bool false)), some (215, false)⟩,
          ⟨some 227, .pick (.tmp 215) (.const (.bool true)) (.tmp 226), none⟩,
          ⟨some 228, .move (.tmp 227), none⟩,
          ⟨some 229, .move (.tmp 23), some (228, false)⟩,
          ⟨some 230, .move (.tmp 25), some (228, false)⟩,
          ⟨some 231, .indexAddr 124 (.tmp 229) (.tmp 230), some (228, false)⟩,
          ⟨some 232, .load 4 (.tmp 231), some (228, false)⟩,
          ⟨some 233, .move (.tmp 232), some (228, false)⟩,
          ⟨some 234, .move (.tmp 19), some (233, true)⟩,
          ⟨some 235, .move (.tmp 25), some (233, true)⟩,
          ⟨some 236, .indexAddr 124 (.tmp 234) (.tmp 235), some (233, true)⟩,
          ⟨some 237, .load 4 (.tmp 236), some (233, true)⟩,
          ⟨some 238, .unOp .not 4 (.tmp 237), some (233, true)⟩,
          ⟨some 239, .pick (.tmp 233) (.tmp 238) (.const (.bool false)), some (228, false)⟩,
          ⟨some 240, .pick (.tmp 228) (.const (.bool true)) (.tmp 239), none⟩])
       (.cond (.tmp 240)
        (.seq (.reg false [⟨some 4, .assign (.const (.bool false)), none⟩])
         .ret)
        .skip))
      (.seq (.ord (.op ⟨some 242, .load 72 (.tmp 5), none⟩ (.op ⟨some 243, .move (.tmp 28), none⟩ (.op ⟨some 244, .move (.tmp 28), none⟩ (.op ⟨some 245, .call { callee := .value (.func 58), args := #[.tmp 243, .tmp 244], argTypes := #[3, 3] }, none⟩ (.op ⟨some 246, .move (.tmp 29), none⟩ (.op ⟨some 247, .move (.tmp 29), none⟩ (.op ⟨some 248, .call { callee := .value (.func 58), args := #[.tmp 246, .tmp 247], argTypes := #[3, 3] }, none⟩ (.op ⟨some 249, .build 85 #[(0, (.tmp 245)), (1, (.tmp 248))], none⟩ (.op ⟨some 250, .call { callee := .value (.func 41), args := #[.tmp 242, .tmp 249], argTypes := #[72, 85] }, none⟩ (.op ⟨some 241, .move (.tmp 250), none⟩ (.op ⟨some 251, .extract (.tmp 241) 0, none⟩ (.op ⟨some 33, .alloc 81, none⟩ (.alt (.op ⟨some 252, .extract (.tmp 241) 1, none⟩ (.op ⟨none, .store 81 (.tmp 33) (.tmp 251), none⟩ (.op ⟨some 34, .assign (.tmp 252), none⟩ .done)))
 (.op ⟨none, .store 81 (.tmp 33) (.tmp 251), none⟩ (.op ⟨some 252, .extract (.tmp 241) 1, none⟩ (.op ⟨some 34, .assign (.tmp 252), none⟩ .done)))))))))))))))))
      (.seq (.ord (.op ⟨some 254, .load 72 (.tmp 5), none⟩ (.op ⟨some 255, .move (.tmp 28), none⟩ (.op ⟨some 256, .call { callee := .value (.func 58), args := #[.tmp 255, .const (.int .i64 30)], argTypes := #[3, 3] }, none⟩ (.op ⟨some 257, .move (.tmp 29), none⟩ (.op ⟨some 258, .call { callee := .value (.func 58), args := #[.const (.int .i64 0), .tmp 257], argTypes := #[3, 3] }, none⟩ (.op ⟨some 259, .build 85 #[(0, (.tmp 256)), (1, (.tmp 258))], none⟩ (.op ⟨some 260, .call { callee := .value (.func 41), args := #[.tmp 254, .tmp 259], argTypes := #[72, 85] }, none⟩ (.op ⟨some 253, .move (.tmp 260), none⟩ (.op ⟨some 261, .extract (.tmp 253) 0, none⟩ (.op ⟨some 35, .alloc 81, none⟩ (.alt (.op ⟨some 262, .extract (.tmp 253) 1, none⟩ (.op ⟨none, .store 81 (.tmp 35) (.tmp 261), none⟩ (.op ⟨some 36, .assign (.tmp 262), none⟩ .done)))
 (.op ⟨none, .store 81 (.tmp 35) (.tmp 261), none⟩ (.op ⟨some 262, .extract (.tmp 253) 1, none⟩ (.op ⟨some 36, .assign (.tmp 262), none⟩ .done)))))))))))))))
      (.seq (.reg true [⟨some 263, .move (.tmp 34), none⟩,
         ⟨some 264, .binOp .neq 33 (.tmp 263) (.const (.int .i64 0)) 33, none⟩,
         ⟨some 265, .move (.tmp 264), none⟩,
         ⟨some 266, .move (.tmp 36), some (265, false)⟩,
         ⟨some 267, .binOp .neq 33 (.tmp 266) (.const (.int .i64 0)) 33, some (265, false)⟩,
         ⟨some 268, .pick (.tmp 265) (.const (.bool true)) (.tmp 267), none⟩,
         ⟨some 269, .move (.tmp 268), none⟩,
         ⟨some 270, .load 81 (.tmp 33), some (269, false)⟩,
         ⟨some 271, .move (.tmp 31), some (269, false)⟩,
         ⟨some 272, .move (.tmp 31), some (269, false)⟩,
         ⟨some 273, .call { callee := .value (.func 58), args := #[.tmp 271, .tmp 272], argTypes := #[3, 3] }, some (269, false)⟩,
         ⟨some 274, .binOp .neq 81 (.tmp 270) (.tmp 273) 81, some (269, false)⟩,
         ⟨some 275, .pick (.tmp 269) (.const (.bool true)) (.tmp 274), none⟩,
         ⟨some 276, .move (.tmp 275), none⟩,
         ⟨some 277, .fieldAddr 81 (.tmp 35) 1, some (276, false)⟩,
         ⟨some 278, .load 3 (.tmp 277), some (276, false)⟩,
         ⟨some 279, .move (.tmp 31), some (276, false)⟩,
         ⟨some 280, .binOp .neq 3 (.tmp 278) (.tmp 279) 3, some (276, false)⟩,
         ⟨some 281, .pick (.tmp 276) (.const (.bool true)) (.tmp 280), none⟩,
         ⟨some 282, .move (.tmp 281), none⟩,
         ⟨some 283, .fieldAddr 81 (.tmp 35) 0, some (282, false)⟩,
         ⟨some 284, .load 3 (.tmp 283), some (282, false)⟩,
         ⟨some 285, .move (.tmp 31), some (282, false)⟩,
         ⟨some 286, .binOp .gtr 3 (.tmp 284) (.tmp 285) 3, some (282, false)⟩,
         ⟨some 287, .pick (.tmp 282) (.const (.bool true)) (.tmp 286), none⟩])
      (.cond (.tmp 287)
       (.seq (.reg false [⟨some 4, .assign (.const (.bool false)), none⟩])
        .ret)
       .skip)))))))))))))
    (.reg false [⟨some 136, .move (.tmp 25), none⟩,
      ⟨some 137, .binOp .add 3 (.tmp 136) (.const (.int .i64 1)) 3, none⟩,
      ⟨some 25, .assign (.tmp 137), none⟩]))))))
 (.seq (.reg false [⟨some 288, .call { callee := .value (.func 15), args := #[], argTypes := #[] }, none⟩,
    ⟨some 4, .assign (.tmp 288), none⟩])
 .ret)))))))))))))⟩
theorem sf12 : sfOf Try.f12 = some s12 := by kernel_rfl
theorem hb12 : hasBody Try.prog 12 = true := by kernel_rfl
def s15 : SF := ⟨211, [.tmp 0],
 (.seq (.reg false [⟨some 0, .assign (.const (.bool false)), none⟩])
 (.seq (.reg false [⟨some 26, .call { callee := .value (.func 54), args := #[.const (.int .i64 0), .const (.int .i64 0), .const (.int .i64 1), .const (.bool false)], argTypes := #[3, 3, 3, 4] }, none⟩,
    ⟨some 27, .buildSlice 25 1 #[(0, (.tmp 26))], none⟩,
    ⟨some 1, .assign (.tmp 27), none⟩])
 (.seq (.reg false [⟨some 29, .call { callee := .value (.func 62), args := #[], argTypes := #[] }, none⟩,
    ⟨some 30, .call { callee := .value (.func 63), args := #[.const (.int .i64 0), .const (.int .i64 2), .const (.int .i64 0)], argTypes := #[3, 102, 3] }, none⟩,
    ⟨some 31, .call { callee := .value (.func 63), args := #[.const (.int .i64 1), .const (.int .i64 2), .const (.int .i64 5)], argTypes := #[3, 102, 3] }, none⟩,
    ⟨some 32, .buildSlice 32 2 #[(0, (.tmp 30)), (1, (.tmp 31))], none⟩,
    ⟨some 33, .call { callee := .value (.func 55), args := #[.tmp 29, .tmp 32, .const (.int .i64 5)], argTypes := #[24, 32, 3] }, none⟩,
    ⟨some 28, .move (.tmp 33), none⟩,
    ⟨some 34, .extract (.tmp 28) 0, none⟩,
    ⟨some 35, .extract (.tmp 28) 1, none⟩,
    ⟨some 2, .assign (.tmp 34), none⟩,
    ⟨some 3, .assign (.tmp 35), none⟩])
 (.seq (.reg false [⟨some 37, .call { callee := .value (.func 62), args := #[], argTypes := #[] }, none⟩,
    ⟨some 38, .call { callee := .value (.func 63), args := #[.const (.int .i64 0), .const (.int .i64 1), .const (.int .i64 3)], argTypes := #[3, 102, 3] }, none⟩,
    ⟨some 39, .call { callee := .value (.func 63), args := #[.const (.int .i64 1), .const (.int .i64 3), .const (.int .i64 0)], argTypes := #[3, 102, 3] }, none⟩,
    ⟨some 40, .buildSlice 32 2 #[(0, (.tmp 38)), (1, (.tmp 39))], none⟩,
    ⟨some 41, .call { callee := .value (.func 55), args := #[.tmp 37, .tmp 40, .const (.int .i64 2)], argTypes := #[24, 32, 3] }, none⟩,
    ⟨some 36, .move (.tmp 41), none⟩,
    ⟨some 42, .extract (.tmp 36) 0, none⟩,
    ⟨some 43, .extract (.tmp 36) 1, none⟩,
    ⟨some 4, .assign (.tmp 42), none⟩,
    ⟨some 5, .assign (.tmp 43), none⟩])
 (.seq (.reg false [⟨some 45, .call { callee := .value (.func 62), args := #[], argTypes := #[] }, none⟩,
    ⟨some 46, .buildSlice 22 1 #[(0, (.const (.int .i64 0)))], none⟩,
    ⟨some 47, .call { callee := .value (.func 18), args := #[.tmp 45, .tmp 46, .const (.slice none 0 0)], argTypes := #[24, 22, 25] }, none⟩,
    ⟨some 44, .move (.tmp 47), none⟩,
    ⟨some 48, .extract (.tmp 44) 0, none⟩,
    ⟨some 49, .extract (.tmp 44) 1, none⟩,
    ⟨some 50, .extract (.tmp 44) 2, none⟩,
    ⟨some 6, .assign (.tmp 48), none⟩,
    ⟨some 7, .assign (.tmp 49), none⟩,
    ⟨some 8, .assign (.tmp 50), none⟩])
 (.seq (.reg false [⟨some 52, .call { callee := .value (.func 62), args := #[], argTypes := #[] }, none⟩,
    ⟨some 53, .buildSlice 22 1 #[(0, (.const (.int .i64 0)))], none⟩,
    ⟨some 54, .move (.tmp 1), none⟩,
    ⟨some 55, .call { callee := .value (.func 18), args := #[.tmp 52, .tmp 53, .tmp 54], argTypes := #[24, 22, 25] }, none⟩,
    ⟨some 51, .move (.tmp 55), none⟩,
    ⟨some 56, .extract (.tmp 51) 0, none⟩,
    ⟨some 57, .extract (.tmp 51) 1, none⟩,
    ⟨some 58, .extract (.tmp 51) 2, none⟩,
    ⟨some 9, .assign (.tmp 56), none⟩,
    ⟨some 10, .assign (.tmp 57), none⟩,
    ⟨some 11, .assign (.tmp 58), none⟩])
 (.seq (.reg false [⟨some 60, .call { callee := .value (.func 62), args := #[], argTypes := #[] }, none⟩,
    ⟨some 61, .buildSlice 22 1 #[(0, (.const (.int .i64 0)))], none⟩,
    ⟨some 62, .move (.tmp 1), none⟩,
    ⟨some 63, .call { callee := .value (.func 19), args := #[.tmp 60, .tmp 61, .tmp 62], argTypes := #[24, 22, 25] }, none⟩,
    ⟨some 59, .move (.tmp 63), none⟩,
    ⟨some 64, .extract (.tmp 59) 0, none⟩,
    ⟨some 65, .extract (.tmp 59) 1, none⟩,
    ⟨some 12, .assign (.tmp 64), none⟩,
    ⟨some 13, .assign (.tmp 65), none⟩])
 (.seq (.reg false [⟨some 67, .call { callee := .value (.func 62), args := #[], argTypes := #[] }, none⟩,
    ⟨some 68, .buildSlice 22 1 #[(0, (.const (.int .i64 0)))], none⟩,
    ⟨some 69, .move (.tmp 1), none⟩,
    ⟨some 70, .call { callee := .value (.func 26), args := #[.tmp 67, .tmp 68, .tmp 69, .const (.int .i64 1)], argTypes := #[24, 22, 25, 3] }, none⟩,
    ⟨some 66, .move (.tmp 70), none⟩,
    ⟨some 71, .extract (.tmp 66) 0, none⟩,
    ⟨some 72, .extract (.tmp 66) 1, none⟩,
    ⟨some 73, .extract (.tmp 66) 2, none⟩,
    ⟨some 14, .alloc 48, none⟩,
    ⟨none, .store 48 (.tmp 14) (.tmp 71), none⟩,
    ⟨some 15, .assign (.tmp 72), none⟩,
    ⟨some 16, .assign (.tmp 73), none⟩])
 (.seq (.reg false [⟨some 75, .build 72 #[(0, (.const (.int .i64 60))), (1, (.const (.int .i64 10))), (2, (.const (.int .i64 5)))], none⟩,
    ⟨some 76, .call { callee := .value (.func 64), args := #[], argTypes := #[] }, none⟩,
    ⟨some 77, .call { callee := .value (.func 41), args := #[.tmp 75, .tmp 76], argTypes := #[72, 85] }, none⟩,
    ⟨some 74, .move (.tmp 77), none⟩,
    ⟨some 78, .extract (.tmp 74) 0, none⟩,
    ⟨some 79, .extract (.tmp 74) 1, none⟩,
    ⟨some 17, .alloc 81, none⟩,
    ⟨none, .store 81 (.tmp 17) (.tmp 78), none⟩,
    ⟨some 18, .assign (.tmp 79), none⟩])
 (.seq (.reg false [⟨some 81, .build 72 #[(0, (.const (.int .i64 60))), (1, (.const (.int .i64 10))), (2, (.const (.int .i64 5)))], none⟩,
    ⟨some 82, .call { callee := .value (.func 64), args := #[], argTypes := #[] }, none⟩,
    ⟨some 83, .call { callee := .value (.func 64), args := #[], argTypes := #[] }, none⟩,
    ⟨some 84, .call { callee := .value (.func 64), args := #[], argTypes := #[] }, none⟩,
    ⟨some 85, .call { callee := .value (.func 64), args := #[], argTypes := #[] }, none⟩,
    ⟨some 86, .buildSlice 73 4 #[(0, (.tmp 82)), (1, (.tmp 83)), (2, (.tmp 84)), (3, (.tmp 85))], none⟩,
    ⟨some 87, .buildSlice 22 4 #[(0, (.const (.int .i64 59))), (1, (.const (.int .i64 60))), (2, (.const (.int .i64 71))), (3, (.const (.int .i64 72)))], none⟩,
    ⟨some 88, .call { callee := .value (.func 39), args := #[.tmp 81, .tmp 86, .tmp 87], argTypes := #[72, 73, 22] }, none⟩,
    ⟨some 80, .move (.tmp 88), none⟩,
    ⟨some 89, .extract (.tmp 80) 0, none⟩,
    ⟨some 90, .extract (.tmp 80) 1, none⟩,
    ⟨some 91, .extract (.tmp 80) 2, none⟩,
    ⟨some 19, .assign (.tmp 89), none⟩,
    ⟨some 20, .assign (.tmp 90), none⟩,
    ⟨some 21, .assign (.tmp 91), none⟩])
 (.seq (.reg false [⟨some 93, .call { callee := .value (.func 62), args := #[], argTypes := #[] }, none⟩,
    ⟨some 94, .call { callee := .value (.func 63), args := #[.const (.int .i64 0), .const (.int .i64 4), .const (.int .i64 0)], argTypes := #[3, 102, 3] }, none⟩,
    ⟨some 95, .buildSlice 32 1 #[(0, (.tmp 94))], none⟩,
    ⟨some 96, .call { callee := .value (.func 63), args := #[.const (.int .i64 0), .const (.int .i64 4), .const (.int .i64 2)], argTypes := #[3, 102, 3] }, none⟩,
    ⟨some 97, .buildSlice 32 1 #[(0, (.tmp 96))], none⟩,
    ⟨some 98, .buildSlice 41 3 #[(0, (.const (.slice none 0 0))), (1, (.tmp 95)), (2, (.tmp 97))], none⟩,
    ⟨some 99, .call { callee := .value (.func 35), args := #[.tmp 93, .tmp 98, .const (.int .i64 1)], argTypes := #[24, 41, 3] }, none⟩,
    ⟨some 92, .move (.tmp 99), none⟩,
    ⟨some 100, .extract (.tmp 92) 0, none⟩,
    ⟨some 101, .extract (.tmp 92) 1, none⟩,
    ⟨some 22, .assign (.tmp 100), none⟩,
    ⟨some 23, .assign (.tmp 101), none⟩])
 (.seq (.reg false [⟨some 103, .call { callee := .value (.func 62), args := #[], argTypes := #[] }, none⟩,
    ⟨some 104, .call { callee := .value (.func 63), args := #[.const (.int .i64 0), .const (.int .i64 4), .const (.int .i64 0)], argTypes := #[3, 102, 3] }, none⟩,
    ⟨some 105, .buildSlice 32 1 #[(0, (.tmp 104))], none⟩,
    ⟨some 106, .call { callee := .value (.func 30), args := #[.tmp 103, .tmp 105, .const (.slice none 0 0), .const (.int .i64 2)], argTypes := #[24, 32, 32, 3] }, none⟩,
    ⟨some 102, .move (.tmp 106), none⟩,
    ⟨some 107, .extract (.tmp 102) 0, none⟩,
    ⟨some 108, .extract (.tmp 102) 1, none⟩,
    ⟨some 24, .alloc 48, none⟩,
    ⟨none, .store 48 (.tmp 24) (.tmp 107), none⟩,
    ⟨some 25, .assign (.tmp 108), none⟩])
 (.seq (.seq (.reg false [⟨some 109, .move (.tmp 3), none⟩,
     ⟨some 110, .binOp .neq 33 (.tmp 109) (.const (.int .i64 0)) 33, none⟩,
     ⟨some 111, .move (.tmp 110), none⟩,
     ⟨some 112, .move (.tmp 5), some (111, false)⟩,
     ⟨some 113, .binOp .neq 33 (.tmp 112) (.const (.int .i64 0)) 33, some (111, false)⟩,
     ⟨some 114, .pick (.tmp 111) (.const (.bool true)) (.tmp 113), none⟩,
     ⟨some 115, .move (.tmp 114), none⟩,
     ⟨some 116, .move (.tmp 8), some (115, false)⟩,
     ⟨some 117, .binOp .neq 33 (.tmp 116) (.const (.int .i64 0)) 33, some (115, false)⟩,
     ⟨some 118, .pick (.tmp 115) (.const (.bool true)) (.tmp 117), none⟩,
     ⟨some 119, .move (.tmp 118), none⟩,
     ⟨some 120, .move (.tmp 11), some (119, false)⟩,
     ⟨some 121, .binOp .neq 33 (.tmp 120) (.const (.int .i64 0)) 33, some (119, false)⟩,
     ⟨some 122, .pick (.tmp 119) (.const (.bool true)) (.tmp 121), none⟩,
     ⟨some 123, .move (.tmp 122), none⟩,
     ⟨some 124, .move (.tmp 13), some (123, false)⟩,
     ⟨some 125, .binOp .neq 33 (.tmp 124) (.const (.int .i64 0)) 33, some (123, false)⟩,
     ⟨some 126, .pick (.tmp 123) (.const (.bool true)) (.tmp 125), none⟩,
     ⟨some 127, .move (.tmp 126), none⟩,
     ⟨some 128, .move (.tmp 16), some (127, false)⟩,
     ⟨some 129, .binOp .neq 33 (.tmp 128) (.const (.int .i64 0)) 33, some (127, false)⟩,
     ⟨some 130, .pick (.tmp 127) (.const (.bool true)) (.tmp 129), none⟩,
     ⟨some 131, .move (.tmp 130), none⟩,
     ⟨some 132, .move (.tmp 18), some (131, false)⟩,
     ⟨some 133, .binOp .neq 33 (.tmp 132) (.const (.int .i64 0)) 33, some (131, false)⟩,
     ⟨some 134, .pick (.tmp 131) (.const (.bool true)) (.tmp 133), none⟩,
     ⟨some 135, .move (.tmp 134), none⟩,
     ⟨some 136, .move (.tmp 21), some (135, false)⟩,
     ⟨some 137, .binOp .neq 33 (.tmp 136) (.const (.int .i64 0)) 33, some (135, false)⟩,
     ⟨some 138, .pick (.tmp 135) (.const (.bool true)) (.tmp 137), none⟩,
     ⟨some 139, .move (.tmp 138), none⟩,
     ⟨some 140, .move (.tmp 23), some (139, false)⟩,
     ⟨some 141, .binOp .neq 33 (.tmp 140) (.const (.int .i64 0)) 33, some (139, false)⟩,
     ⟨some 142, .pick (.tmp 139) (.const (.bool true)) (.tmp 141), none⟩,
     ⟨some 143, .move (.tmp 142), none⟩,
     ⟨some 144, .move (.tmp 25), some (143, false)⟩,
     ⟨some 145, .binOp .neq 33 (.tmp 144) (.const (.int .i64 0)) 33, some (143, false)⟩,
     ⟨some 146, .pick (.tmp 143) (.const (.bool true)) (.tmp 145), none⟩])
  (.cond (.tmp 146)
   (.seq (.reg false [⟨some 0, .assign (.const (.bool false)), none⟩])
    .ret)
   .skip))
 (.seq (.seq (.reg true [⟨some 147, .move (.tmp 2), none⟩,
     ⟨some 148, .buildSlice 22 2 #[(0, (.const (.int .i64 30))), (1, (.const (.int .i64 54)))], none⟩,
     ⟨some 149, .call { callee := .value (.func 21), args := #[.tmp 147, .tmp 148], argTypes := #[22, 22] }, none⟩,
     ⟨some 150, .unOp .not 4 (.tmp 149), none⟩,
     ⟨some 151, .move (.tmp 150), none⟩,
     ⟨some 152, .move (.tmp 4), some (151, false)⟩,
     ⟨some 153, .buildSlice 22 2 #[(0, (.const (.int .i64 14))), (1, (.const (.int .i64 0)))], some (151, false)⟩,
     ⟨some 154, .call { callee := .value (.func 21), args := #[.tmp 152, .tmp 153], argTypes := #[22, 22] }, some (151, false)⟩,
     ⟨some 155, .unOp .not 4 (.tmp 154), some (151, false)⟩,
     ⟨some 156, .pick (.tmp 151) (.const (.bool true)) (.tmp 155), none⟩,
     ⟨some 157, .move (.tmp 156), none⟩,
     ⟨some 158, .move (.tmp 6), some (157, false)⟩,
     ⟨some 159, .binOp .neq 3 (.tmp 158) (.const (.int .i64 25)) 3, some (157, false)⟩,
     ⟨some 160, .pick (.tmp 157) (.const (.bool true)) (.tmp 159), none⟩,
     ⟨some 161, .move (.tmp 160), none⟩,
     ⟨some 162, .move (.tmp 9), some (161, false)⟩,
     ⟨some 163, .binOp .neq 3 (.tmp 162) (.const (.int .i64 10)) 3, some (161, false)⟩,
     ⟨some 164, .pick (.tmp 161) (.const (.bool true)) (.tmp 163), none⟩,
     ⟨some 165, .move (.tmp 164), none⟩,
     ⟨some 166, .move (.tmp 10), some (165, false)⟩,
     ⟨some 167, .call { callee := .value (.func 63), args := #[.const (.int .i64 0), .const (.int .i64 1), .const (.int .i64 0)], argTypes := #[3, 102, 3] }, some (165, false)⟩,
     ⟨some 168, .buildSlice 32 1 #[(0, (.tmp 167))], some (165, false)⟩,
     ⟨some 169, .call { callee := .value (.func 24), args := #[.tmp 166, .tmp 168], argTypes := #[32, 32] }, some (165, false)⟩,
     ⟨some 170, .unOp .not 4 (.tmp 169), some (165, false)⟩,
     ⟨some 171, .pick (.tmp 165) (.const (.bool true)) (.tmp 170), none⟩,
     ⟨some 172, .move (.tmp 171), none⟩,
     ⟨some 173, .move (.tmp 12), some (172, false)⟩,
     ⟨some 174, .buildSlice 22 1 #[(0, (.const (.int .i64 0)))], some (172, false)⟩,
     ⟨some 175, .call { callee := .value (.func 21), args := #[.tmp 173, .tmp 174], argTypes := #[22, 22] }, some (172, false)⟩,
     ⟨some 176, .unOp .not 4 (.tmp 175), some (172, false)⟩,
     ⟨some 177, .pick (.tmp 172) (.const (.bool true)) (.tmp 176), none⟩,
     ⟨some 178, .move (.tmp 177), none⟩,
     ⟨some 179, .load 48 (.tmp 14), some (178, false)⟩,
     ⟨some 180, .call { callee := .value (.func 54), args := #[.const (.int .i64 0), .const (.int .i64 0), .const (.int .i64 2), .const (.bool false)], argTypes := #[3, 3, 3, 4] }, some (178, false)⟩,
     ⟨some 181, .binOp .neq 48 (.tmp 179) (.tmp 180) 48, some (178, false)⟩,
     ⟨some 182, .pick (.tmp 178) (.const (.bool true)) (.tmp 181), none⟩,
     ⟨some 183, .move (.tmp 182), none⟩,
     ⟨some 184, .move (.tmp 15), some (183, false)⟩,
     ⟨some 185, .binOp .neq 3 (.tmp 184) (.const (.int .i64 5)) 3, some (183, false)⟩,
     ⟨some 186, .pick (.tmp 183) (.const (.bool true)) (.tmp 185), none⟩])
  (.cond (.tmp 186)
   (.seq (.reg false [⟨some 0, .assign (.const (.bool false)), none⟩])
    .ret)
   .skip))
 (.seq (.reg true [⟨some 187, .load 81 (.tmp 17), none⟩,
    ⟨some 188, .build 81 #[(0, (.const (.int .i64 60))), (1, (.const (.int .i64 72)))], none⟩,
    ⟨some 189, .binOp .eql 81 (.tmp 187) (.tmp 188) 81, none⟩,
    ⟨some 190, .move (.tmp 189), none⟩,
    ⟨some 191, .move (.tmp 19), some (190, true)⟩,
    ⟨some 192, .buildSlice 22 1 #[(0, (.const (.int .i64 0)))], some (190, true)⟩,
    ⟨some 193, .call { callee := .value (.func 21), args := #[.tmp 191, .tmp 192], argTypes := #[22, 22] }, some (190, true)⟩,
    ⟨some 194, .pick (.tmp 190) (.tmp 193) (.const (.bool false)), none⟩,
    ⟨some 195, .move (.tmp 194), none⟩,
    ⟨some 196, .move (.tmp 20), some (195, true)⟩,
    ⟨some 197, .buildSlice 22 3 #[(0, (.const (.int .i64 0))), (1, (.const (.int .i64 1))), (2, (.const (.int .i64 2)))], some (195, true)⟩,
    ⟨some 198, .call { callee := .value (.func 21), args := #[.tmp 196, .tmp 197], argTypes := #[22, 22] }, some (195, true)⟩,
    ⟨some 199, .pick (.tmp 195) (.tmp 198) (.const (.bool false)), none⟩,
    ⟨some 200, .move (.tmp 199), none⟩,
    ⟨some 201, .move (.tmp 22), some (200, true)⟩,
    ⟨some 202, .buildSlice 22 3 #[(0, (.const (.int .i64 0))), (1, (.const (.int .i64 1))), (2, (.const (.int .i64 2)))], some (200, true)⟩,
    ⟨some 203, .buildSlice 65 1 #[(0, (.tmp 202))], some (200, true)⟩,
    ⟨some 204, .call { callee := .value (.func 36), args := #[.tmp 201, .tmp 203], argTypes := #[65, 65] }, some (200, true)⟩,
    ⟨some 205, .pick (.tmp 200) (.tmp 204) (.const (.bool false)), none⟩,
    ⟨some 206, .move (.tmp 205), none⟩,
    ⟨some 207, .load 48 (.tmp 24), some (206, true)⟩,
    ⟨some 208, .call { callee := .value (.func 54), args := #[.const (.int .i64 1), .const (.int .i64 0), .const (.int .i64 1), .const (.bool false)], argTypes := #[3, 3, 3, 4] }, some (206, true)⟩,
    ⟨some 209, .binOp .eql 48 (.tmp 207) (.tmp 208) 48, some (206, true)⟩,
    ⟨some 210, .pick (.tmp 206) (.tmp 209) (.const (.bool false)), none⟩,
    ⟨some 0, .assign (.tmp 210), none⟩])
 .ret)))))))))))))))⟩
theorem sf15 : sfOf Try.f15 = some s15 := by kernel_rfl
theorem hb15 : hasBody Try.prog 15 = true := by kernel_rfl
def s18 : SF := ⟨27, [.tmp 6, .tmp 7, .tmp 8],
 (.seq (.reg false [⟨some 3, .box 24 (.tmp 0), none⟩,
    ⟨some 6, .assign (.const (.int .i64 0)), none⟩,
    ⟨some 7, .assign (.const (.slice none 0 0)), none⟩,
    ⟨some 8, .assign (.const (.int .i64 0)), none⟩])
 (.seq (.reg false [⟨some 12, .load 24 (.tmp 3), none⟩,
    ⟨some 13, .move (.tmp 1), none⟩,
    ⟨some 14, .move (.tmp 2), none⟩,
    ⟨some 15, .call { callee := .value (.func 65), args := #[.tmp 12, .tmp 13, .tmp 14], argTypes := #[24, 22, 25] }, none⟩,
    ⟨some 11, .move (.tmp 15), none⟩,
    ⟨some 16, .extract (.tmp 11) 0, none⟩,
    ⟨some 17, .extract (.tmp 11) 1, none⟩,
    ⟨some 18, .extract (.tmp 11) 2, none⟩,
    ⟨some 9, .alloc 135, none⟩,
    ⟨none, .store 135 (.tmp 9) (.tmp 16), none⟩,
    ⟨some 10, .assign (.tmp 17), none⟩,
    ⟨some 8, .assign (.tmp 18), none⟩])
 (.seq (.seq (.reg false [⟨some 19, .move (.tmp 8), none⟩,
     ⟨some 20, .binOp .neq 33 (.tmp 19) (.const (.int .i64 0)) 33, none⟩])
  (.cond (.tmp 20)
   (.seq (.reg false [⟨some 21, .move (.tmp 8), none⟩,
       ⟨some 6, .assign (.const (.int .i64 0)), none⟩,
       ⟨some 7, .assign (.const (.slice none 0 0)), none⟩,
       ⟨some 8, .assign (.tmp 21), none⟩])
    .ret)
   .skip))
 (.seq (.reg true [⟨some 22, .move (.tmp 10), none⟩,
    ⟨some 23, .call { callee := .builtin .len, args := #[.tmp 22], argTypes := #[41] }, none⟩,
    ⟨some 24, .move (.tmp 10), none⟩,
    ⟨some 25, .indexAddr 41 (.tmp 24) (.const (.int .i64 0)), none⟩,
    ⟨some 26, .load 32 (.tmp 25), none⟩,
    ⟨some 6, .assign (.tmp 23), none⟩,
    ⟨some 7, .assign (.tmp 26), none⟩,
    ⟨some 8, .assign (.const (.int .i64 0)), none⟩])
 .ret))))⟩
theorem sf18 : sfOf Try.f18 = some s18 := by kernel_rfl
theorem hb18 : hasBody Try.prog 18 = true := by kernel_rfl
def s19 : SF := ⟨41, [.tmp 6, .tmp 7],
 (.seq (.reg false [⟨some 3, .box 24 (.tmp 0), none⟩,
    ⟨some 6, .assign (.const (.slice none 0 0)), none⟩,
    ⟨some 7, .assign (.const (.int .i64 0)), none⟩])
 (.seq (.reg false [⟨some 13, .load 24 (.tmp 3), none⟩,
    ⟨some 14, .move (.tmp 1), none⟩,
    ⟨some 15, .move (.tmp 2), none⟩,
    ⟨some 16, .call { callee := .value (.func 65), args := #[.tmp 13, .tmp 14, .tmp 15], argTypes := #[24, 22, 25] }, none⟩,
    ⟨some 12, .move (.tmp 16), none⟩,
    ⟨some 17, .extract (.tmp 12) 0, none⟩,
    ⟨some 18, .extract (.tmp 12) 1, none⟩,
    ⟨some 19, .extract (.tmp 12) 2, none⟩,
    ⟨some 8, .alloc 135, none⟩,
    ⟨none, .store 135 (.tmp 8) (.tmp 17), none⟩,
    ⟨some 9, .assign (.tmp 18), none⟩,
    ⟨some 7, .assign (.tmp 19), none⟩])
 (.seq (.seq (.reg false [⟨some 20, .move (.tmp 7), none⟩,
     ⟨some 21, .binOp .neq 33 (.tmp 20) (.const (.int .i64 0)) 33, none⟩])
  (.cond (.tmp 21)
   (.seq (.reg false [⟨some 22, .move (.tmp 7), none⟩,
       ⟨some 6, .assign (.const (.slice none 0 0)), none⟩,
       ⟨some 7, .assign (.tmp 22), none⟩])
    .ret)
   .skip))
 (.seq (.seq (.reg false [⟨some 23, .fieldAddr 135 (.tmp 8) 0, none⟩,
     ⟨some 24, .fieldAddr 24 (.tmp 23) 1, none⟩,
     ⟨some 25, .load 22 (.tmp 24), none⟩,
     ⟨some 26, .call { callee := .builtin .len, args := #[.tmp 25], argTypes := #[22] }, none⟩,
     ⟨some 27, .move (.const (.int .i64 0)), none⟩])
  (.block 0 (.loop (.seq (.reg false [⟨some 28, .binOp .lss 3 (.tmp 27) (.tmp 26) 3, none⟩])
    (.seq (.cond (.tmp 28)
      .skip
      (.exit 0))
    (.seq (.block 1 (.seq (.reg false [⟨some 29, .move (.tmp 27), none⟩,
         ⟨some 10, .alloc 3, none⟩,
         ⟨none, .store 3 (.tmp 10) (.tmp 29), none⟩])
      (.seq (.reg false [⟨some 30, .makeFunc (.func 66) #[] #[.tmp 10], none⟩,
         ⟨some 11, .assign (.tmp 30), none⟩])
      (.seq (.reg false [⟨some 31, .move (.tmp 9), none⟩,
         ⟨some 32, .move (.tmp 11), none⟩,
         ⟨some 33, .call { callee := .value (.func 69), args := #[.tmp 31, .tmp 32], argTypes := #[41, 140] }, none⟩,
         ⟨some 34, .unOp .not 4 (.tmp 33), none⟩])
      (.cond (.tmp 34)
       (.reg false [⟨some 35, .move (.tmp 6), none⟩,
          ⟨some 36, .load 3 (.tmp 10), none⟩,
          ⟨some 37, .buildSlice 22 1 #[(0, (.tmp 36))], none⟩,
          ⟨some 38, .call { callee := .builtin .append, args := #[.tmp 35, .tmp 37], argTypes := #[22, 22] }, none⟩,
          ⟨some 6, .assign (.tmp 38), none⟩])
       .skip)))))
    (.reg false [⟨some 39, .binOp .add 3 (.tmp 27) (.const (.int .i64 1)) 3, none⟩,
      ⟨some 27, .move (.tmp 39), none⟩])))))))
 (.seq (.reg false [⟨some 40, .move (.tmp 6), none⟩,
    ⟨some 6, .assign (.tmp 40), none⟩,
    ⟨some 7, .assign (.const (.int .i64 0)), none⟩])
 .ret)))))⟩
theorem sf19 : sfOf Try.f19 = some s19 := by kernel_rfl
theorem hb19 : hasBody Try.prog 19 = true := by kernel_rfl
def s21 : SF := ⟨26, [.tmp 4],
 (.seq (.reg false [⟨some 4, .assign (.const (.bool false)), none⟩])
 (.seq (.seq (.reg false [⟨some 6, .move (.tmp 0), none⟩,
     ⟨some 7, .call { callee := .builtin .len, args := #[.tmp 6], argTypes := #[22] }, none⟩,
     ⟨some 8, .move (.tmp 1), none⟩,
     ⟨some 9, .call { callee := .builtin .len, args := #[.tmp 8], argTypes := #[22] }, none⟩,
     ⟨some 10, .binOp .neq 3 (.tmp 7) (.tmp 9) 3, none⟩])
  (.cond (.tmp 10)
   (.seq (.reg false [⟨some 4, .assign (.const (.bool false)), none⟩])
    .ret)
   .skip))
 (.seq (.seq (.reg false [⟨some 5, .assign (.const (.int .i64 0)), none⟩])
  (.block 0 (.loop (.seq (.seq (.reg false [⟨some 11, .move (.tmp 5), none⟩,
        ⟨some 12, .move (.tmp 0), none⟩,
        ⟨some 13, .call { callee := .builtin .len, args := #[.tmp 12], argTypes := #[22] }, none⟩,
        ⟨some 14, .binOp .lss 3 (.tmp 11) (.tmp 13) 3, none⟩])
     (.cond (.tmp 14)
      .skip
      (.exit 0)))
    (.seq (.block 1 (.seq (.reg true [⟨some 17, .move (.tmp 0), none⟩,
         ⟨some 18, .move (.tmp 5), none⟩,
         ⟨some 19, .indexAddr 22 (.tmp 17) (.tmp 18), none⟩,
         ⟨some 20, .load 3 (.tmp 19), none⟩,
         ⟨some 21, .move (.tmp 1), none⟩,
         ⟨some 22, .move (.tmp 5), none⟩,
         ⟨some 23, .indexAddr 22 (.tmp 21) (.tmp 22), none⟩,
         ⟨some 24, .load 3 (.tmp 23), none⟩,
         ⟨some 25, .binOp .neq 3 (.tmp 20) (.tmp 24) 3, none⟩])
      (.cond (.tmp 25)
       (.seq (.reg false [⟨some 4, .assign (.const (.bool false)), none⟩])
        .ret)
       .skip)))
    (.reg false [⟨some 15, .move (.tmp 5), none⟩,
      ⟨some 16, .binOp .add 3 (.tmp 15) (.const (.int .i64 1)) 3, none⟩,
      ⟨some 5, .assign (.tmp 16), none⟩]))))))
 (.seq (.reg false [⟨some 4, .assign (.const (.bool true)), none⟩])
 .ret))))⟩
theorem sf21 : sfOf Try.f21 = some s21 := by kernel_rfl
theorem hb21 : hasBody Try.prog 21 = true := by kernel_rfl
def s24 : SF := ⟨26, [.tmp 4],
 (.seq (.reg false [⟨some 4, .assign (.const (.bool false)), none⟩])
 (.seq (.seq (.reg false [⟨some 6, .move (.tmp 0), none⟩,
     ⟨some 7, .call { callee := .builtin .len, args := #[.tmp 6], argTypes := #[32] }, none⟩,
     ⟨some 8, .move (.tmp 1), none⟩,
     ⟨some 9, .call { callee := .builtin .len, args := #[.tmp 8], argTypes := #[32] }, none⟩,
     ⟨some 10, .binOp .neq 3 (.tmp 7) (.tmp 9) 3, none⟩])
  (.cond (.tmp 10)
   (.seq (.reg false [⟨some 4, .assign (.const (.bool false)), none⟩])
    .ret)
   .skip))
 (.seq (.seq (.reg false [⟨some 5, .assign (.const (.int .i64 0)), none⟩])
  (.block 0 (.loop (.seq (.seq (.reg false [⟨some 11, .move (.tmp 5), none⟩,
        ⟨some 12, .move (.tmp 0), none⟩,
        ⟨some 13, .call { callee := .builtin .len, args := #[.tmp 12], argTypes := #[32] }, none⟩,
        ⟨some 14, .binOp .lss 3 (.tmp 11) (.tmp 13) 3, none⟩])
     (.cond (.tmp 14)
      .skip
      (.exit 0)))
    (.seq (.block 1 (.seq (.reg true [⟨some 17, .move (.tmp 0), none⟩,
         ⟨some 18, .move (.tmp 5), none⟩,
         ⟨some 19, .indexAddr 32 (.tmp 17) (.tmp 18), none⟩,
         ⟨some 20, .load 104 (.tmp 19), none⟩,
         ⟨some 21, .move (.tmp 1), none⟩,
         ⟨some 22, .move (.tmp 5), none⟩,
         ⟨some 23, .indexAddr 32 (.tmp 21) (.tmp 22), none⟩,
         ⟨some 24, .load 104 (.tmp 23), none⟩,
         ⟨some 25, .binOp .neq 104 (.tmp 20) (.tmp 24) 104, none⟩])
      (.cond (.tmp 25)
       (.seq (.reg false [⟨some 4, .assign (.const (.bool false)), none⟩])
        .ret)
       .skip)))
    (.reg false [⟨some 15, .move (.tmp 5), none⟩,
      ⟨some 16, .binOp .add 3 (.tmp 15) (.const (.int .i64 1)) 3, none⟩,
      ⟨some 5, .assign (.tmp 16), none⟩]))))))
 (.seq (.reg false [⟨some 4, .assign (.const (.bool true)), none⟩])
 .ret))))⟩
theorem sf24 : sfOf Try.f24 = some s24 := by kernel_rfl
theorem hb24 : hasBody Try.prog 24 = true := by kernel_rfl
def s26 : SF := ⟨78, [.cell 8 48, .cell 9 3, .tmp 10],
 (.seq (.reg false [⟨some 4, .box 24 (.tmp 0), none⟩,
    ⟨some 8, .alloc 48, none⟩,
    ⟨some 9, .alloc 3, none⟩,
    ⟨some 10, .assign (.const (.int .i64 0)), none⟩])
 (.seq (.reg false [⟨some 18, .load 24 (.tmp 4), none⟩,
    ⟨some 19, .move (.tmp 1), none⟩,
    ⟨some 20, .move (.tmp 2), none⟩,
    ⟨some 21, .call { callee := .value (.func 65), args := #[.tmp 18, .tmp 19, .tmp 20], argTypes := #[24, 22, 25] }, none⟩,
    ⟨some 17, .move (.tmp 21), none⟩,
    ⟨some 22, .extract (.tmp 17) 0, none⟩,
    ⟨some 23, .extract (.tmp 17) 1, none⟩,
    ⟨some 24, .extract (.tmp 17) 2, none⟩,
    ⟨some 11, .alloc 135, none⟩,
    ⟨some 12, .alloc 41, none⟩,
    ⟨none, .store 135 (.tmp 11) (.tmp 22), none⟩,
    ⟨none, .store 41 (.tmp 12) (.tmp 23), none⟩,
    ⟨some 10, .assign (.tmp 24), none⟩])
 (.seq (.block 0 (.seq (.reg false [⟨some 26, .move (.tmp 10), none⟩,
      ⟨some 27, .binOp .neq 33 (.tmp 26) (.const (.int .i64 0)) 33, none⟩,
      ⟨some 25, .assign (.tmp 27), none⟩])
   (.cond (.tmp 25)
    (.seq (.reg false [⟨some 28, .load 48 (.tmp 8), none⟩,
        ⟨some 29, .move (.tmp 10), none⟩,
        ⟨none, .store 48 (.tmp 8) (.tmp 28), none⟩,
        ⟨none, .store 3 (.tmp 9) (.const (.int .i64 0)), none⟩,
        ⟨some 10, .assign (.tmp 29), none⟩])
     .ret)
    (.seq (.reg false [⟨some 31, .move (.tmp 3), none⟩,
        ⟨some 32, .call { callee := .value (.func 73), args := #[.tmp 31], argTypes := #[3] }, none⟩,
        ⟨some 33, .unOp .not 4 (.tmp 32), none⟩,
        ⟨some 30, .assign (.tmp 33), none⟩])
     (.cond (.tmp 30)
      (.seq (.reg false [⟨some 34, .load 48 (.tmp 8), none⟩,
          ⟨none, .store 48 (.tmp 8) (.tmp 34), none⟩,
          ⟨none, .store 3 (.tmp 9) (.const (.int .i64 0)), none⟩,
          ⟨some 10, .assign (.const (.int .i64 2)), none⟩])
       .ret)
      .skip)))))
 (.seq (.reg false [⟨some 35, .load 41 (.tmp 12), none⟩,
    ⟨some 36, .call { callee := .builtin .len, args := #[.tmp 35], argTypes := #[41] }, none⟩,
    ⟨none, .store 3 (.tmp 9) (.tmp 36), none⟩])
 (.seq (.seq (.reg false [⟨some 37, .load 135 (.tmp 11), none⟩,
     ⟨some 38, .move (.tmp 3), none⟩,
     ⟨some 39, .call { callee := .value (.func 74), args := #[.tmp 37, .tmp 38], argTypes := #[135, 3] }, none⟩])
  (.block 1 (.rng (.tmp 39) [40]
    (.reg false [⟨some 13, .alloc 149, none⟩,
       ⟨none, .store 149 (.tmp 13) (.tmp 40), none⟩])
    (.block 2 (.seq (.reg false [⟨some 14, .assign (.const (.int .i64 0)), none⟩])
      (.seq (.seq (.reg false [⟨some 41, .load 41 (.tmp 12), none⟩,
          ⟨some 42, .call { callee := .builtin .len, args := #[.tmp 41], argTypes := #[41] }, none⟩,
          ⟨some 43, .move (.const (.int .i64 0)), none⟩])
       (.block 3 (.loop (.seq (.reg false [⟨some 44, .binOp .lss 3 (.tmp 43) (.tmp 42) 3, none⟩])
         (.seq (.cond (.tmp 44)
           .skip
           (.exit 3))
         (.seq (.block 4 (.seq (.reg false [⟨some 45, .indexAddr 41 (.tmp 41) (.tmp 43), none⟩,
              ⟨some 46, .load 32 (.tmp 45), none⟩,
              ⟨some 16, .assign (.tmp 46), none⟩])
           (.seq (.reg false [⟨some 47, .load 135 (.tmp 11), none⟩,
              ⟨some 48, .move (.tmp 16), none⟩,
              ⟨some 49, .load 149 (.tmp 13), none⟩,
              ⟨some 50, .call { callee := .value (.func 75), args := #[.tmp 47, .tmp 48, .tmp 49], argTypes := #[135, 32, 149] }, none⟩])
           (.cond (.tmp 50)
            (.reg false [⟨some 51, .move (.tmp 14), none⟩,
               ⟨some 52, .binOp .add 3 (.tmp 51) (.const (.int .i64 1)) 3, none⟩,
               ⟨some 14, .assign (.tmp 52), none⟩])
            .skip))))
         (.reg false [⟨some 53, .binOp .add 3 (.tmp 43) (.const (.int .i64 1)) 3, none⟩,
           ⟨some 43, .move (.tmp 53), none⟩])))))))
      (.seq (.reg false [⟨some 54, .move (.tmp 14), none⟩,
         ⟨some 55, .load 41 (.tmp 12), none⟩,
         ⟨some 56, .call { callee := .builtin .len, args := #[.tmp 55], argTypes := #[41] }, none⟩,
         ⟨some 57, .move (.tmp 14), none⟩,
         ⟨some 58, .binOp .sub 3 (.tmp 56) (.tmp 57) 3, none⟩,
         ⟨some 59, .call { callee := .builtin .max, args := #[.tmp 54, .tmp 58], argTypes := #[3, 3] }, none⟩,
         ⟨some 14, .assign (.tmp 59), none⟩])
      (.seq (.reg false [⟨some 60, .move (.tmp 14), none⟩,
         ⟨some 61, .load 3 (.tmp 9), none⟩,
         ⟨some 62, .binOp .lss 3 (.tmp 60) (.tmp 61) 3, none⟩])
      (.cond (.tmp 62)
       (.reg false [⟨some 63, .fieldAddr 149 (.tmp 13) 0, none⟩,
          ⟨some 64, .load 3 (.tmp 63), none⟩,
          ⟨some 65, .fieldAddr 149 (.tmp 13) 1, none⟩,
          ⟨some 66, .load 3 (.tmp 65), none⟩,
          ⟨some 67, .fieldAddr 149 (.tmp 13) 2, none⟩,
          ⟨some 68, .load 3 (.tmp 67), none⟩,
          ⟨some 69, .build 48 #[(0, (.tmp 64)), (1, (.tmp 66)), (2, (.tmp 68))], none⟩,
          ⟨some 70, .move (.tmp 14), none⟩,
          ⟨none, .store 48 (.tmp 8) (.tmp 69), none⟩,
          ⟨none, .store 3 (.tmp 9) (.tmp 70), none⟩])
       .skip)))))))))
 (.seq (.seq (.reg false [⟨some 71, .load 3 (.tmp 9), none⟩,
     ⟨some 72, .load 41 (.tmp 12), none⟩,
     ⟨some 73, .call { callee := .builtin .len, args := #[.tmp 72], argTypes := #[41] }, none⟩,
     ⟨some 74, .binOp .eql 3 (.tmp 71) (.tmp 73) 3, none⟩])
  (.cond (.tmp 74)
   (.seq (.reg false [⟨some 75, .load 48 (.tmp 8), none⟩,
       ⟨none, .store 48 (.tmp 8) (.tmp 75), none⟩,
       ⟨none, .store 3 (.tmp 9) (.const (.int .i64 0)), none⟩,
       ⟨some 10, .assign (.const (.int .i64 7)), none⟩])
    .ret)
   .skip))
 (.seq (.ord (.op ⟨some 76, .load 48 (.tmp 8), none⟩ (.alt (.op ⟨some 77, .load 3 (.tmp 9), none⟩ (.op ⟨none, .store 48 (.tmp 8) (.tmp 76), none⟩ (.op ⟨none, .store 3 (.tmp 9) (.tmp 77), none⟩ (.op ⟨some 10, .assign (.const (.int .i64 0)), none⟩ .done))))
 (.op ⟨none, .store 48 (.tmp 8) (.tmp 76), none⟩ (.op ⟨some 77, .load 3 (.tmp 9), none⟩ (.op ⟨none, .store 3 (.tmp 9) (.tmp 77), none⟩ (.op ⟨some 10, .assign (.const (.int .i64 0)), none⟩ .done)))))))
 .ret)))))))⟩
theorem sf26 : sfOf Try.f26 = some s26 := by kernel_rfl
theorem hb26 : hasBody Try.prog 26 = true := by kernel_rfl
def s30 : SF := ⟨54, [.cell 8 48, .cell 9 33],
 (.seq (.reg false [⟨some 4, .box 24 (.tmp 0), none⟩,
    ⟨some 5, .box 32 (.tmp 1), none⟩,
    ⟨some 6, .box 32 (.tmp 2), none⟩,
    ⟨some 8, .alloc 48, none⟩,
    ⟨some 9, .alloc 33, none⟩])
 (.seq (.reg false [⟨some 14, .load 24 (.tmp 4), none⟩,
    ⟨some 15, .load 32 (.tmp 5), none⟩,
    ⟨some 16, .load 32 (.tmp 6), none⟩,
    ⟨some 17, .buildSlice 41 2 #[(0, (.tmp 15)), (1, (.tmp 16))], none⟩,
    ⟨some 18, .call { callee := .value (.func 77), args := #[.tmp 14, .tmp 17], argTypes := #[24, 41] }, none⟩,
    ⟨some 13, .move (.tmp 18), none⟩,
    ⟨some 19, .extract (.tmp 13) 0, none⟩,
    ⟨some 20, .extract (.tmp 13) 1, none⟩,
    ⟨some 10, .alloc 135, none⟩,
    ⟨none, .store 135 (.tmp 10) (.tmp 19), none⟩,
    ⟨none, .store 33 (.tmp 9) (.tmp 20), none⟩])
 (.seq (.block 0 (.seq (.reg false [⟨some 22, .load 33 (.tmp 9), none⟩,
      ⟨some 23, .binOp .neq 33 (.tmp 22) (.const (.int .i64 0)) 33, none⟩,
      ⟨some 21, .assign (.tmp 23), none⟩])
   (.cond (.tmp 21)
    (.seq (.ord (.op ⟨some 24, .load 48 (.tmp 8), none⟩ (.alt (.op ⟨some 25, .load 33 (.tmp 9), none⟩ (.op ⟨none, .store 48 (.tmp 8) (.tmp 24), none⟩ (.op ⟨none, .store 33 (.tmp 9) (.tmp 25), none⟩ .done)))
 (.op ⟨none, .store 48 (.tmp 8) (.tmp 24), none⟩ (.op ⟨some 25, .load 33 (.tmp 9), none⟩ (.op ⟨none, .store 33 (.tmp 9) (.tmp 25), none⟩ .done))))))
     .ret)
    (.seq (.reg false [⟨some 27, .move (.tmp 3), none⟩,
        ⟨some 28, .call { callee := .value (.func 73), args := #[.tmp 27], argTypes := #[3] }, none⟩,
        ⟨some 29, .unOp .not 4 (.tmp 28), none⟩,
        ⟨some 26, .assign (.tmp 29), none⟩])
     (.cond (.tmp 26)
      (.seq (.reg false [⟨some 30, .load 48 (.tmp 8), none⟩,
          ⟨none, .store 48 (.tmp 8) (.tmp 30), none⟩,
          ⟨none, .store 33 (.tmp 9) (.const (.int .i64 2)), none⟩])
       .ret)
      .skip)))))
 (.seq (.seq (.reg false [⟨some 31, .load 135 (.tmp 10), none⟩,
     ⟨some 32, .move (.tmp 3), none⟩,
     ⟨some 33, .call { callee := .value (.func 74), args := #[.tmp 31, .tmp 32], argTypes := #[135, 3] }, none⟩])
  (.block 1 (.rng (.tmp 33) [34]
    (.reg false [⟨some 11, .alloc 149, none⟩,
       ⟨none, .store 149 (.tmp 11) (.tmp 34), none⟩])
    (.block 2 (.seq (.reg false [⟨some 35, .load 135 (.tmp 10), none⟩,
         ⟨some 36, .load 32 (.tmp 5), none⟩,
         ⟨some 37, .load 149 (.tmp 11), none⟩,
         ⟨some 38, .call { callee := .value (.func 75), args := #[.tmp 35, .tmp 36, .tmp 37], argTypes := #[135, 32, 149] }, none⟩,
         ⟨some 12, .assign (.tmp 38), none⟩])
      (.seq (.reg false [⟨some 39, .move (.tmp 12), none⟩,
         ⟨some 40, .load 135 (.tmp 10), none⟩,
         ⟨some 41, .load 32 (.tmp 6), none⟩,
         ⟨some 42, .load 149 (.tmp 11), none⟩,
         ⟨some 43, .call { callee := .value (.func 75), args := #[.tmp 40, .tmp 41, .tmp 42], argTypes := #[135, 32, 149] }, none⟩,
         ⟨some 44, .binOp .neq 4 (.tmp 39) (.tmp 43) 4, none⟩])
      (.cond (.tmp 44)
       (.seq (.reg false [⟨some 45, .fieldAddr 149 (.tmp 11) 0, none⟩,
           ⟨some 46, .load 3 (.tmp 45), none⟩,
           ⟨some 47, .fieldAddr 149 (.tmp 11) 1, none⟩,
           ⟨some 48, .load 3 (.tmp 47), none⟩,
           ⟨some 49, .fieldAddr 149 (.tmp 11) 2, none⟩,
           ⟨some 50, .load 3 (.tmp 49), none⟩,
           ⟨some 51, .move (.tmp 12), none⟩,
           ⟨some 52, .build 48 #[(0, (.tmp 46)), (1, (.tmp 48)), (2, (.tmp 50)), (3, (.tmp 51))], none⟩,
           ⟨none, .store 48 (.tmp 8) (.tmp 52), none⟩,
           ⟨none, .store 33 (.tmp 9) (.const (.int .i64 0)), none⟩])
        .ret)
       .skip)))))))
 (.seq (.reg false [⟨some 53, .load 48 (.tmp 8), none⟩,
    ⟨none, .store 48 (.tmp 8) (.tmp 53), none⟩,
    ⟨none, .store 33 (.tmp 9) (.const (.int .i64 7)), none⟩])
 .ret)))))⟩
theorem sf30 : sfOf Try.f30 = some s30 := by kernel_rfl
theorem hb30 : hasBody Try.prog 30 = true := by kernel_rfl
end Go.Dw.Seat
end
section
namespace Go.Dw.Seat
open Go Go.Dw Go.Proofs
def s35 : SF := ⟨71, [.tmp 6, .tmp 7],
 (.seq (.reg false [⟨some 3, .box 24 (.tmp 0), none⟩,
    ⟨some 4, .box 41 (.tmp 1), none⟩,
    ⟨some 5, .box 3 (.tmp 2), none⟩,
    ⟨some 6, .assign (.const (.slice none 0 0)), none⟩,
    ⟨some 7, .assign (.const (.int .i64 0)), none⟩])
 (.seq (.reg false [⟨some 14, .load 24 (.tmp 3), none⟩,
    ⟨some 15, .call { callee := .value (.func 78), args := #[.tmp 14], argTypes := #[24] }, none⟩,
    ⟨some 13, .move (.tmp 15), none⟩,
    ⟨some 16, .extract (.tmp 13) 0, none⟩,
    ⟨some 17, .extract (.tmp 13) 1, none⟩,
    ⟨some 8, .alloc 135, none⟩,
    ⟨none, .store 135 (.tmp 8) (.tmp 16), none⟩,
    ⟨some 7, .assign (.tmp 17), none⟩])
 (.seq (.seq (.reg false [⟨some 18, .move (.tmp 7), none⟩,
     ⟨some 19, .binOp .eql 33 (.tmp 18) (.const (.int .i64 0)) 33, none⟩,
     ⟨some 20, .move (.tmp 19), none⟩,
     ⟨some 21, .load 41 (.tmp 4), some (20, true)⟩,
     ⟨some 22, .call { callee := .builtin .len, args := #[.tmp 21], argTypes := #[41] }, some (20, true)⟩,
     ⟨some 23, .binOp .gtr 3 (.tmp 22) (.const (.int .i64 30)) 3, some (20, true)⟩,
     ⟨some 24, .pick (.tmp 20) (.tmp 23) (.const (.bool false)), none⟩])
  (.cond (.tmp 24)
   (.reg false [⟨some 7, .assign (.const (.int .i64 5)), none⟩])
   .skip))
 (.seq (.seq (.reg false [⟨some 25, .move (.tmp 7), none⟩,
     ⟨some 26, .binOp .eql 33 (.tmp 25) (.const (.int .i64 0)) 33, none⟩])
  (.cond (.tmp 26)
   (.reg false [⟨some 28, .load 24 (.tmp 3), none⟩,
      ⟨some 29, .load 41 (.tmp 4), none⟩,
      ⟨some 30, .call { callee := .value (.func 77), args := #[.tmp 28, .tmp 29], argTypes := #[24, 41] }, none⟩,
      ⟨some 27, .move (.tmp 30), none⟩,
      ⟨some 31, .extract (.tmp 27) 0, none⟩,
      ⟨some 32, .extract (.tmp 27) 1, none⟩,
      ⟨some 7, .assign (.tmp 32), none⟩])
   .skip))
 (.seq (.block 0 (.seq (.reg false [⟨some 34, .move (.tmp 7), none⟩,
      ⟨some 35, .binOp .neq 33 (.tmp 34) (.const (.int .i64 0)) 33, none⟩,
      ⟨some 33, .assign (.tmp 35), none⟩])
   (.cond (.tmp 33)
    (.seq (.reg false [⟨some 36, .move (.tmp 7), none⟩,
        ⟨some 6, .assign (.const (.slice none 0 0)), none⟩,
        ⟨some 7, .assign (.tmp 36), none⟩])
     .ret)
    (.seq (.reg false [⟨some 38, .load 3 (.tmp 5), none⟩,
        ⟨some 39, .call { callee := .value (.func 73), args := #[.tmp 38], argTypes := #[3] }, none⟩,
        ⟨some 40, .unOp .not 4 (.tmp 39), none⟩,
        ⟨some 37, .assign (.tmp 40), none⟩])
     (.cond (.tmp 37)
      (.seq (.reg false [⟨some 6, .assign (.const (.slice none 0 0)), none⟩,
          ⟨some 7, .assign (.const (.int .i64 2)), none⟩])
       .ret)
      .skip)))))
 (.seq (.reg false [⟨some 41, .makeFunc (.func 79) #[] #[.tmp 5, .tmp 8], none⟩,
    ⟨some 9, .alloc 155, none⟩,
    ⟨none, .store 155 (.tmp 9) (.tmp 41), none⟩])
 (.seq (.seq (.reg false [⟨some 42, .load 41 (.tmp 4), none⟩,
     ⟨some 43, .call { callee := .builtin .len, args := #[.tmp 42], argTypes := #[41] }, none⟩,
     ⟨some 44, .move (.const (.int .i64 0)), none⟩])
  (.block 1 (.loop (.seq (.reg false [⟨some 45, .binOp .lss 3 (.tmp 44) (.tmp 43) 3, none⟩])
    (.seq (.cond (.tmp 45)
      .skip
      (.exit 1))
    (.seq (.block 2 (.seq (.reg false [⟨some 46, .move (.tmp 44), none⟩,
         ⟨some 47, .indexAddr 41 (.tmp 42) (.tmp 44), none⟩,
         ⟨some 48, .load 32 (.tmp 47), none⟩,
         ⟨some 11, .alloc 32, none⟩,
         ⟨some 10, .assign (.tmp 46), none⟩,
         ⟨none, .store 32 (.tmp 11) (.tmp 48), none⟩])
      (.seq (.reg false [⟨some 49, .move (.tmp 6), none⟩,
         ⟨some 50, .makeFunc (.func 82) #[] #[.tmp 9, .tmp 4, .tmp 11], none⟩,
         ⟨some 51, .call { callee := .value (.func 81), args := #[.tmp 49, .tmp 50], argTypes := #[65, 157] }, none⟩,
         ⟨some 12, .assign (.tmp 51), none⟩])
      (.seq (.reg false [⟨some 52, .move (.tmp 12), none⟩,
         ⟨some 53, .binOp .lss 3 (.tmp 52) (.const (.int .i64 0)) 3, none⟩])
      (.cond (.tmp 53)
       (.reg false [⟨some 54, .move (.tmp 6), none⟩,
          ⟨some 55, .move (.tmp 10), none⟩,
          ⟨some 56, .buildSlice 22 1 #[(0, (.tmp 55))], none⟩,
          ⟨some 57, .buildSlice 65 1 #[(0, (.tmp 56))], none⟩,
          ⟨some 58, .call { callee := .builtin .append, args := #[.tmp 54, .tmp 57], argTypes := #[65, 65] }, none⟩,
          ⟨some 6, .assign (.tmp 58), none⟩])
       (.reg false [⟨some 59, .move (.tmp 6), none⟩,
          ⟨some 60, .move (.tmp 12), none⟩,
          ⟨some 61, .move (.tmp 6), none⟩,
          ⟨some 62, .move (.tmp 12), none⟩,
          ⟨some 63, .indexAddr 65 (.tmp 61) (.tmp 62), none⟩,
          ⟨some 64, .load 22 (.tmp 63), none⟩,
          ⟨some 65, .move (.tmp 10), none⟩,
          ⟨some 66, .buildSlice 22 1 #[(0, (.tmp 65))], none⟩,
          ⟨some 67, .call { callee := .builtin .append, args := #[.tmp 64, .tmp 66], argTypes := #[22, 22] }, none⟩,
          ⟨some 68, .indexAddr 65 (.tmp 59) (.tmp 60), none⟩,
          ⟨none, .store 22 (.tmp 68) (.tmp 67), none⟩]))))))
    (.reg false [⟨some 69, .binOp .add 3 (.tmp 44) (.const (.int .i64 1)) 3, none⟩,
      ⟨some 44, .move (.tmp 69), none⟩])))))))
 (.seq (.reg false [⟨some 70, .move (.tmp 6), none⟩,
    ⟨some 6, .assign (.tmp 70), none⟩,
    ⟨some 7, .assign (.const (.int .i64 0)), none⟩])
 .ret))))))))⟩
theorem sf35 : sfOf Try.f35 = some s35 := by kernel_rfl
theorem hb35 : hasBody Try.prog 35 = true := by kernel_rfl
def s36 : SF := ⟨27, [.tmp 4],
 (.seq (.reg false [⟨some 4, .assign (.const (.bool false)), none⟩])
 (.seq (.seq (.reg false [⟨some 6, .move (.tmp 0), none⟩,
     ⟨some 7, .call { callee := .builtin .len, args := #[.tmp 6], argTypes := #[65] }, none⟩,
     ⟨some 8, .move (.tmp 1), none⟩,
     ⟨some 9, .call { callee := .builtin .len, args := #[.tmp 8], argTypes := #[65] }, none⟩,
     ⟨some 10, .binOp .neq 3 (.tmp 7) (.tmp 9) 3, none⟩])
  (.cond (.tmp 10)
   (.seq (.reg false [⟨some 4, .assign (.const (.bool false)), none⟩])
    .ret)
   .skip))
 (.seq (.seq (.reg false [⟨some 5, .assign (.const (.int .i64 0)), none⟩])
  (.block 0 (.loop (.seq (.seq (.reg false [⟨some 11, .move (.tmp 5), none⟩,
        ⟨some 12, .move (.tmp 0), none⟩,
        ⟨some 13, .call { callee := .builtin .len, args := #[.tmp 12], argTypes := #[65] }, none⟩,
        ⟨some 14, .binOp .lss 3 (.tmp 11) (.tmp 13) 3, none⟩])
     (.cond (.tmp 14)
      .skip
      (.exit 0)))
    (.seq (.block 1 (.seq (.reg true [⟨some 17, .move (.tmp 0), none⟩,
         ⟨some 18, .move (.tmp 5), none⟩,
         ⟨some 19, .indexAddr 65 (.tmp 17) (.tmp 18), none⟩,
         ⟨some 20, .load 22 (.tmp 19), none⟩,
         ⟨some 21, .move (.tmp 1), none⟩,
         ⟨some 22, .move (.tmp 5), none⟩,
         ⟨some 23, .indexAddr 65 (.tmp 21) (.tmp 22), none⟩,
         ⟨some 24, .load 22 (.tmp 23), none⟩,
         ⟨some 25, .call { callee := .value (.func 21), args := #[.tmp 20, .tmp 24], argTypes := #[22, 22] }, none⟩,
         ⟨some 26, .unOp .not 4 (.tmp 25), none⟩])
      (.cond (.tmp 26)
       (.seq (.reg false [⟨some 4, .assign (.const (.bool false)), none⟩])
        .ret)
       .skip)))
    (.reg false [⟨some 15, .move (.tmp 5), none⟩,
      ⟨some 16, .binOp .add 3 (.tmp 15) (.const (.int .i64 1)) 3, none⟩,
      ⟨some 5, .assign (.tmp 16), none⟩]))))))
 (.seq (.reg false [⟨some 4, .assign (.const (.bool true)), none⟩])
 .ret))))⟩
theorem sf36 : sfOf Try.f36 = some s36 := by kernel_rfl
theorem hb36 : hasBody Try.prog 36 = true := by kernel_rfl
def s38 : SF := ⟨6, [.tmp 2],
 (.seq (.reg false [⟨some 2, .assign (.const (.slice none 0 0)), none⟩])
 (.seq (.reg false [⟨some 3, .buildSlice 22 0 #[], none⟩,
    ⟨some 4, .move (.tmp 0), none⟩,
    ⟨some 5, .call { callee := .builtin .append, args := #[.tmp 3, .tmp 4], argTypes := #[22, 22] }, none⟩,
    ⟨some 2, .assign (.tmp 5), none⟩])
 .ret))⟩
theorem sf38 : sfOf Try.f38 = some s38 := by kernel_rfl
theorem hb38 : hasBody Try.prog 38 = true := by kernel_rfl
def s39 : SF := ⟨70, [.tmp 6, .tmp 7, .tmp 8],
 (.seq (.reg false [⟨some 3, .box 72 (.tmp 0), none⟩,
    ⟨some 6, .assign (.const (.slice none 0 0)), none⟩,
    ⟨some 7, .assign (.const (.slice none 0 0)), none⟩,
    ⟨some 8, .assign (.const (.int .i64 0)), none⟩])
 (.seq (.reg false [⟨some 9, .assign (.func 84), none⟩])
 (.seq (.block 0 (.seq (.reg false [⟨some 14, .load 72 (.tmp 3), none⟩,
      ⟨some 15, .call { callee := .value (.func 86), args := #[.tmp 14], argTypes := #[72] }, none⟩,
      ⟨some 16, .unOp .not 4 (.tmp 15), none⟩,
      ⟨some 13, .assign (.tmp 16), none⟩])
   (.cond (.tmp 13)
    (.seq (.reg false [⟨some 6, .assign (.const (.slice none 0 0)), none⟩,
        ⟨some 7, .assign (.const (.slice none 0 0)), none⟩,
        ⟨some 8, .assign (.const (.int .i64 2)), none⟩])
     .ret)
    (.seq (.reg false [⟨some 18, .move (.tmp 1), none⟩,
        ⟨some 19, .call { callee := .builtin .len, args := #[.tmp 18], argTypes := #[73] }, none⟩,
        ⟨some 20, .binOp .gtr 3 (.tmp 19) (.const (.int .i64 50)) 3, none⟩,
        ⟨some 17, .assign (.tmp 20), none⟩])
     (.cond (.tmp 17)
      (.seq (.reg false [⟨some 6, .assign (.const (.slice none 0 0)), none⟩,
          ⟨some 7, .assign (.const (.slice none 0 0)), none⟩,
          ⟨some 8, .assign (.const (.int .i64 5)), none⟩])
       .ret)
      (.seq (.reg false [⟨some 22, .move (.tmp 2), none⟩,
          ⟨some 23, .call { callee := .builtin .len, args := #[.tmp 22], argTypes := #[22] }, none⟩,
          ⟨some 24, .move (.tmp 1), none⟩,
          ⟨some 25, .call { callee := .builtin .len, args := #[.tmp 24], argTypes := #[73] }, none⟩,
          ⟨some 26, .binOp .neq 3 (.tmp 23) (.tmp 25) 3, none⟩,
          ⟨some 21, .assign (.tmp 26), none⟩])
       (.cond (.tmp 21)
        (.seq (.reg false [⟨some 6, .assign (.const (.slice none 0 0)), none⟩,
            ⟨some 7, .assign (.const (.slice none 0 0)), none⟩,
            ⟨some 8, .assign (.const (.int .i64 4)), none⟩])
         .ret)
        (.seq (.seq (.reg false [⟨some 28, .move (.tmp 1), none⟩,
             ⟨some 29, .move (.tmp 9), none⟩,
             ⟨some 30, .call { callee := .value (.func 87), args := #[.tmp 28, .tmp 29], argTypes := #[73, 86] }, none⟩,
             ⟨some 27, .assign (.tmp 30), none⟩])
          (.cond (.tmp 27)
           .skip
           (.reg false [⟨some 31, .move (.tmp 2), none⟩,
              ⟨some 32, .call { callee := .value (.func 88), args := #[.const (.int .i64 0), .const (.int .i64 2400), .tmp 31], argTypes := #[3, 3, 22] }, none⟩,
              ⟨some 33, .unOp .not 4 (.tmp 32), none⟩,
              ⟨some 27, .assign (.tmp 33), none⟩])))
         (.cond (.tmp 27)
          (.seq (.reg false [⟨some 6, .assign (.const (.slice none 0 0)), none⟩,
              ⟨some 7, .assign (.const (.slice none 0 0)), none⟩,
              ⟨some 8, .assign (.const (.int .i64 3)), none⟩])
           .ret)
          .skip)))))))))
 (.seq (.seq (.reg false [⟨some 34, .move (.tmp 1), none⟩,
     ⟨some 35, .call { callee := .builtin .len, args := #[.tmp 34], argTypes := #[73] }, none⟩,
     ⟨some 36, .move (.const (.int .i64 0)), none⟩])
  (.block 1 (.loop (.seq (.reg false [⟨some 37, .binOp .lss 3 (.tmp 36) (.tmp 35) 3, none⟩])
    (.seq (.cond (.tmp 37)
      .skip
      (.exit 1))
    (.seq (.block 2 (.seq (.reg false [⟨some 38, .move (.tmp 36), none⟩,
         ⟨some 39, .indexAddr 73 (.tmp 34) (.tmp 36), none⟩,
         ⟨some 40, .load 85 (.tmp 39), none⟩,
         ⟨some 11, .alloc 85, none⟩,
         ⟨some 10, .assign (.tmp 38), none⟩,
         ⟨none, .store 85 (.tmp 11) (.tmp 40), none⟩])
      (.seq (.reg false [⟨some 41, .load 72 (.tmp 3), none⟩,
         ⟨some 42, .build 161 #[(0, (.tmp 41))], none⟩,
         ⟨some 43, .load 85 (.tmp 11), none⟩,
         ⟨some 44, .call { callee := .value (.func 89), args := #[.tmp 42, .tmp 43], argTypes := #[161, 85] }, none⟩,
         ⟨some 12, .alloc 81, none⟩,
         ⟨none, .store 81 (.tmp 12) (.tmp 44), none⟩])
      (.seq (.seq (.reg true [⟨some 45, .move (.tmp 2), none⟩,
          ⟨some 46, .move (.tmp 10), none⟩,
          ⟨some 47, .indexAddr 22 (.tmp 45) (.tmp 46), none⟩,
          ⟨some 48, .load 3 (.tmp 47), none⟩,
          ⟨some 49, .fieldAddr 81 (.tmp 12) 0, none⟩,
          ⟨some 50, .load 3 (.tmp 49), none⟩,
          ⟨some 51, .call { callee := .value (.func 90), args := #[.tmp 48, .tmp 50], argTypes := #[3, 3] }, none⟩])
       (.cond (.tmp 51)
        (.reg false [⟨some 52, .move (.tmp 6), none⟩,
           ⟨some 53, .move (.tmp 10), none⟩,
           ⟨some 54, .buildSlice 22 1 #[(0, (.tmp 53))], none⟩,
           ⟨some 55, .call { callee := .builtin .append, args := #[.tmp 52, .tmp 54], argTypes := #[22, 22] }, none⟩,
           ⟨some 6, .assign (.tmp 55), none⟩])
        .skip))
      (.seq (.reg true [⟨some 56, .move (.tmp 2), none⟩,
         ⟨some 57, .move (.tmp 10), none⟩,
         ⟨some 58, .indexAddr 22 (.tmp 56) (.tmp 57), none⟩,
         ⟨some 59, .load 3 (.tmp 58), none⟩,
         ⟨some 60, .fieldAddr 81 (.tmp 12) 1, none⟩,
         ⟨some 61, .load 3 (.tmp 60), none⟩,
         ⟨some 62, .call { callee := .value (.func 90), args := #[.tmp 59, .tmp 61], argTypes := #[3, 3] }, none⟩])
      (.cond (.tmp 62)
       (.reg false [⟨some 63, .move (.tmp 7), none⟩,
          ⟨some 64, .move (.tmp 10), none⟩,
          ⟨some 65, .buildSlice 22 1 #[(0, (.tmp 64))], none⟩,
          ⟨some 66, .call { callee := .builtin .append, args := #[.tmp 63, .tmp 65], argTypes := #[22, 22] }, none⟩,
          ⟨some 7, .assign (.tmp 66), none⟩])
       .skip))))))
    (.reg false [⟨some 67, .binOp .add 3 (.tmp 36) (.const (.int .i64 1)) 3, none⟩,
      ⟨some 36, .move (.tmp 67), none⟩])))))))
 (.seq (.reg false [⟨some 68, .move (.tmp 6), none⟩,
    ⟨some 69, .move (.tmp 7), none⟩,
    ⟨some 6, .assign (.tmp 68), none⟩,
    ⟨some 7, .assign (.tmp 69), none⟩,
    ⟨some 8, .assign (.const (.int .i64 0)), none⟩])
 .ret)))))⟩
theorem sf39 : sfOf Try.f39 = some s39 := by kernel_rfl
theorem hb39 : hasBody Try.prog 39 = true := by kernel_rfl
def s41 : SF := ⟨20, [.cell 4 81, .tmp 5],
 (.seq (.reg false [⟨some 2, .box 72 (.tmp 0), none⟩,
    ⟨some 3, .box 85 (.tmp 1), none⟩,
    ⟨some 4, .alloc 81, none⟩,
    ⟨some 5, .assign (.const (.int .i64 0)), none⟩])
 (.seq (.block 0 (.seq (.reg false [⟨some 7, .load 72 (.tmp 2), none⟩,
      ⟨some 8, .call { callee := .value (.func 86), args := #[.tmp 7], argTypes := #[72] }, none⟩,
      ⟨some 9, .unOp .not 4 (.tmp 8), none⟩,
      ⟨some 6, .assign (.tmp 9), none⟩])
   (.cond (.tmp 6)
    (.seq (.reg false [⟨some 10, .load 81 (.tmp 4), none⟩,
        ⟨none, .store 81 (.tmp 4) (.tmp 10), none⟩,
        ⟨some 5, .assign (.const (.int .i64 2)), none⟩])
     .ret)
    (.seq (.reg false [⟨some 12, .load 85 (.tmp 3), none⟩,
        ⟨some 13, .call { callee := .value (.func 85), args := #[.tmp 12], argTypes := #[85] }, none⟩,
        ⟨some 14, .unOp .not 4 (.tmp 13), none⟩,
        ⟨some 11, .assign (.tmp 14), none⟩])
     (.cond (.tmp 11)
      (.seq (.reg false [⟨some 15, .load 81 (.tmp 4), none⟩,
          ⟨none, .store 81 (.tmp 4) (.tmp 15), none⟩,
          ⟨some 5, .assign (.const (.int .i64 3)), none⟩])
       .ret)
      .skip)))))
 (.seq (.reg false [⟨some 16, .load 72 (.tmp 2), none⟩,
    ⟨some 17, .build 161 #[(0, (.tmp 16))], none⟩,
    ⟨some 18, .load 85 (.tmp 3), none⟩,
    ⟨some 19, .call { callee := .value (.func 89), args := #[.tmp 17, .tmp 18], argTypes := #[161, 85] }, none⟩,
    ⟨none, .store 81 (.tmp 4) (.tmp 19), none⟩,
    ⟨some 5, .assign (.const (.int .i64 0)), none⟩])
 .ret)))⟩
theorem sf41 : sfOf Try.f41 = some s41 := by kernel_rfl
theorem hb41 : hasBody Try.prog 41 = true := by kernel_rfl
def s49 : SF := ⟨56, [.tmp 4],
 (.seq (.reg false [⟨some 2, .box 24 (.tmp 0), none⟩,
    ⟨some 4, .assign (.const (.bool false)), none⟩])
 (.seq (.seq (.reg false [⟨some 5, .assign (.const (.int .i64 0)), none⟩])
  (.block 0 (.loop (.seq (.seq (.reg false [⟨some 7, .move (.tmp 5), none⟩,
        ⟨some 8, .move (.tmp 1), none⟩,
        ⟨some 9, .call { callee := .builtin .len, args := #[.tmp 8], argTypes := #[32] }, none⟩,
        ⟨some 10, .binOp .lss 3 (.tmp 7) (.tmp 9) 3, none⟩])
     (.cond (.tmp 10)
      .skip
      (.exit 0)))
    (.seq (.block 1 (.seq (.reg false [⟨some 13, .move (.tmp 1), none⟩,
         ⟨some 14, .move (.tmp 5), none⟩,
         ⟨some 15, .indexAddr 32 (.tmp 13) (.tmp 14), none⟩,
         ⟨some 16, .load 104 (.tmp 15), none⟩,
         ⟨some 6, .alloc 104, none⟩,
         ⟨none, .store 104 (.tmp 6) (.tmp 16), none⟩])
      (.seq (.reg true [⟨some 17, .fieldAddr 104 (.tmp 6) 0, none⟩,
         ⟨some 18, .load 3 (.tmp 17), none⟩,
         ⟨some 19, .binOp .lss 3 (.tmp 18) (.const (.int .i64 0)) 3, none⟩,
         ⟨some 20, .move (.tmp 19), none⟩,
         ⟨some 21, .fieldAddr 104 (.tmp 6) 0, some (20, false)⟩,
         ⟨some 22, .load 3 (.tmp 21), some (20, false)⟩,
         ⟨some 23, .fieldAddr 24 (.tmp 2) 1, some (20, false)⟩,
         ⟨some 24, .load 22 (.tmp 23), some (20, false)⟩,
         ⟨some 25, .call { callee := .builtin .len, args := #[.tmp 24], argTypes := #[22] }, some (20, false)⟩,
         ⟨some 26, .binOp .geq 3 (.tmp 22) (.tmp 25) 3, some (20, false)⟩,
         ⟨some 27, .pick (.tmp 20) (.const (.bool true)) (.tmp 26), none⟩,
         ⟨some 28, .move (.tmp 27), none⟩,
         ⟨some 29, .fieldAddr 104 (.tmp 6) 1, some (28, false)⟩,
         ⟨some 30, .load 102 (.tmp 29), some (28, false)⟩,
         ⟨some 31, .binOp .lss 102 (.tmp 30) (.const (.int .i64 1)) 102, some (28, false)⟩,
         ⟨some 32, .pick (.tmp 28) (.const (.bool true)) (.tmp 31), none⟩,
         ⟨some 33, .move (.tmp 32), none⟩,
         ⟨some 34, .fieldAddr 104 (.tmp 6) 1, some (33, false)⟩,
         ⟨some 35, .load 102 (.tmp 34), some (33, false)⟩,
         ⟨some 36, .binOp .gtr 102 (.tmp 35) (.const (.int .i64 4)) 102, some (33, false)⟩,
         ⟨some 37, .pick (.tmp 33) (.const (.bool true)) (.tmp 36), none⟩,
         ⟨some 38, .move (.tmp 37), none⟩,
         ⟨some 39, .move (.tmp 5), some (38, false)⟩,
         ⟨some 40, .binOp .gtr 3 (.tmp 39) (.const (.int .i64 0)) 3, some (38, false)⟩,
         ⟨some 41, .move (.tmp 40), some (38, false)⟩,
         ⟨some 42, .fieldAddr 104 (.tmp 6) 0, some (41, true)⟩,
         ⟨some 43, .load 3 (.tmp 42), some (41, true)⟩,
         ⟨some 44, .move (.tmp 1), some (41, true)⟩,
         ⟨some 45, .move (.tmp 5), some (41, true)⟩,
         ⟨some 46, .binOp .sub 3 (.tmp 45) (.const (.int .i64 1)) 3, some (41, true)⟩,
         ⟨some 47, .indexAddr 32 (.tmp 44) (.tmp 46), some (41, true)⟩,
         ⟨some 48, .fieldAddr 104 (.tmp 47) 0, some (41, true)⟩,
         ⟨some 49, .load 3 (.tmp 48), some (41, true)⟩,
         ⟨some 50, .binOp .leq 3 (.tmp 43) (.tmp 49) 3, some (41, true)⟩,
         ⟨some 51, .pick (.tmp 41) (.tmp 50) (.const (.bool false)), some (38, false)⟩,
         ⟨some 52, .pick (.tmp 38) (.const (.bool true)) (.tmp 51), none⟩])
      (.cond (.tmp 52)
       (.seq (.reg false [⟨some 4, .assign (.const (.bool false)), none⟩])
        .ret)
       .skip))))
    (.reg false [⟨some 11, .move (.tmp 5), none⟩,
      ⟨some 12, .binOp .add 3 (.tmp 11) (.const (.int .i64 1)) 3, none⟩,
      ⟨some 5, .assign (.tmp 12), none⟩]))))))
 (.seq (.reg false [⟨some 53, .move (.tmp 1), none⟩,
    ⟨some 54, .call { callee := .builtin .len, args := #[.tmp 53], argTypes := #[32] }, none⟩,
    ⟨some 55, .binOp .leq 3 (.tmp 54) (.const (.int .i64 2)) 3, none⟩,
    ⟨some 4, .assign (.tmp 55), none⟩])
 .ret)))⟩
theorem sf49 : sfOf Try.f49 = some s49 := by kernel_rfl
theorem hb49 : hasBody Try.prog 49 = true := by kernel_rfl
def s54 : SF := ⟨14, [.cell 8 48],
 (.seq (.reg false [⟨some 8, .alloc 48, none⟩])
 (.seq (.reg false [⟨some 9, .move (.tmp 0), none⟩,
    ⟨some 10, .move (.tmp 1), none⟩,
    ⟨some 11, .move (.tmp 2), none⟩,
    ⟨some 12, .move (.tmp 3), none⟩,
    ⟨some 13, .build 48 #[(0, (.tmp 9)), (1, (.tmp 10)), (2, (.tmp 11)), (3, (.tmp 12))], none⟩,
    ⟨none, .store 48 (.tmp 8) (.tmp 13), none⟩])
 .ret))⟩
theorem sf54 : sfOf Try.f54 = some s54 := by kernel_rfl
theorem hb54 : hasBody Try.prog 54 = true := by kernel_rfl
def s55 : SF := ⟨30, [.tmp 6, .tmp 7],
 (.seq (.reg false [⟨some 3, .box 24 (.tmp 0), none⟩,
    ⟨some 6, .assign (.const (.slice none 0 0)), none⟩,
    ⟨some 7, .assign (.const (.int .i64 0)), none⟩])
 (.seq (.reg false [⟨some 11, .load 24 (.tmp 3), none⟩,
    ⟨some 12, .move (.tmp 1), none⟩,
    ⟨some 13, .buildSlice 41 1 #[(0, (.tmp 12))], none⟩,
    ⟨some 14, .call { callee := .value (.func 77), args := #[.tmp 11, .tmp 13], argTypes := #[24, 41] }, none⟩,
    ⟨some 10, .move (.tmp 14), none⟩,
    ⟨some 15, .extract (.tmp 10) 0, none⟩,
    ⟨some 16, .extract (.tmp 10) 1, none⟩,
    ⟨some 8, .alloc 135, none⟩,
    ⟨none, .store 135 (.tmp 8) (.tmp 15), none⟩,
    ⟨some 9, .assign (.tmp 16), none⟩])
 (.seq (.block 0 (.seq (.reg false [⟨some 18, .move (.tmp 9), none⟩,
      ⟨some 19, .binOp .neq 33 (.tmp 18) (.const (.int .i64 0)) 33, none⟩,
      ⟨some 17, .assign (.tmp 19), none⟩])
   (.cond (.tmp 17)
    (.seq (.reg false [⟨some 20, .move (.tmp 9), none⟩,
        ⟨some 6, .assign (.const (.slice none 0 0)), none⟩,
        ⟨some 7, .assign (.tmp 20), none⟩])
     .ret)
    (.seq (.reg false [⟨some 22, .move (.tmp 2), none⟩,
        ⟨some 23, .buildSlice 22 1 #[(0, (.tmp 22))], none⟩,
        ⟨some 24, .call { callee := .value (.func 93), args := #[.tmp 23], argTypes := #[22] }, none⟩,
        ⟨some 25, .unOp .not 4 (.tmp 24), none⟩,
        ⟨some 21, .assign (.tmp 25), none⟩])
     (.cond (.tmp 21)
      (.seq (.reg false [⟨some 6, .assign (.const (.slice none 0 0)), none⟩,
          ⟨some 7, .assign (.const (.int .i64 9)), none⟩])
       .ret)
      .skip)))))
 (.seq (.reg false [⟨some 26, .load 135 (.tmp 8), none⟩,
    ⟨some 27, .move (.tmp 1), none⟩,
    ⟨some 28, .move (.tmp 2), none⟩,
    ⟨some 29, .call { callee := .value (.func 80), args := #[.tmp 26, .tmp 27, .tmp 28], argTypes := #[135, 32, 3] }, none⟩,
    ⟨some 6, .assign (.tmp 29), none⟩,
    ⟨some 7, .assign (.const (.int .i64 0)), none⟩])
 .ret))))⟩
theorem sf55 : sfOf Try.f55 = some s55 := by kernel_rfl
theorem hb55 : hasBody Try.prog 55 = true := by kernel_rfl
def s56 : SF := ⟨117, [.cell 2 72, .tmp 3, .tmp 4, .tmp 5],
 (.seq (.reg false [⟨some 1, .box 120 (.tmp 0), none⟩,
    ⟨some 2, .alloc 72, none⟩,
    ⟨some 3, .assign (.const (.slice none 0 0)), none⟩,
    ⟨some 4, .assign (.const (.slice none 0 0)), none⟩,
    ⟨some 5, .assign (.const (.slice none 0 0)), none⟩])
 (.seq (.reg false [⟨some 11, .fieldAddr 120 (.tmp 1) 0, none⟩,
    ⟨some 12, .load 116 (.tmp 11), none⟩,
    ⟨some 13, .convert 116 3 (.tmp 12), none⟩,
    ⟨some 14, .binOp .rem 3 (.tmp 13) (.const (.int .i64 600)) 3, none⟩,
    ⟨some 15, .binOp .add 3 (.const (.int .i64 1)) (.tmp 14) 3, none⟩,
    ⟨some 16, .fieldAddr 120 (.tmp 1) 1, none⟩,
    ⟨some 17, .indexAddr 117 (.tmp 16) (.const (.int .i64 0)), none⟩,
    ⟨some 18, .load 5 (.tmp 17), none⟩,
    ⟨some 19, .convert 5 3 (.tmp 18), none⟩,
    ⟨some 20, .binOp .rem 3 (.tmp 19) (.const (.int .i64 21)) 3, none⟩,
    ⟨some 21, .fieldAddr 120 (.tmp 1) 1, none⟩,
    ⟨some 22, .indexAddr 117 (.tmp 21) (.const (.int .i64 1)), none⟩,
    ⟨some 23, .load 5 (.tmp 22), none⟩,
    ⟨some 24, .convert 5 3 (.tmp 23), none⟩,
    ⟨some 25, .binOp .rem 3 (.tmp 24) (.const (.int .i64 21)) 3, none⟩,
    ⟨some 26, .build 72 #[(0, (.tmp 15)), (1, (.tmp 20)), (2, (.tmp 25))], none⟩,
    ⟨none, .store 72 (.tmp 2) (.tmp 26), none⟩])
 (.seq (.seq (.reg false [⟨some 6, .assign (.const (.int .i64 0)), none⟩])
  (.block 0 (.loop (.seq (.seq (.reg false [⟨some 27, .move (.tmp 6), none⟩,
        ⟨some 28, .fieldAddr 120 (.tmp 1) 2, none⟩,
        ⟨some 29, .load 118 (.tmp 28), none⟩,
        ⟨some 30, .call { callee := .builtin .len, args := #[.tmp 29], argTypes := #[118] }, none⟩,
        ⟨some 31, .binOp .lss 3 (.tmp 27) (.tmp 30) 3, none⟩,
        ⟨some 32, .move (.tmp 31), none⟩,
        ⟨some 33, .move (.tmp 6), some (32, true)⟩,
        ⟨some 34, .binOp .lss 3 (.tmp 33) (.const (.int .i64 20)) 3, some (32, true)⟩,
        ⟨some 35, .pick (.tmp 32) (.tmp 34) (.const (.bool false)), none⟩])
     (.cond (.tmp 35)
      .skip
      (.exit 0)))
    (.seq (.block 1 (.seq (.reg false [⟨some 38, .fieldAddr 120 (.tmp 1) 2, none⟩,
         ⟨some 39, .load 118 (.tmp 38), none⟩,
         ⟨some 40, .move (.tmp 6), none⟩,
         ⟨some 41, .indexAddr 118 (.tmp 39) (.tmp 40), none⟩,
         ⟨some 42, .load 167 (.tmp 41), none⟩,
         ⟨some 7, .alloc 167, none⟩,
         ⟨none, .store 167 (.tmp 7) (.tmp 42), none⟩])
      (.seq (.reg false [⟨some 43, .indexAddr 167 (.tmp 7) (.const (.int .i64 0)), none⟩,
         ⟨some 44, .load 5 (.tmp 43), none⟩,
         ⟨some 45, .convert 5 3 (.tmp 44), none⟩,
         ⟨some 46, .binOp .rem 3 (.tmp 45) (.const (.int .i64 31)) 3, none⟩,
         ⟨some 47, .indexAddr 167 (.tmp 7) (.const (.int .i64 1)), none⟩,
         ⟨some 48, .load 5 (.tmp 47), none⟩,
         ⟨some 49, .convert 5 3 (.tmp 48), none⟩,
         ⟨some 50, .binOp .rem 3 (.tmp 49) (.const (.int .i64 31)) 3, none⟩,
         ⟨some 51, .call { callee := .value (.func 58), args := #[.tmp 46, .tmp 50], argTypes := #[3, 3] }, none⟩,
         ⟨some 8, .alloc 81, none⟩,
         ⟨none, .store 81 (.tmp 8) (.tmp 51), none⟩])
      (.seq (.reg false [⟨some 52, .indexAddr 167 (.tmp 7) (.const (.int .i64 2)), none⟩,
         ⟨some 53, .load 5 (.tmp 52), none⟩,
         ⟨some 54, .convert 5 3 (.tmp 53), none⟩,
         ⟨some 55, .binOp .rem 3 (.tmp 54) (.const (.int .i64 101)) 3, none⟩,
         ⟨some 56, .indexAddr 167 (.tmp 7) (.const (.int .i64 3)), none⟩,
         ⟨some 57, .load 5 (.tmp 56), none⟩,
         ⟨some 58, .convert 5 3 (.tmp 57), none⟩,
         ⟨some 59, .binOp .rem 3 (.tmp 58) (.const (.int .i64 101)) 3, none⟩,
         ⟨some 60, .call { callee := .value (.func 58), args := #[.tmp 55, .tmp 59], argTypes := #[3, 3] }, none⟩,
         ⟨some 9, .alloc 81, none⟩,
         ⟨none, .store 81 (.tmp 9) (.tmp 60), none⟩])
      (.seq (.reg false [⟨some 61, .move (.tmp 3), none⟩,
         ⟨some 62, .load 81 (.tmp 8), none⟩,
         ⟨some 63, .load 81 (.tmp 9), none⟩,
         ⟨some 64, .build 85 #[(0, (.tmp 62)), (1, (.tmp 63))], none⟩,
         ⟨some 65, .buildSlice 73 1 #[(0, (.tmp 64))], none⟩,
         ⟨some 66, .call { callee := .builtin .append, args := #[.tmp 61, .tmp 65], argTypes := #[73, 73] }, none⟩,
         ⟨some 3, .assign (.tmp 66), none⟩])
      (.seq (.reg true [⟨some 67, .move (.tmp 4), none⟩,
         ⟨some 68, .fieldAddr 81 (.tmp 8) 0, none⟩,
         ⟨some 69, .load 3 (.tmp 68), none⟩,
         ⟨some 70, .indexAddr 167 (.tmp 7) (.const (.int .i64 4)), none⟩,
         ⟨some 71, .load 5 (.tmp 70), none⟩,
         ⟨some 72, .convert 5 3 (.tmp 71), none⟩,
         ⟨some 73, .fieldAddr 81 (.tmp 8) 1, none⟩,
         ⟨some 74, .load 3 (.tmp 73), none⟩,
         ⟨some 75, .fieldAddr 81 (.tmp 8) 0, none⟩,
         ⟨some 76, .load 3 (.tmp 75), none⟩,
         ⟨some 77, .binOp .sub 3 (.tmp 74) (.tmp 76) 3, none⟩,
         ⟨some 78, .binOp .add 3 (.tmp 77) (.const (.int .i64 1)) 3, none⟩,
         ⟨some 79, .binOp .rem 3 (.tmp 72) (.tmp 78) 3, none⟩,
         ⟨some 80, .binOp .add 3 (.tmp 69) (.tmp 79) 3, none⟩,
         ⟨some 81, .fieldAddr 81 (.tmp 9) 0, none⟩,
         ⟨some 82, .load 3 (.tmp 81), none⟩,
         ⟨some 83, .indexAddr 167 (.tmp 7) (.const (.int .i64 5)), none⟩,
         ⟨some 84, .load 5 (.tmp 83), none⟩,
         ⟨some 85, .convert 5 3 (.tmp 84), none⟩,
         ⟨some 86, .fieldAddr 81 (.tmp 9) 1, none⟩,
         ⟨some 87, .load 3 (.tmp 86), none⟩,
         ⟨some 88, .fieldAddr 81 (.tmp 9) 0, none⟩,
         ⟨some 89, .load 3 (.tmp 88), none⟩,
         ⟨some 90, .binOp .sub 3 (.tmp 87) (.tmp 89) 3, none⟩,
         ⟨some 91, .binOp .add 3 (.tmp 90) (.const (.int .i64 1)) 3, none⟩,
         ⟨some 92, .binOp .rem 3 (.tmp 85) (.tmp 91) 3, none⟩,
         ⟨some 93, .binOp .add 3 (.tmp 82) (.tmp 92) 3, none⟩,
         ⟨some 94, .build 127 #[(0, (.tmp 80)), (1, (.tmp 93))], none⟩,
         ⟨some 95, .buildSlice 121 1 #[(0, (.tmp 94))], none⟩,
         ⟨some 96, .call { callee := .builtin .append, args := #[.tmp 67, .tmp 95], argTypes := #[121, 121] }, none⟩,
         ⟨some 4, .assign (.tmp 96), none⟩])
      (.seq (.reg false [⟨some 10, .assign (.const (.int .i64 0)), none⟩])
      (.seq (.seq (.reg false [⟨some 97, .move (.tmp 6), none⟩,
          ⟨some 98, .fieldAddr 120 (.tmp 1) 3, none⟩,
          ⟨some 99, .load 89 (.tmp 98), none⟩,
          ⟨some 100, .call { callee := .builtin .len, args := #[.tmp 99], argTypes := #[89] }, none⟩,
          ⟨some 101, .binOp .lss 3 (.tmp 97) (.tmp 100) 3, none⟩])
       (.cond (.tmp 101)
        (.reg false [⟨some 102, .fieldAddr 120 (.tmp 1) 3, none⟩,
           ⟨some 103, .load 89 (.tmp 102), none⟩,
           ⟨some 104, .move (.tmp 6), none⟩,
           ⟨some 105, .indexAddr 89 (.tmp 103) (.tmp 104), none⟩,
           ⟨some 106, .load 116 (.tmp 105), none⟩,
           ⟨some 107, .convert 116 3 (.tmp 106), none⟩,
           ⟨some 108, .binOp .rem 3 (.tmp 107) (.const (.int .i64 2000)) 3, none⟩,
           ⟨some 10, .assign (.tmp 108), none⟩])
        .skip))
      (.reg false [⟨some 109, .move (.tmp 5), none⟩,
        ⟨some 110, .move (.tmp 10), none⟩,
        ⟨some 111, .buildSlice 22 1 #[(0, (.tmp 110))], none⟩,
        ⟨some 112, .call { callee := .builtin .append, args := #[.tmp 109, .tmp 111], argTypes := #[22, 22] }, none⟩,
        ⟨some 5, .assign (.tmp 112), none⟩])))))))))
    (.reg false [⟨some 36, .move (.tmp 6), none⟩,
      ⟨some 37, .binOp .add 3 (.tmp 36) (.const (.int .i64 1)) 3, none⟩,
      ⟨some 6, .assign (.tmp 37), none⟩]))))))
 (.seq (.reg false [⟨some 113, .load 72 (.tmp 2), none⟩,
    ⟨some 114, .move (.tmp 3), none⟩,
    ⟨some 115, .move (.tmp 4), none⟩,
    ⟨some 116, .move (.tmp 5), none⟩,
    ⟨none, .store 72 (.tmp 2) (.tmp 113), none⟩,
    ⟨some 3, .assign (.tmp 114), none⟩,
    ⟨some 4, .assign (.tmp 115), none⟩,
    ⟨some 5, .assign (.tmp 116), none⟩])
 .ret))))⟩
theorem sf56 : sfOf Try.f56 = some s56 := by kernel_rfl
theorem hb56 : hasBody Try.prog 56 = true := by kernel_rfl
def s57 : SF := ⟨52, [.tmp 4, .tmp 5],
 (.seq (.reg false [⟨some 4, .assign (.const (.slice none 0 0)), none⟩,
    ⟨some 5, .assign (.const (.bool false)), none⟩])
 (.seq (.reg false [⟨some 8, .move (.tmp 1), none⟩,
    ⟨some 9, .makeSlice 124 (.tmp 8) (.tmp 8), none⟩,
    ⟨some 6, .assign (.tmp 9), none⟩])
 (.seq (.seq (.reg false [⟨some 7, .assign (.const (.int .i64 0)), none⟩])
  (.block 0 (.loop (.seq (.seq (.reg false [⟨some 10, .move (.tmp 7), none⟩,
        ⟨some 11, .move (.tmp 0), none⟩,
        ⟨some 12, .call { callee := .builtin .len, args := #[.tmp 11], argTypes := #[22] }, none⟩,
        ⟨some 13, .binOp .lss 3 (.tmp 10) (.tmp 12) 3, none⟩])
     (.cond (.tmp 13)
      .skip
      (.exit 0)))
    (.seq (.block 1 (.seq (.seq (.reg true [⟨some 16, .move (.tmp 0), none⟩,
          ⟨some 17, .move (.tmp 7), none⟩,
          ⟨some 18, .indexAddr 22 (.tmp 16) (.tmp 17), none⟩,
          ⟨some 19, .load 3 (.tmp 18), none⟩,
          ⟨some 20, .binOp .lss 3 (.tmp 19) (.const (.int .i64 0)) 3, none⟩,
          ⟨some 21, .move (.tmp 20), none⟩,
          ⟨some 22, .move (.tmp 0), some (21, false)⟩,
          ⟨some 23, .move (.tmp 7), some (21, false)⟩,
          ⟨some 24, .indexAddr 22 (.tmp 22) (.tmp 23), some (21, false)⟩,
          ⟨some 25, .load 3 (.tmp 24), some (21, false)⟩,
          ⟨some 26, .move (.tmp 1), some (21, false)⟩,
          ⟨some 27, .binOp .geq 3 (.tmp 25) (.tmp 26) 3, some (21, false)⟩,
          ⟨some 28, .pick (.tmp 21) (.const (.bool true)) (.tmp 27), none⟩,
          ⟨some 29, .move (.tmp 28), none⟩,
          ⟨some 30, .move (.tmp 7), some (29, false)⟩,
          ⟨some 31, .binOp .gtr 3 (.tmp 30) (.const (.int .i64 0)) 3, some (29, false)⟩,
          ⟨some 32, .move (.tmp 31), some (29, false)⟩,
          ⟨some 33, .move (.tmp 0), some (32, true)⟩,
          ⟨some 34, .move (.tmp 7), some (32, true)⟩,
          ⟨some 35, .indexAddr 22 (.tmp 33) (.tmp 34), some (32, true)⟩,
          ⟨some 36, .load 3 (.tmp 35), some (32, true)⟩,
          ⟨some 37, .move (.tmp 0), some (32, true)⟩,
          ⟨some 38, .move (.tmp 7), some (32, true)⟩,
          ⟨some 39, .binOp .sub 3 (.tmp 38) (.const (.int .i64 1)) 3, some (32, true)⟩,
          ⟨some 40, .indexAddr 22 (.tmp 37) (.tmp 39), some (32, true)⟩,
          ⟨some 41, .load 3 (.tmp 40), some (32, true)⟩,
          ⟨some 42, .binOp .leq 3 (.tmp 36) (.tmp 41) 3, some (32, true)⟩,
          ⟨some 43, .pick (.tmp 32) (.tmp 42) (.const (.bool false)), some (29, false)⟩,
          ⟨some 44, .pick (.tmp 29) (.const (.bool true)) (.tmp 43), none⟩])
       (.cond (.tmp 44)
        (.seq (.reg false [⟨some 4, .assign (.const (.slice none 0 0)), none⟩,
            ⟨some 5, .assign (.const (.bool false)), none⟩])
         .ret)
        .skip))
      (.reg false [⟨some 45, .move (.tmp 6), none⟩,
        ⟨some 46, .move (.tmp 0), none⟩,
        ⟨some 47, .move (.tmp 7), none⟩,
        ⟨some 48, .indexAddr 22 (.tmp 46) (.tmp 47), none⟩,
        ⟨some 49, .load 3 (.tmp 48), none⟩,
        ⟨some 50, .indexAddr 124 (.tmp 45) (.tmp 49), none⟩,
        ⟨none, .store 4 (.tmp 50) (.const (.bool true)), none⟩])))
    (.reg false [⟨some 14, .move (.tmp 7), none⟩,
      ⟨some 15, .binOp .add 3 (.tmp 14) (.const (.int .i64 1)) 3, none⟩,
      ⟨some 7, .assign (.tmp 15), none⟩]))))))
 (.seq (.reg false [⟨some 51, .move (.tmp 6), none⟩,
    ⟨some 4, .assign (.tmp 51), none⟩,
    ⟨some 5, .assign (.const (.bool true)), none⟩])
 .ret))))⟩
theorem sf57 : sfOf Try.f57 = some s57 := by kernel_rfl
theorem hb57 : hasBody Try.prog 57 = true := by kernel_rfl
def s58 : SF := ⟨12, [.cell 4 81],
 (.seq (.reg false [⟨some 4, .alloc 81, none⟩])
 (.seq (.reg false [⟨some 5, .move (.tmp 0), none⟩,
    ⟨some 6, .move (.tmp 1), none⟩,
    ⟨some 7, .call { callee := .builtin .min, args := #[.tmp 5, .tmp 6], argTypes := #[3, 3] }, none⟩,
    ⟨some 8, .move (.tmp 0), none⟩,
    ⟨some 9, .move (.tmp 1), none⟩,
    ⟨some 10, .call { callee := .builtin .max, args := #[.tmp 8, .tmp 9], argTypes := #[3, 3] }, none⟩,
    ⟨some 11, .build 81 #[(0, (.tmp 7)), (1, (.tmp 10))], none⟩,
    ⟨none, .store 81 (.tmp 4) (.tmp 11), none⟩])
 .ret))⟩
theorem sf58 : sfOf Try.f58 = some s58 := by kernel_rfl
theorem hb58 : hasBody Try.prog 58 = true := by kernel_rfl
def s62 : SF := ⟨3, [.cell 0 24],
 (.seq (.reg false [⟨some 0, .alloc 24, none⟩])
 (.seq (.reg false [⟨some 1, .buildSlice 22 2 #[(0, (.const (.int .i64 14))), (1, (.const (.int .i64 18)))], none⟩,
    ⟨some 2, .build 24 #[(0, (.const (.int .i64 6))), (1, (.tmp 1))], none⟩,
    ⟨none, .store 24 (.tmp 0) (.tmp 2), none⟩])
 .ret))⟩
theorem sf62 : sfOf Try.f62 = some s62 := by kernel_rfl
theorem hb62 : hasBody Try.prog 62 = true := by kernel_rfl
def s63 : SF := ⟨11, [.cell 6 104],
 (.seq (.reg false [⟨some 6, .alloc 104, none⟩])
 (.seq (.reg false [⟨some 7, .move (.tmp 0), none⟩,
    ⟨some 8, .move (.tmp 1), none⟩,
    ⟨some 9, .move (.tmp 2), none⟩,
    ⟨some 10, .build 104 #[(0, (.tmp 7)), (1, (.tmp 8)), (2, (.tmp 9))], none⟩,
    ⟨none, .store 104 (.tmp 6) (.tmp 10), none⟩])
 .ret))⟩
theorem sf63 : sfOf Try.f63 = some s63 := by kernel_rfl
theorem hb63 : hasBody Try.prog 63 = true := by kernel_rfl
def s64 : SF := ⟨4, [.cell 0 85],
 (.seq (.reg false [⟨some 0, .alloc 85, none⟩])
 (.seq (.reg false [⟨some 1, .build 81 #[(0, (.const (.int .i64 0))), (1, (.const (.int .i64 10)))], none⟩,
    ⟨some 2, .build 81 #[(0, (.const (.int .i64 20))), (1, (.const (.int .i64 40)))], none⟩,
    ⟨some 3, .build 85 #[(0, (.tmp 1)), (1, (.tmp 2))], none⟩,
    ⟨none, .store 85 (.tmp 0) (.tmp 3), none⟩])
 .ret))⟩
theorem sf64 : sfOf Try.f64 = some s64 := by kernel_rfl
theorem hb64 : hasBody Try.prog 64 = true := by kernel_rfl
def s65 : SF := ⟨38, [.cell 6 135, .tmp 7, .tmp 8],
 (.seq (.reg false [⟨some 3, .box 24 (.tmp 0), none⟩,
    ⟨some 5, .box 25 (.tmp 2), none⟩,
    ⟨some 6, .alloc 135, none⟩,
    ⟨some 7, .assign (.const (.slice none 0 0)), none⟩,
    ⟨some 8, .assign (.const (.int .i64 0)), none⟩])
 (.seq (.seq (.reg false [⟨some 11, .load 24 (.tmp 3), none⟩,
     ⟨some 12, .call { callee := .value (.func 78), args := #[.tmp 11], argTypes := #[24] }, none⟩,
     ⟨some 10, .move (.tmp 12), none⟩,
     ⟨some 13, .extract (.tmp 10) 0, none⟩,
     ⟨some 14, .extract (.tmp 10) 1, none⟩,
     ⟨none, .store 135 (.tmp 6) (.tmp 13), none⟩,
     ⟨some 8, .assign (.tmp 14), none⟩])
  (.seq (.reg false [⟨some 15, .move (.tmp 8), none⟩,
     ⟨some 16, .binOp .neq 33 (.tmp 15) (.const (.int .i64 0)) 33, none⟩])
  (.cond (.tmp 16)
   (.seq (.reg false [⟨some 17, .load 135 (.tmp 6), none⟩,
       ⟨some 18, .move (.tmp 8), none⟩,
       ⟨none, .store 135 (.tmp 6) (.tmp 17), none⟩,
       ⟨some 7, .assign (.const (.slice none 0 0)), none⟩,
       ⟨some 8, .assign (.tmp 18), none⟩])
    .ret)
   .skip)))
 (.seq (.seq (.reg false [⟨some 19, .load 135 (.tmp 6), none⟩,
     ⟨some 20, .move (.tmp 1), none⟩,
     ⟨some 21, .load 25 (.tmp 5), none⟩,
     ⟨some 22, .call { callee := .value (.func 94), args := #[.tmp 19, .tmp 20, .tmp 21], argTypes := #[135, 22, 25] }, none⟩,
     ⟨some 9, .assign (.tmp 22), none⟩])
  (.seq (.reg false [⟨some 23, .move (.tmp 9), none⟩,
     ⟨some 24, .binOp .neq 33 (.tmp 23) (.const (.int .i64 0)) 33, none⟩])
  (.cond (.tmp 24)
   (.seq (.reg false [⟨some 25, .load 135 (.tmp 6), none⟩,
       ⟨some 26, .move (.tmp 9), none⟩,
       ⟨none, .store 135 (.tmp 6) (.tmp 25), none⟩,
       ⟨some 7, .assign (.const (.slice none 0 0)), none⟩,
       ⟨some 8, .assign (.tmp 26), none⟩])
    .ret)
   .skip)))
 (.seq (.reg false [⟨some 27, .load 135 (.tmp 6), none⟩,
    ⟨some 28, .move (.tmp 1), none⟩,
    ⟨some 29, .call { callee := .value (.func 96), args := #[.tmp 27, .tmp 28], argTypes := #[135, 22] }, none⟩,
    ⟨some 30, .makeFunc (.func 97) #[] #[.tmp 5, .tmp 6], none⟩,
    ⟨some 31, .call { callee := .value (.func 95), args := #[.tmp 29, .tmp 30], argTypes := #[41, 140] }, none⟩,
    ⟨some 7, .assign (.tmp 31), none⟩])
 (.seq (.seq (.reg false [⟨some 32, .move (.tmp 7), none⟩,
     ⟨some 33, .call { callee := .builtin .len, args := #[.tmp 32], argTypes := #[41] }, none⟩,
     ⟨some 34, .binOp .eql 3 (.tmp 33) (.const (.int .i64 0)) 3, none⟩])
  (.cond (.tmp 34)
   (.seq (.reg false [⟨some 35, .load 135 (.tmp 6), none⟩,
       ⟨none, .store 135 (.tmp 6) (.tmp 35), none⟩,
       ⟨some 7, .assign (.const (.slice none 0 0)), none⟩,
       ⟨some 8, .assign (.const (.int .i64 9)), none⟩])
    .ret)
   .skip))
 (.seq (.reg false [⟨some 36, .load 135 (.tmp 6), none⟩,
    ⟨some 37, .move (.tmp 7), none⟩,
    ⟨none, .store 135 (.tmp 6) (.tmp 36), none⟩,
    ⟨some 7, .assign (.tmp 37), none⟩,
    ⟨some 8, .assign (.const (.int .i64 0)), none⟩])
 .ret))))))⟩
theorem sf65 : sfOf Try.f65 = some s65 := by kernel_rfl
theorem hb65 : hasBody Try.prog 65 = true := by kernel_rfl
def s66 : SF := ⟨8, [.tmp 3],
 (.seq (.reg false [⟨some 3, .assign (.const (.bool false)), none⟩])
 (.seq (.reg false [⟨some 4, .move (.tmp 0), none⟩,
    ⟨some 5, .makeFunc (.func 68) #[] #[.tmp 1], none⟩,
    ⟨some 6, .call { callee := .value (.func 67), args := #[.tmp 4, .tmp 5], argTypes := #[32, 139] }, none⟩,
    ⟨some 7, .unOp .not 4 (.tmp 6), none⟩,
    ⟨some 3, .assign (.tmp 7), none⟩])
 .ret))⟩
theorem sf66 : sfOf Try.f66 = some s66 := by kernel_rfl
theorem hb66 : hasBody Try.prog 66 = true := by kernel_rfl
def s67 : SF := ⟨9, [.tmp 4],
 (.seq (.reg false [⟨some 4, .assign (.const (.bool false)), none⟩])
 (.seq (.reg false [⟨some 5, .move (.tmp 0), none⟩,
    ⟨some 6, .move (.tmp 1), none⟩,
    ⟨some 7, .call { callee := .value (.func 100), args := #[.tmp 5, .tmp 6], argTypes := #[32, 139] }, none⟩,
    ⟨some 8, .binOp .geq 3 (.tmp 7) (.const (.int .i64 0)) 3, none⟩,
    ⟨some 4, .assign (.tmp 8), none⟩])
 .ret))⟩
theorem sf67 : sfOf Try.f67 = some s67 := by kernel_rfl
theorem hb67 : hasBody Try.prog 67 = true := by kernel_rfl
def s68 : SF := ⟨8, [.tmp 3],
 (.seq (.reg false [⟨some 2, .box 104 (.tmp 0), none⟩,
    ⟨some 3, .assign (.const (.bool false)), none⟩])
 (.seq (.reg false [⟨some 4, .fieldAddr 104 (.tmp 2) 0, none⟩,
    ⟨some 5, .load 3 (.tmp 4), none⟩,
    ⟨some 6, .load 3 (.tmp 1), none⟩,
    ⟨some 7, .binOp .eql 3 (.tmp 5) (.tmp 6) 3, none⟩,
    ⟨some 3, .assign (.tmp 7), none⟩])
 .ret))⟩
theorem sf68 : sfOf Try.f68 = some s68 := by kernel_rfl
theorem hb68 : hasBody Try.prog 68 = true := by kernel_rfl
def s69 : SF := ⟨9, [.tmp 4],
 (.seq (.reg false [⟨some 4, .assign (.const (.bool false)), none⟩])
 (.seq (.reg false [⟨some 5, .move (.tmp 0), none⟩,
    ⟨some 6, .move (.tmp 1), none⟩,
    ⟨some 7, .call { callee := .value (.func 101), args := #[.tmp 5, .tmp 6], argTypes := #[41, 140] }, none⟩,
    ⟨some 8, .binOp .geq 3 (.tmp 7) (.const (.int .i64 0)) 3, none⟩,
    ⟨some 4, .assign (.tmp 8), none⟩])
 .ret))⟩
theorem sf69 : sfOf Try.f69 = some s69 := by kernel_rfl
theorem hb69 : hasBody Try.prog 69 = true := by kernel_rfl
def s73 : SF := ⟨6, [.tmp 2],
 (.seq (.reg false [⟨some 2, .assign (.const (.bool false)), none⟩])
 (.seq (.reg false [⟨some 3, .move (.tmp 0), none⟩,
    ⟨some 4, .buildSlice 22 1 #[(0, (.tmp 3))], none⟩,
    ⟨some 5, .call { callee := .value (.func 88), args := #[.const (.int .i64 1), .const (.int .i64 20), .tmp 4], argTypes := #[3, 3, 22] }, none⟩,
    ⟨some 2, .assign (.tmp 5), none⟩])
 .ret))⟩
theorem sf73 : sfOf Try.f73 = some s73 := by kernel_rfl
theorem hb73 : hasBody Try.prog 73 = true := by kernel_rfl
def s74 : SF := ⟨6, [.tmp 4],
 (.seq (.reg false [⟨some 2, .box 135 (.tmp 0), none⟩,
    ⟨some 3, .box 3 (.tmp 1), none⟩,
    ⟨some 4, .assign (.const .nilFunc), none⟩])
 (.seq (.reg false [⟨some 5, .makeFunc (.func 103) #[] #[.tmp 3, .tmp 2], none⟩,
    ⟨some 4, .assign (.tmp 5), none⟩])
 .ret))⟩
theorem sf74 : sfOf Try.f74 = some s74 := by kernel_rfl
theorem hb74 : hasBody Try.prog 74 = true := by kernel_rfl
end Go.Dw.Seat
end
section
namespace Go.Dw.Seat
open Go Go.Dw Go.Proofs
def s75 : SF := ⟨21, [.tmp 6],
 (.seq (.reg false [⟨some 3, .box 135 (.tmp 0), none⟩,
    ⟨some 5, .box 149 (.tmp 2), none⟩,
    ⟨some 6, .assign (.const (.bool false)), none⟩])
 (.seq (.reg true [⟨some 7, .load 135 (.tmp 3), none⟩,
    ⟨some 8, .move (.tmp 1), none⟩,
    ⟨some 9, .fieldAddr 149 (.tmp 5) 0, none⟩,
    ⟨some 10, .load 3 (.tmp 9), none⟩,
    ⟨some 11, .call { callee := .value (.func 80), args := #[.tmp 7, .tmp 8, .tmp 10], argTypes := #[135, 32, 3] }, none⟩,
    ⟨some 12, .fieldAddr 149 (.tmp 5) 1, none⟩,
    ⟨some 13, .load 3 (.tmp 12), none⟩,
    ⟨some 14, .indexAddr 22 (.tmp 11) (.tmp 13), none⟩,
    ⟨some 15, .load 3 (.tmp 14), none⟩,
    ⟨some 16, .fieldAddr 149 (.tmp 5) 2, none⟩,
    ⟨some 17, .load 3 (.tmp 16), none⟩,
    ⟨some 18, .binOp .shr 3 (.tmp 15) (.tmp 17) 3, none⟩,
    ⟨some 19, .binOp .and 3 (.tmp 18) (.const (.int .i64 1)) 3, none⟩,
    ⟨some 20, .binOp .eql 3 (.tmp 19) (.const (.int .i64 1)) 3, none⟩,
    ⟨some 6, .assign (.tmp 20), none⟩])
 .ret))⟩
theorem sf75 : sfOf Try.f75 = some s75 := by kernel_rfl
theorem hb75 : hasBody Try.prog 75 = true := by kernel_rfl
def s77 : SF := ⟨35, [.cell 4 135, .tmp 5],
 (.seq (.reg false [⟨some 2, .box 24 (.tmp 0), none⟩,
    ⟨some 4, .alloc 135, none⟩,
    ⟨some 5, .assign (.const (.int .i64 0)), none⟩])
 (.seq (.reg false [⟨some 12, .load 24 (.tmp 2), none⟩,
    ⟨some 13, .call { callee := .value (.func 78), args := #[.tmp 12], argTypes := #[24] }, none⟩,
    ⟨some 11, .move (.tmp 13), none⟩,
    ⟨some 14, .extract (.tmp 11) 0, none⟩,
    ⟨some 15, .extract (.tmp 11) 1, none⟩,
    ⟨some 6, .alloc 135, none⟩,
    ⟨none, .store 135 (.tmp 6) (.tmp 14), none⟩,
    ⟨some 7, .assign (.tmp 15), none⟩])
 (.seq (.seq (.reg false [⟨some 16, .move (.tmp 7), none⟩,
     ⟨some 17, .binOp .neq 33 (.tmp 16) (.const (.int .i64 0)) 33, none⟩])
  (.cond (.tmp 17)
   (.seq (.reg false [⟨some 18, .load 135 (.tmp 6), none⟩,
       ⟨some 19, .move (.tmp 7), none⟩,
       ⟨none, .store 135 (.tmp 4) (.tmp 18), none⟩,
       ⟨some 5, .assign (.tmp 19), none⟩])
    .ret)
   .skip))
 (.seq (.seq (.reg false [⟨some 20, .move (.tmp 1), none⟩,
     ⟨some 21, .call { callee := .builtin .len, args := #[.tmp 20], argTypes := #[41] }, none⟩,
     ⟨some 22, .move (.const (.int .i64 0)), none⟩])
  (.block 0 (.loop (.seq (.reg false [⟨some 23, .binOp .lss 3 (.tmp 22) (.tmp 21) 3, none⟩])
    (.seq (.cond (.tmp 23)
      .skip
      (.exit 0))
    (.seq (.block 1 (.seq (.reg false [⟨some 24, .indexAddr 41 (.tmp 20) (.tmp 22), none⟩,
         ⟨some 25, .load 32 (.tmp 24), none⟩,
         ⟨some 9, .assign (.tmp 25), none⟩])
      (.seq (.reg false [⟨some 26, .load 135 (.tmp 6), none⟩,
         ⟨some 27, .move (.tmp 9), none⟩,
         ⟨some 28, .call { callee := .value (.func 105), args := #[.tmp 26, .tmp 27], argTypes := #[135, 32] }, none⟩,
         ⟨some 10, .assign (.tmp 28), none⟩])
      (.seq (.reg false [⟨some 29, .move (.tmp 10), none⟩,
         ⟨some 30, .binOp .neq 33 (.tmp 29) (.const (.int .i64 0)) 33, none⟩])
      (.cond (.tmp 30)
       (.seq (.reg false [⟨some 31, .load 135 (.tmp 6), none⟩,
           ⟨some 32, .move (.tmp 10), none⟩,
           ⟨none, .store 135 (.tmp 4) (.tmp 31), none⟩,
           ⟨some 5, .assign (.tmp 32), none⟩])
        .ret)
       .skip)))))
    (.reg false [⟨some 33, .binOp .add 3 (.tmp 22) (.const (.int .i64 1)) 3, none⟩,
      ⟨some 22, .move (.tmp 33), none⟩])))))))
 (.seq (.reg false [⟨some 34, .load 135 (.tmp 6), none⟩,
    ⟨none, .store 135 (.tmp 4) (.tmp 34), none⟩,
    ⟨some 5, .assign (.const (.int .i64 0)), none⟩])
 .ret)))))⟩
theorem sf77 : sfOf Try.f77 = some s77 := by kernel_rfl
theorem hb77 : hasBody Try.prog 77 = true := by kernel_rfl
def s78 : SF := ⟨35, [.cell 2 135, .tmp 3],
 (.seq (.reg false [⟨some 1, .box 24 (.tmp 0), none⟩,
    ⟨some 2, .alloc 135, none⟩,
    ⟨some 3, .assign (.const (.int .i64 0)), none⟩])
 (.seq (.block 0 (.seq (.reg false [⟨some 5, .fieldAddr 24 (.tmp 1) 0, none⟩,
      ⟨some 6, .load 3 (.tmp 5), none⟩,
      ⟨some 7, .buildSlice 22 1 #[(0, (.tmp 6))], none⟩,
      ⟨some 8, .call { callee := .value (.func 88), args := #[.const (.int .i64 1), .const (.int .i64 16), .tmp 7], argTypes := #[3, 3, 22] }, none⟩,
      ⟨some 9, .unOp .not 4 (.tmp 8), none⟩,
      ⟨some 4, .assign (.tmp 9), none⟩])
   (.cond (.tmp 4)
    (.seq (.reg false [⟨some 10, .load 135 (.tmp 2), none⟩,
        ⟨none, .store 135 (.tmp 2) (.tmp 10), none⟩,
        ⟨some 3, .assign (.const (.int .i64 3)), none⟩])
     .ret)
    (.seq (.reg false [⟨some 12, .fieldAddr 24 (.tmp 1) 1, none⟩,
        ⟨some 13, .load 22 (.tmp 12), none⟩,
        ⟨some 14, .call { callee := .builtin .len, args := #[.tmp 13], argTypes := #[22] }, none⟩,
        ⟨some 15, .binOp .gtr 3 (.tmp 14) (.const (.int .i64 6)) 3, none⟩,
        ⟨some 11, .assign (.tmp 15), none⟩])
     (.cond (.tmp 11)
      (.seq (.reg false [⟨some 16, .load 135 (.tmp 2), none⟩,
          ⟨none, .store 135 (.tmp 2) (.tmp 16), none⟩,
          ⟨some 3, .assign (.const (.int .i64 5)), none⟩])
       .ret)
      (.seq (.reg false [⟨some 18, .fieldAddr 24 (.tmp 1) 1, none⟩,
          ⟨some 19, .load 22 (.tmp 18), none⟩,
          ⟨some 20, .call { callee := .builtin .len, args := #[.tmp 19], argTypes := #[22] }, none⟩,
          ⟨some 21, .binOp .eql 3 (.tmp 20) (.const (.int .i64 0)) 3, none⟩,
          ⟨some 17, .assign (.tmp 21), none⟩])
       (.cond (.tmp 17)
        (.seq (.reg false [⟨some 22, .load 135 (.tmp 2), none⟩,
            ⟨none, .store 135 (.tmp 2) (.tmp 22), none⟩,
            ⟨some 3, .assign (.const (.int .i64 7)), none⟩])
         .ret)
        (.seq (.reg true [⟨some 24, .fieldAddr 24 (.tmp 1) 0, none⟩,
            ⟨some 25, .load 3 (.tmp 24), none⟩,
            ⟨some 26, .binOp .shl 3 (.const (.int .i64 1)) (.tmp 25) 3, none⟩,
            ⟨some 27, .binOp .sub 3 (.tmp 26) (.const (.int .i64 1)) 3, none⟩,
            ⟨some 28, .fieldAddr 24 (.tmp 1) 1, none⟩,
            ⟨some 29, .load 22 (.tmp 28), none⟩,
            ⟨some 30, .call { callee := .value (.func 88), args := #[.const (.int .i64 0), .tmp 27, .tmp 29], argTypes := #[3, 3, 22] }, none⟩,
            ⟨some 31, .unOp .not 4 (.tmp 30), none⟩,
            ⟨some 23, .assign (.tmp 31), none⟩])
         (.cond (.tmp 23)
          (.seq (.reg false [⟨some 32, .load 135 (.tmp 2), none⟩,
              ⟨none, .store 135 (.tmp 2) (.tmp 32), none⟩,
              ⟨some 3, .assign (.const (.int .i64 2)), none⟩])
           .ret)
          .skip)))))))))
 (.seq (.reg false [⟨some 33, .load 24 (.tmp 1), none⟩,
    ⟨some 34, .build 135 #[(0, (.tmp 33))], none⟩,
    ⟨none, .store 135 (.tmp 2) (.tmp 34), none⟩,
    ⟨some 3, .assign (.const (.int .i64 0)), none⟩])
 .ret)))⟩
theorem sf78 : sfOf Try.f78 = some s78 := by kernel_rfl
theorem hb78 : hasBody Try.prog 78 = true := by kernel_rfl
def s79 : SF := ⟨18, [.tmp 4],
 (.seq (.reg false [⟨some 4, .assign (.const (.slice none 0 0)), none⟩])
 (.seq (.seq (.reg false [⟨some 6, .load 3 (.tmp 1), none⟩,
     ⟨some 7, .move (.const (.int .i64 0)), none⟩])
  (.block 0 (.loop (.seq (.reg false [⟨some 8, .binOp .lss 3 (.tmp 7) (.tmp 6) 3, none⟩])
    (.seq (.cond (.tmp 8)
      .skip
      (.exit 0))
    (.seq (.block 1 (.seq (.reg false [⟨some 9, .move (.tmp 7), none⟩,
         ⟨some 5, .assign (.tmp 9), none⟩])
      (.reg false [⟨some 10, .move (.tmp 4), none⟩,
        ⟨some 11, .load 135 (.tmp 2), none⟩,
        ⟨some 12, .move (.tmp 0), none⟩,
        ⟨some 13, .move (.tmp 5), none⟩,
        ⟨some 14, .call { callee := .value (.func 80), args := #[.tmp 11, .tmp 12, .tmp 13], argTypes := #[135, 32, 3] }, none⟩,
        ⟨some 15, .call { callee := .builtin .append, args := #[.tmp 10, .tmp 14], argTypes := #[22, 22] }, none⟩,
        ⟨some 4, .assign (.tmp 15), none⟩])))
    (.reg false [⟨some 16, .binOp .add 3 (.tmp 7) (.const (.int .i64 1)) 3, none⟩,
      ⟨some 7, .move (.tmp 16), none⟩])))))))
 (.seq (.reg false [⟨some 17, .move (.tmp 4), none⟩,
    ⟨some 4, .assign (.tmp 17), none⟩])
 .ret)))⟩
theorem sf79 : sfOf Try.f79 = some s79 := by kernel_rfl
theorem hb79 : hasBody Try.prog 79 = true := by kernel_rfl
def s80 : SF := ⟨40, [.tmp 6],
 (.seq (.reg false [⟨some 3, .box 135 (.tmp 0), none⟩,
    ⟨some 6, .assign (.const (.slice none 0 0)), none⟩])
 (.seq (.reg false [⟨some 10, .fieldAddr 135 (.tmp 3) 0, none⟩,
    ⟨some 11, .fieldAddr 24 (.tmp 10) 1, none⟩,
    ⟨some 12, .load 22 (.tmp 11), none⟩,
    ⟨some 13, .call { callee := .value (.func 106), args := #[.tmp 12], argTypes := #[22] }, none⟩,
    ⟨some 7, .assign (.tmp 13), none⟩])
 (.seq (.seq (.reg false [⟨some 14, .move (.tmp 1), none⟩,
     ⟨some 15, .call { callee := .builtin .len, args := #[.tmp 14], argTypes := #[32] }, none⟩,
     ⟨some 16, .move (.const (.int .i64 0)), none⟩])
  (.block 0 (.loop (.seq (.reg false [⟨some 17, .binOp .lss 3 (.tmp 16) (.tmp 15) 3, none⟩])
    (.seq (.cond (.tmp 17)
      .skip
      (.exit 0))
    (.seq (.block 1 (.seq (.reg false [⟨some 18, .indexAddr 32 (.tmp 14) (.tmp 16), none⟩,
         ⟨some 19, .load 104 (.tmp 18), none⟩,
         ⟨some 9, .alloc 104, none⟩,
         ⟨none, .store 104 (.tmp 9) (.tmp 19), none⟩])
      (.seq (.reg false [⟨some 20, .move (.tmp 2), none⟩,
         ⟨some 21, .fieldAddr 104 (.tmp 9) 2, none⟩,
         ⟨some 22, .load 3 (.tmp 21), none⟩,
         ⟨some 23, .binOp .geq 3 (.tmp 20) (.tmp 22) 3, none⟩])
      (.cond (.tmp 23)
       (.reg true [⟨some 24, .move (.tmp 7), none⟩,
          ⟨some 25, .fieldAddr 104 (.tmp 9) 0, none⟩,
          ⟨some 26, .load 3 (.tmp 25), none⟩,
          ⟨some 27, .load 135 (.tmp 3), none⟩,
          ⟨some 28, .move (.tmp 7), none⟩,
          ⟨some 29, .fieldAddr 104 (.tmp 9) 0, none⟩,
          ⟨some 30, .load 3 (.tmp 29), none⟩,
          ⟨some 31, .indexAddr 22 (.tmp 28) (.tmp 30), none⟩,
          ⟨some 32, .load 3 (.tmp 31), none⟩,
          ⟨some 33, .fieldAddr 104 (.tmp 9) 1, none⟩,
          ⟨some 34, .load 102 (.tmp 33), none⟩,
          ⟨some 35, .move (.tmp 2), none⟩,
          ⟨some 36, .call { callee := .value (.func 107), args := #[.tmp 27, .tmp 32, .tmp 34, .tmp 35], argTypes := #[135, 3, 102, 3] }, none⟩,
          ⟨some 37, .indexAddr 22 (.tmp 24) (.tmp 26), none⟩,
          ⟨none, .store 3 (.tmp 37) (.tmp 36), none⟩])
       .skip))))
    (.reg false [⟨some 38, .binOp .add 3 (.tmp 16) (.const (.int .i64 1)) 3, none⟩,
      ⟨some 16, .move (.tmp 38), none⟩])))))))
 (.seq (.reg false [⟨some 39, .move (.tmp 7), none⟩,
    ⟨some 6, .assign (.tmp 39), none⟩])
 .ret))))⟩
theorem sf80 : sfOf Try.f80 = some s80 := by kernel_rfl
theorem hb80 : hasBody Try.prog 80 = true := by kernel_rfl
def s81 : SF := ⟨19, [.tmp 4],
 (.seq (.reg false [⟨some 4, .assign (.const (.int .i64 0)), none⟩])
 (.seq (.seq (.reg false [⟨some 6, .move (.tmp 0), none⟩,
     ⟨some 7, .call { callee := .builtin .len, args := #[.tmp 6], argTypes := #[65] }, none⟩,
     ⟨some 8, .move (.const (.int .i64 0)), none⟩])
  (.block 0 (.loop (.seq (.reg false [⟨some 9, .binOp .lss 3 (.tmp 8) (.tmp 7) 3, none⟩])
    (.seq (.cond (.tmp 9)
      .skip
      (.exit 0))
    (.seq (.block 1 (.seq (.reg false [⟨some 10, .move (.tmp 8), none⟩,
         ⟨some 5, .assign (.tmp 10), none⟩])
      (.seq (.reg false [⟨some 11, .move (.tmp 1), none⟩,
         ⟨some 12, .move (.tmp 0), none⟩,
         ⟨some 13, .move (.tmp 5), none⟩,
         ⟨some 14, .indexAddr 65 (.tmp 12) (.tmp 13), none⟩,
         ⟨some 15, .load 22 (.tmp 14), none⟩,
         ⟨some 16, .call { callee := .value (.tmp 11), args := #[.tmp 15], argTypes := #[22] }, none⟩])
      (.cond (.tmp 16)
       (.seq (.reg false [⟨some 17, .move (.tmp 5), none⟩,
           ⟨some 4, .assign (.tmp 17), none⟩])
        .ret)
       .skip))))
    (.reg false [⟨some 18, .binOp .add 3 (.tmp 8) (.const (.int .i64 1)) 3, none⟩,
      ⟨some 8, .move (.tmp 18), none⟩])))))))
 (.seq (.reg false [⟨some 4, .assign (.const (.int .i64 (-1))), none⟩])
 .ret)))⟩
theorem sf81 : sfOf Try.f81 = some s81 := by kernel_rfl
theorem hb81 : hasBody Try.prog 81 = true := by kernel_rfl
def s82 : SF := ⟨18, [.tmp 5],
 (.seq (.reg false [⟨some 5, .assign (.const (.bool false)), none⟩])
 (.seq (.reg true [⟨some 6, .load 155 (.tmp 1), none⟩,
    ⟨some 7, .load 41 (.tmp 2), none⟩,
    ⟨some 8, .move (.tmp 0), none⟩,
    ⟨some 9, .indexAddr 22 (.tmp 8) (.const (.int .i64 0)), none⟩,
    ⟨some 10, .load 3 (.tmp 9), none⟩,
    ⟨some 11, .indexAddr 41 (.tmp 7) (.tmp 10), none⟩,
    ⟨some 12, .load 32 (.tmp 11), none⟩,
    ⟨some 13, .call { callee := .value (.tmp 6), args := #[.tmp 12], argTypes := #[32] }, none⟩,
    ⟨some 14, .load 155 (.tmp 1), none⟩,
    ⟨some 15, .load 32 (.tmp 3), none⟩,
    ⟨some 16, .call { callee := .value (.tmp 14), args := #[.tmp 15], argTypes := #[32] }, none⟩,
    ⟨some 17, .call { callee := .value (.func 83), args := #[.tmp 13, .tmp 16], argTypes := #[22, 22] }, none⟩,
    ⟨some 5, .assign (.tmp 17), none⟩])
 .ret))⟩
theorem sf82 : sfOf Try.f82 = some s82 := by kernel_rfl
theorem hb82 : hasBody Try.prog 82 = true := by kernel_rfl
def s83 : SF := ⟨26, [.tmp 4],
 (.seq (.reg false [⟨some 4, .assign (.const (.bool false)), none⟩])
 (.seq (.seq (.reg false [⟨some 6, .move (.tmp 0), none⟩,
     ⟨some 7, .call { callee := .builtin .len, args := #[.tmp 6], argTypes := #[22] }, none⟩,
     ⟨some 8, .move (.tmp 1), none⟩,
     ⟨some 9, .call { callee := .builtin .len, args := #[.tmp 8], argTypes := #[22] }, none⟩,
     ⟨some 10, .binOp .neq 3 (.tmp 7) (.tmp 9) 3, none⟩])
  (.cond (.tmp 10)
   (.seq (.reg false [⟨some 4, .assign (.const (.bool false)), none⟩])
    .ret)
   .skip))
 (.seq (.seq (.reg false [⟨some 11, .move (.tmp 0), none⟩,
     ⟨some 12, .call { callee := .builtin .len, args := #[.tmp 11], argTypes := #[22] }, none⟩,
     ⟨some 13, .move (.const (.int .i64 0)), none⟩])
  (.block 0 (.loop (.seq (.reg false [⟨some 14, .binOp .lss 3 (.tmp 13) (.tmp 12) 3, none⟩])
    (.seq (.cond (.tmp 14)
      .skip
      (.exit 0))
    (.seq (.block 1 (.seq (.reg false [⟨some 15, .move (.tmp 13), none⟩,
         ⟨some 5, .assign (.tmp 15), none⟩])
      (.seq (.reg true [⟨some 16, .move (.tmp 0), none⟩,
         ⟨some 17, .move (.tmp 5), none⟩,
         ⟨some 18, .indexAddr 22 (.tmp 16) (.tmp 17), none⟩,
         ⟨some 19, .load 3 (.tmp 18), none⟩,
         ⟨some 20, .move (.tmp 1), none⟩,
         ⟨some 21, .move (.tmp 5), none⟩,
         ⟨some 22, .indexAddr 22 (.tmp 20) (.tmp 21), none⟩,
         ⟨some 23, .load 3 (.tmp 22), none⟩,
         ⟨some 24, .binOp .neq 3 (.tmp 19) (.tmp 23) 3, none⟩])
      (.cond (.tmp 24)
       (.seq (.reg false [⟨some 4, .assign (.const (.bool false)), none⟩])
        .ret)
       .skip))))
    (.reg false [⟨some 25, .binOp .add 3 (.tmp 13) (.const (.int .i64 1)) 3, none⟩,
      ⟨some 13, .move (.tmp 25), none⟩])))))))
 (.seq (.reg false [⟨some 4, .assign (.const (.bool true)), none⟩])
 .ret))))⟩
theorem sf83 : sfOf Try.f83 = some s83 := by kernel_rfl
theorem hb83 : hasBody Try.prog 83 = true := by kernel_rfl
def s84 : SF := ⟨6, [.tmp 2],
 (.seq (.reg false [⟨some 1, .box 85 (.tmp 0), none⟩,
    ⟨some 2, .assign (.const (.bool false)), none⟩])
 (.seq (.reg false [⟨some 3, .load 85 (.tmp 1), none⟩,
    ⟨some 4, .call { callee := .value (.func 85), args := #[.tmp 3], argTypes := #[85] }, none⟩,
    ⟨some 5, .unOp .not 4 (.tmp 4), none⟩,
    ⟨some 2, .assign (.tmp 5), none⟩])
 .ret))⟩
theorem sf84 : sfOf Try.f84 = some s84 := by kernel_rfl
theorem hb84 : hasBody Try.prog 84 = true := by kernel_rfl
def s85 : SF := ⟨11, [.tmp 2],
 (.seq (.reg false [⟨some 1, .box 85 (.tmp 0), none⟩,
    ⟨some 2, .assign (.const (.bool false)), none⟩])
 (.seq (.reg false [⟨some 3, .fieldAddr 85 (.tmp 1) 0, none⟩,
    ⟨some 4, .load 81 (.tmp 3), none⟩,
    ⟨some 5, .call { callee := .value (.func 108), args := #[.tmp 4, .const (.int .i64 0), .const (.int .i64 30)], argTypes := #[81, 3, 3] }, none⟩,
    ⟨some 6, .move (.tmp 5), none⟩,
    ⟨some 7, .fieldAddr 85 (.tmp 1) 1, some (6, true)⟩,
    ⟨some 8, .load 81 (.tmp 7), some (6, true)⟩,
    ⟨some 9, .call { callee := .value (.func 108), args := #[.tmp 8, .const (.int .i64 0), .const (.int .i64 100)], argTypes := #[81, 3, 3] }, some (6, true)⟩,
    ⟨some 10, .pick (.tmp 6) (.tmp 9) (.const (.bool false)), none⟩,
    ⟨some 2, .assign (.tmp 10), none⟩])
 .ret))⟩
theorem sf85 : sfOf Try.f85 = some s85 := by kernel_rfl
theorem hb85 : hasBody Try.prog 85 = true := by kernel_rfl
def s86 : SF := ⟨15, [.tmp 2],
 (.seq (.reg false [⟨some 1, .box 72 (.tmp 0), none⟩,
    ⟨some 2, .assign (.const (.bool false)), none⟩])
 (.seq (.reg false [⟨some 3, .fieldAddr 72 (.tmp 1) 0, none⟩,
    ⟨some 4, .load 3 (.tmp 3), none⟩,
    ⟨some 5, .buildSlice 22 1 #[(0, (.tmp 4))], none⟩,
    ⟨some 6, .call { callee := .value (.func 88), args := #[.const (.int .i64 1), .const (.int .i64 600), .tmp 5], argTypes := #[3, 3, 22] }, none⟩,
    ⟨some 7, .move (.tmp 6), none⟩,
    ⟨some 8, .fieldAddr 72 (.tmp 1) 1, some (7, true)⟩,
    ⟨some 9, .load 3 (.tmp 8), some (7, true)⟩,
    ⟨some 10, .fieldAddr 72 (.tmp 1) 2, some (7, true)⟩,
    ⟨some 11, .load 3 (.tmp 10), some (7, true)⟩,
    ⟨some 12, .buildSlice 22 2 #[(0, (.tmp 9)), (1, (.tmp 11))], some (7, true)⟩,
    ⟨some 13, .call { callee := .value (.func 88), args := #[.const (.int .i64 0), .const (.int .i64 20), .tmp 12], argTypes := #[3, 3, 22] }, some (7, true)⟩,
    ⟨some 14, .pick (.tmp 7) (.tmp 13) (.const (.bool false)), none⟩,
    ⟨some 2, .assign (.tmp 14), none⟩])
 .ret))⟩
theorem sf86 : sfOf Try.f86 = some s86 := by kernel_rfl
theorem hb86 : hasBody Try.prog 86 = true := by kernel_rfl
def s87 : SF := ⟨9, [.tmp 4],
 (.seq (.reg false [⟨some 4, .assign (.const (.bool false)), none⟩])
 (.seq (.reg false [⟨some 5, .move (.tmp 0), none⟩,
    ⟨some 6, .move (.tmp 1), none⟩,
    ⟨some 7, .call { callee := .value (.func 109), args := #[.tmp 5, .tmp 6], argTypes := #[73, 86] }, none⟩,
    ⟨some 8, .binOp .geq 3 (.tmp 7) (.const (.int .i64 0)) 3, none⟩,
    ⟨some 4, .assign (.tmp 8), none⟩])
 .ret))⟩
theorem sf87 : sfOf Try.f87 = some s87 := by kernel_rfl
theorem hb87 : hasBody Try.prog 87 = true := by kernel_rfl
def s88 : SF := ⟨11, [.tmp 6],
 (.seq (.reg false [⟨some 3, .box 3 (.tmp 0), none⟩,
    ⟨some 4, .box 3 (.tmp 1), none⟩,
    ⟨some 6, .assign (.const (.bool false)), none⟩])
 (.seq (.reg false [⟨some 7, .move (.tmp 2), none⟩,
    ⟨some 8, .makeFunc (.func 111) #[] #[.tmp 3, .tmp 4], none⟩,
    ⟨some 9, .call { callee := .value (.func 110), args := #[.tmp 7, .tmp 8], argTypes := #[22, 145] }, none⟩,
    ⟨some 10, .unOp .not 4 (.tmp 9), none⟩,
    ⟨some 6, .assign (.tmp 10), none⟩])
 .ret))⟩
theorem sf88 : sfOf Try.f88 = some s88 := by kernel_rfl
theorem hb88 : hasBody Try.prog 88 = true := by kernel_rfl
def s89 : SF := ⟨22, [.cell 4 81],
 (.seq (.reg false [⟨some 2, .box 161 (.tmp 0), none⟩,
    ⟨some 3, .box 85 (.tmp 1), none⟩,
    ⟨some 4, .alloc 81, none⟩])
 (.seq (.reg true [⟨some 5, .load 161 (.tmp 2), none⟩,
    ⟨some 6, .fieldAddr 85 (.tmp 3) 0, none⟩,
    ⟨some 7, .fieldAddr 81 (.tmp 6) 1, none⟩,
    ⟨some 8, .load 3 (.tmp 7), none⟩,
    ⟨some 9, .fieldAddr 85 (.tmp 3) 1, none⟩,
    ⟨some 10, .fieldAddr 81 (.tmp 9) 0, none⟩,
    ⟨some 11, .load 3 (.tmp 10), none⟩,
    ⟨some 12, .call { callee := .value (.func 112), args := #[.tmp 5, .tmp 8, .tmp 11], argTypes := #[161, 3, 3] }, none⟩,
    ⟨some 13, .load 161 (.tmp 2), none⟩,
    ⟨some 14, .fieldAddr 85 (.tmp 3) 0, none⟩,
    ⟨some 15, .fieldAddr 81 (.tmp 14) 0, none⟩,
    ⟨some 16, .load 3 (.tmp 15), none⟩,
    ⟨some 17, .fieldAddr 85 (.tmp 3) 1, none⟩,
    ⟨some 18, .fieldAddr 81 (.tmp 17) 1, none⟩,
    ⟨some 19, .load 3 (.tmp 18), none⟩,
    ⟨some 20, .call { callee := .value (.func 112), args := #[.tmp 13, .tmp 16, .tmp 19], argTypes := #[161, 3, 3] }, none⟩,
    ⟨some 21, .build 81 #[(0, (.tmp 12)), (1, (.tmp 20))], none⟩,
    ⟨none, .store 81 (.tmp 4) (.tmp 21), none⟩])
 .ret))⟩
theorem sf89 : sfOf Try.f89 = some s89 := by kernel_rfl
theorem hb89 : hasBody Try.prog 89 = true := by kernel_rfl
def s90 : SF := ⟨17, [.tmp 4],
 (.seq (.reg false [⟨some 4, .assign (.const (.bool false)), none⟩])
 (.seq (.reg false [⟨some 5, .move (.tmp 0), none⟩,
    ⟨some 6, .call { callee := .value (.func 113), args := #[.tmp 5], argTypes := #[3] }, none⟩,
    ⟨some 7, .move (.tmp 6), none⟩,
    ⟨some 8, .move (.tmp 1), some (7, true)⟩,
    ⟨some 9, .call { callee := .value (.func 113), args := #[.tmp 8], argTypes := #[3] }, some (7, true)⟩,
    ⟨some 10, .unOp .not 4 (.tmp 9), some (7, true)⟩,
    ⟨some 11, .pick (.tmp 7) (.tmp 10) (.const (.bool false)), none⟩,
    ⟨some 12, .move (.tmp 11), none⟩,
    ⟨some 13, .move (.tmp 0), some (12, false)⟩,
    ⟨some 14, .move (.tmp 1), some (12, false)⟩,
    ⟨some 15, .binOp .lss 3 (.tmp 13) (.tmp 14) 3, some (12, false)⟩,
    ⟨some 16, .pick (.tmp 12) (.const (.bool true)) (.tmp 15), none⟩,
    ⟨some 4, .assign (.tmp 16), none⟩])
 .ret))⟩
theorem sf90 : sfOf Try.f90 = some s90 := by kernel_rfl
theorem hb90 : hasBody Try.prog 90 = true := by kernel_rfl
def s93 : SF := ⟨5, [.tmp 2],
 (.seq (.reg false [⟨some 2, .assign (.const (.bool false)), none⟩])
 (.seq (.reg false [⟨some 3, .move (.tmp 0), none⟩,
    ⟨some 4, .call { callee := .value (.func 88), args := #[.const (.int .i64 0), .const (.int .i64 1000), .tmp 3], argTypes := #[3, 3, 22] }, none⟩,
    ⟨some 2, .assign (.tmp 4), none⟩])
 .ret))⟩
theorem sf93 : sfOf Try.f93 = some s93 := by kernel_rfl
theorem hb93 : hasBody Try.prog 93 = true := by kernel_rfl
def s94 : SF := ⟨38, [.tmp 6],
 (.seq (.reg false [⟨some 3, .box 135 (.tmp 0), none⟩,
    ⟨some 6, .assign (.const (.int .i64 0)), none⟩])
 (.seq (.reg false [⟨some 9, .makeFunc (.func 114) #[] #[.tmp 3], none⟩,
    ⟨some 7, .assign (.tmp 9), none⟩])
 (.seq (.reg false [⟨some 10, .move (.tmp 1), none⟩,
    ⟨some 11, .call { callee := .value (.func 116), args := #[.tmp 10], argTypes := #[22] }, none⟩,
    ⟨some 12, .move (.tmp 11), none⟩,
    ⟨some 13, .move (.tmp 1), some (12, true)⟩,
    ⟨some 14, .call { callee := .value (.func 106), args := #[.tmp 13], argTypes := #[22] }, some (12, true)⟩,
    ⟨some 15, .call { callee := .value (.func 117), args := #[.tmp 14], argTypes := #[22] }, some (12, true)⟩,
    ⟨some 16, .call { callee := .builtin .len, args := #[.tmp 15], argTypes := #[22] }, some (12, true)⟩,
    ⟨some 17, .move (.tmp 1), some (12, true)⟩,
    ⟨some 18, .call { callee := .builtin .len, args := #[.tmp 17], argTypes := #[22] }, some (12, true)⟩,
    ⟨some 19, .binOp .eql 3 (.tmp 16) (.tmp 18) 3, some (12, true)⟩,
    ⟨some 20, .pick (.tmp 12) (.tmp 19) (.const (.bool false)), none⟩,
    ⟨some 8, .assign (.tmp 20), none⟩])
 (.seq (.block 0 (.seq (.seq (.reg false [⟨some 22, .move (.tmp 1), none⟩,
       ⟨some 23, .call { callee := .builtin .len, args := #[.tmp 22], argTypes := #[22] }, none⟩,
       ⟨some 24, .binOp .gtr 3 (.tmp 23) (.const (.int .i64 5)) 3, none⟩,
       ⟨some 21, .assign (.tmp 24), none⟩])
    (.cond (.tmp 21)
     .skip
     (.reg false [⟨some 25, .move (.tmp 2), none⟩,
        ⟨some 26, .call { callee := .builtin .len, args := #[.tmp 25], argTypes := #[25] }, none⟩,
        ⟨some 27, .binOp .gtr 3 (.tmp 26) (.const (.int .i64 40)) 3, none⟩,
        ⟨some 21, .assign (.tmp 27), none⟩])))
   (.cond (.tmp 21)
    (.seq (.reg false [⟨some 6, .assign (.const (.int .i64 5)), none⟩])
     .ret)
    (.seq (.seq (.reg false [⟨some 29, .move (.tmp 1), none⟩,
         ⟨some 30, .call { callee := .value (.func 93), args := #[.tmp 29], argTypes := #[22] }, none⟩,
         ⟨some 31, .unOp .not 4 (.tmp 30), none⟩,
         ⟨some 28, .assign (.tmp 31), none⟩])
      (.cond (.tmp 28)
       .skip
       (.reg false [⟨some 32, .move (.tmp 8), none⟩,
          ⟨some 33, .unOp .not 4 (.tmp 32), none⟩,
          ⟨some 28, .assign (.tmp 33), none⟩])))
     (.cond (.tmp 28)
      (.seq (.reg false [⟨some 6, .assign (.const (.int .i64 4)), none⟩])
       .ret)
      (.seq (.reg false [⟨some 35, .move (.tmp 2), none⟩,
          ⟨some 36, .move (.tmp 7), none⟩,
          ⟨some 37, .call { callee := .value (.func 98), args := #[.tmp 35, .tmp 36], argTypes := #[25, 172] }, none⟩,
          ⟨some 34, .assign (.tmp 37), none⟩])
       (.cond (.tmp 34)
        (.seq (.reg false [⟨some 6, .assign (.const (.int .i64 6)), none⟩])
         .ret)
        .skip)))))))
 (.seq (.reg false [⟨some 6, .assign (.const (.int .i64 0)), none⟩])
 .ret)))))⟩
theorem sf94 : sfOf Try.f94 = some s94 := by kernel_rfl
theorem hb94 : hasBody Try.prog 94 = true := by kernel_rfl
def s95 : SF := ⟨42, [.tmp 4],
 (.seq (.reg false [⟨some 4, .assign (.const (.slice none 0 0)), none⟩])
 (.seq (.reg false [⟨some 8, .move (.tmp 0), none⟩,
    ⟨some 9, .move (.tmp 1), none⟩,
    ⟨some 10, .call { callee := .value (.func 101), args := #[.tmp 8, .tmp 9], argTypes := #[41, 140] }, none⟩,
    ⟨some 5, .assign (.tmp 10), none⟩])
 (.seq (.seq (.reg false [⟨some 11, .move (.tmp 5), none⟩,
     ⟨some 12, .binOp .eql 3 (.tmp 11) (.const (.int .i64 (-1))) 3, none⟩])
  (.cond (.tmp 12)
   (.seq (.reg false [⟨some 13, .move (.tmp 0), none⟩,
       ⟨some 4, .assign (.tmp 13), none⟩])
    .ret)
   .skip))
 (.seq (.seq (.reg false [⟨some 14, .move (.tmp 5), none⟩,
     ⟨some 15, .binOp .add 3 (.tmp 14) (.const (.int .i64 1)) 3, none⟩,
     ⟨some 6, .assign (.tmp 15), none⟩])
  (.block 0 (.loop (.seq (.seq (.reg false [⟨some 16, .move (.tmp 6), none⟩,
        ⟨some 17, .move (.tmp 0), none⟩,
        ⟨some 18, .call { callee := .builtin .len, args := #[.tmp 17], argTypes := #[41] }, none⟩,
        ⟨some 19, .binOp .lss 3 (.tmp 16) (.tmp 18) 3, none⟩])
     (.cond (.tmp 19)
      .skip
      (.exit 0)))
    (.seq (.block 1 (.seq (.reg false [⟨some 22, .move (.tmp 0), none⟩,
         ⟨some 23, .move (.tmp 6), none⟩,
         ⟨some 24, .indexAddr 41 (.tmp 22) (.tmp 23), none⟩,
         ⟨some 25, .load 32 (.tmp 24), none⟩,
         ⟨some 7, .assign (.tmp 25), none⟩])
      (.seq (.reg false [⟨some 26, .move (.tmp 1), none⟩,
         ⟨some 27, .move (.tmp 7), none⟩,
         ⟨some 28, .call { callee := .value (.tmp 26), args := #[.tmp 27], argTypes := #[32] }, none⟩,
         ⟨some 29, .unOp .not 4 (.tmp 28), none⟩])
      (.cond (.tmp 29)
       (.seq (.reg false [⟨some 30, .move (.tmp 0), none⟩,
           ⟨some 31, .move (.tmp 5), none⟩,
           ⟨some 32, .move (.tmp 7), none⟩,
           ⟨some 33, .indexAddr 41 (.tmp 30) (.tmp 31), none⟩,
           ⟨none, .store 32 (.tmp 33) (.tmp 32), none⟩])
        (.reg false [⟨some 34, .move (.tmp 5), none⟩,
          ⟨some 35, .binOp .add 3 (.tmp 34) (.const (.int .i64 1)) 3, none⟩,
          ⟨some 5, .assign (.tmp 35), none⟩]))
       .skip))))
    (.reg false [⟨some 20, .move (.tmp 6), none⟩,
      ⟨some 21, .binOp .add 3 (.tmp 20) (.const (.int .i64 1)) 3, none⟩,
      ⟨some 6, .assign (.tmp 21), none⟩]))))))
 (.seq (.reg false [⟨some 36, .move (.tmp 0), none⟩,
    ⟨some 37, .move (.tmp 5), none⟩,
    ⟨some 38, .slice 41 (.tmp 36) (some (.tmp 37)) none none, none⟩,
    ⟨none, .call { callee := .builtin .clear, args := #[.tmp 38], argTypes := #[41] }, none⟩])
 (.seq (.reg false [⟨some 39, .move (.tmp 0), none⟩,
    ⟨some 40, .move (.tmp 5), none⟩,
    ⟨some 41, .slice 41 (.tmp 39) none (some (.tmp 40)) none, none⟩,
    ⟨some 4, .assign (.tmp 41), none⟩])
 .ret))))))⟩
theorem sf95 : sfOf Try.f95 = some s95 := by kernel_rfl
theorem hb95 : hasBody Try.prog 95 = true := by kernel_rfl
def s96 : SF := ⟨59, [.tmp 4],
 (.seq (.reg false [⟨some 2, .box 135 (.tmp 0), none⟩,
    ⟨some 4, .assign (.const (.slice none 0 0)), none⟩])
 (.seq (.reg false [⟨some 13, .load 135 (.tmp 2), none⟩,
    ⟨some 14, .move (.tmp 1), none⟩,
    ⟨some 15, .call { callee := .value (.func 118), args := #[.tmp 13, .tmp 14], argTypes := #[135, 22] }, none⟩,
    ⟨some 5, .assign (.tmp 15), none⟩])
 (.seq (.reg false [⟨some 16, .buildSlice 41 1 #[(0, (.const (.slice none 0 0)))], none⟩,
    ⟨some 6, .assign (.tmp 16), none⟩])
 (.seq (.seq (.reg false [⟨some 17, .move (.tmp 5), none⟩,
     ⟨some 18, .call { callee := .builtin .len, args := #[.tmp 17], argTypes := #[32] }, none⟩,
     ⟨some 19, .move (.const (.int .i64 0)), none⟩])
  (.block 0 (.loop (.seq (.reg false [⟨some 20, .binOp .lss 3 (.tmp 19) (.tmp 18) 3, none⟩])
    (.seq (.cond (.tmp 20)
      .skip
      (.exit 0))
    (.seq (.block 1 (.seq (.reg false [⟨some 21, .indexAddr 32 (.tmp 17) (.tmp 19), none⟩,
         ⟨some 22, .load 104 (.tmp 21), none⟩,
         ⟨some 8, .alloc 104, none⟩,
         ⟨none, .store 104 (.tmp 8) (.tmp 22), none⟩])
      (.reg false [⟨some 23, .move (.tmp 6), none⟩,
        ⟨some 24, .load 104 (.tmp 8), none⟩,
        ⟨some 25, .buildSlice 32 1 #[(0, (.tmp 24))], none⟩,
        ⟨some 26, .buildSlice 41 1 #[(0, (.tmp 25))], none⟩,
        ⟨some 27, .call { callee := .builtin .append, args := #[.tmp 23, .tmp 26], argTypes := #[41, 41] }, none⟩,
        ⟨some 6, .assign (.tmp 27), none⟩])))
    (.reg false [⟨some 28, .binOp .add 3 (.tmp 19) (.const (.int .i64 1)) 3, none⟩,
      ⟨some 19, .move (.tmp 28), none⟩])))))))
 (.seq (.seq (.reg false [⟨some 29, .move (.tmp 5), none⟩,
     ⟨some 30, .call { callee := .builtin .len, args := #[.tmp 29], argTypes := #[32] }, none⟩,
     ⟨some 31, .move (.const (.int .i64 0)), none⟩])
  (.block 2 (.loop (.seq (.reg false [⟨some 32, .binOp .lss 3 (.tmp 31) (.tmp 30) 3, none⟩])
    (.seq (.cond (.tmp 32)
      .skip
      (.exit 2))
    (.seq (.block 3 (.seq (.reg false [⟨some 33, .move (.tmp 31), none⟩,
         ⟨some 34, .indexAddr 32 (.tmp 29) (.tmp 31), none⟩,
         ⟨some 35, .load 104 (.tmp 34), none⟩,
         ⟨some 10, .alloc 104, none⟩,
         ⟨some 9, .assign (.tmp 33), none⟩,
         ⟨none, .store 104 (.tmp 10) (.tmp 35), none⟩])
      (.seq (.reg false [⟨some 36, .move (.tmp 5), none⟩,
         ⟨some 37, .move (.tmp 9), none⟩,
         ⟨some 38, .binOp .add 3 (.tmp 37) (.const (.int .i64 1)) 3, none⟩,
         ⟨some 39, .slice 32 (.tmp 36) (some (.tmp 38)) none none, none⟩,
         ⟨some 40, .call { callee := .builtin .len, args := #[.tmp 39], argTypes := #[32] }, none⟩,
         ⟨some 41, .move (.const (.int .i64 0)), none⟩])
      (.block 4 (.loop (.seq (.reg false [⟨some 42, .binOp .lss 3 (.tmp 41) (.tmp 40) 3, none⟩])
        (.seq (.cond (.tmp 42)
          .skip
          (.exit 4))
        (.seq (.block 5 (.seq (.reg false [⟨some 43, .indexAddr 32 (.tmp 39) (.tmp 41), none⟩,
             ⟨some 44, .load 104 (.tmp 43), none⟩,
             ⟨some 12, .alloc 104, none⟩,
             ⟨none, .store 104 (.tmp 12) (.tmp 44), none⟩])
          (.seq (.reg false [⟨some 45, .fieldAddr 104 (.tmp 10) 0, none⟩,
             ⟨some 46, .load 3 (.tmp 45), none⟩,
             ⟨some 47, .fieldAddr 104 (.tmp 12) 0, none⟩,
             ⟨some 48, .load 3 (.tmp 47), none⟩,
             ⟨some 49, .binOp .lss 3 (.tmp 46) (.tmp 48) 3, none⟩])
          (.cond (.tmp 49)
           (.reg false [⟨some 50, .move (.tmp 6), none⟩,
              ⟨some 51, .load 104 (.tmp 10), none⟩,
              ⟨some 52, .load 104 (.tmp 12), none⟩,
              ⟨some 53, .buildSlice 32 2 #[(0, (.tmp 51)), (1, (.tmp 52))], none⟩,
              ⟨some 54, .buildSlice 41 1 #[(0, (.tmp 53))], none⟩,
              ⟨some 55, .call { callee := .builtin .append, args := #[.tmp 50, .tmp 54], argTypes := #[41, 41] }, none⟩,
              ⟨some 6, .assign (.tmp 55), none⟩])
           .skip))))
        (.reg false [⟨some 56, .binOp .add 3 (.tmp 41) (.const (.int .i64 1)) 3, none⟩,
          ⟨some 41, .move (.tmp 56), none⟩])))))))))
    (.reg false [⟨some 57, .binOp .add 3 (.tmp 31) (.const (.int .i64 1)) 3, none⟩,
      ⟨some 31, .move (.tmp 57), none⟩])))))))
 (.seq (.reg false [⟨some 58, .move (.tmp 6), none⟩,
    ⟨some 4, .assign (.tmp 58), none⟩])
 .ret))))))⟩
theorem sf96 : sfOf Try.f96 = some s96 := by kernel_rfl
theorem hb96 : hasBody Try.prog 96 = true := by kernel_rfl
def s97 : SF := ⟨8, [.tmp 4],
 (.seq (.reg false [⟨some 3, .box 32 (.tmp 0), none⟩,
    ⟨some 4, .assign (.const (.bool false)), none⟩])
 (.seq (.reg false [⟨some 5, .load 25 (.tmp 1), none⟩,
    ⟨some 6, .makeFunc (.func 99) #[] #[.tmp 2, .tmp 3], none⟩,
    ⟨some 7, .call { callee := .value (.func 98), args := #[.tmp 5, .tmp 6], argTypes := #[25, 172] }, none⟩,
    ⟨some 4, .assign (.tmp 7), none⟩])
 .ret))⟩
theorem sf97 : sfOf Try.f97 = some s97 := by kernel_rfl
theorem hb97 : hasBody Try.prog 97 = true := by kernel_rfl
def s98 : SF := ⟨9, [.tmp 4],
 (.seq (.reg false [⟨some 4, .assign (.const (.bool false)), none⟩])
 (.seq (.reg false [⟨some 5, .move (.tmp 0), none⟩,
    ⟨some 6, .move (.tmp 1), none⟩,
    ⟨some 7, .call { callee := .value (.func 119), args := #[.tmp 5, .tmp 6], argTypes := #[25, 172] }, none⟩,
    ⟨some 8, .binOp .geq 3 (.tmp 7) (.const (.int .i64 0)) 3, none⟩,
    ⟨some 4, .assign (.tmp 8), none⟩])
 .ret))⟩
theorem sf98 : sfOf Try.f98 = some s98 := by kernel_rfl
theorem hb98 : hasBody Try.prog 98 = true := by kernel_rfl
def s99 : SF := ⟨18, [.tmp 4],
 (.seq (.reg false [⟨some 3, .box 48 (.tmp 0), none⟩,
    ⟨some 4, .assign (.const (.bool false)), none⟩])
 (.seq (.reg true [⟨some 5, .load 135 (.tmp 1), none⟩,
    ⟨some 6, .load 32 (.tmp 2), none⟩,
    ⟨some 7, .fieldAddr 48 (.tmp 3) 0, none⟩,
    ⟨some 8, .load 3 (.tmp 7), none⟩,
    ⟨some 9, .fieldAddr 48 (.tmp 3) 1, none⟩,
    ⟨some 10, .load 3 (.tmp 9), none⟩,
    ⟨some 11, .fieldAddr 48 (.tmp 3) 2, none⟩,
    ⟨some 12, .load 3 (.tmp 11), none⟩,
    ⟨some 13, .build 149 #[(0, (.tmp 8)), (1, (.tmp 10)), (2, (.tmp 12))], none⟩,
    ⟨some 14, .call { callee := .value (.func 75), args := #[.tmp 5, .tmp 6, .tmp 13], argTypes := #[135, 32, 149] }, none⟩,
    ⟨some 15, .fieldAddr 48 (.tmp 3) 3, none⟩,
    ⟨some 16, .load 4 (.tmp 15), none⟩,
    ⟨some 17, .binOp .neq 4 (.tmp 14) (.tmp 16) 4, none⟩,
    ⟨some 4, .assign (.tmp 17), none⟩])
 .ret))⟩
theorem sf99 : sfOf Try.f99 = some s99 := by kernel_rfl
theorem hb99 : hasBody Try.prog 99 = true := by kernel_rfl
def s100 : SF := ⟨19, [.tmp 4],
 (.seq (.reg false [⟨some 4, .assign (.const (.int .i64 0)), none⟩])
 (.seq (.seq (.reg false [⟨some 6, .move (.tmp 0), none⟩,
     ⟨some 7, .call { callee := .builtin .len, args := #[.tmp 6], argTypes := #[32] }, none⟩,
     ⟨some 8, .move (.const (.int .i64 0)), none⟩])
  (.block 0 (.loop (.seq (.reg false [⟨some 9, .binOp .lss 3 (.tmp 8) (.tmp 7) 3, none⟩])
    (.seq (.cond (.tmp 9)
      .skip
      (.exit 0))
    (.seq (.block 1 (.seq (.reg false [⟨some 10, .move (.tmp 8), none⟩,
         ⟨some 5, .assign (.tmp 10), none⟩])
      (.seq (.reg false [⟨some 11, .move (.tmp 1), none⟩,
         ⟨some 12, .move (.tmp 0), none⟩,
         ⟨some 13, .move (.tmp 5), none⟩,
         ⟨some 14, .indexAddr 32 (.tmp 12) (.tmp 13), none⟩,
         ⟨some 15, .load 104 (.tmp 14), none⟩,
         ⟨some 16, .call { callee := .value (.tmp 11), args := #[.tmp 15], argTypes := #[104] }, none⟩])
      (.cond (.tmp 16)
       (.seq (.reg false [⟨some 17, .move (.tmp 5), none⟩,
           ⟨some 4, .assign (.tmp 17), none⟩])
        .ret)
       .skip))))
    (.reg false [⟨some 18, .binOp .add 3 (.tmp 8) (.const (.int .i64 1)) 3, none⟩,
      ⟨some 8, .move (.tmp 18), none⟩])))))))
 (.seq (.reg false [⟨some 4, .assign (.const (.int .i64 (-1))), none⟩])
 .ret)))⟩
theorem sf100 : sfOf Try.f100 = some s100 := by kernel_rfl
theorem hb100 : hasBody Try.prog 100 = true := by kernel_rfl
def s101 : SF := ⟨19, [.tmp 4],
 (.seq (.reg false [⟨some 4, .assign (.const (.int .i64 0)), none⟩])
 (.seq (.seq (.reg false [⟨some 6, .move (.tmp 0), none⟩,
     ⟨some 7, .call { callee := .builtin .len, args := #[.tmp 6], argTypes := #[41] }, none⟩,
     ⟨some 8, .move (.const (.int .i64 0)), none⟩])
  (.block 0 (.loop (.seq (.reg false [⟨some 9, .binOp .lss 3 (.tmp 8) (.tmp 7) 3, none⟩])
    (.seq (.cond (.tmp 9)
      .skip
      (.exit 0))
    (.seq (.block 1 (.seq (.reg false [⟨some 10, .move (.tmp 8), none⟩,
         ⟨some 5, .assign (.tmp 10), none⟩])
      (.seq (.reg false [⟨some 11, .move (.tmp 1), none⟩,
         ⟨some 12, .move (.tmp 0), none⟩,
         ⟨some 13, .move (.tmp 5), none⟩,
         ⟨some 14, .indexAddr 41 (.tmp 12) (.tmp 13), none⟩,
         ⟨some 15, .load 32 (.tmp 14), none⟩,
         ⟨some 16, .call { callee := .value (.tmp 11), args := #[.tmp 15], argTypes := #[32] }, none⟩])
      (.cond (.tmp 16)
       (.seq (.reg false [⟨some 17, .move (.tmp 5), none⟩,
           ⟨some 4, .assign (.tmp 17), none⟩])
        .ret)
       .skip))))
    (.reg false [⟨some 18, .binOp .add 3 (.tmp 8) (.const (.int .i64 1)) 3, none⟩,
      ⟨some 8, .move (.tmp 18), none⟩])))))))
 (.seq (.reg false [⟨some 4, .assign (.const (.int .i64 (-1))), none⟩])
 .ret)))⟩
theorem sf101 : sfOf Try.f101 = some s101 := by kernel_rfl
theorem hb101 : hasBody Try.prog 101 = true := by kernel_rfl
def s103 : SF := ⟨34, [],
 (.seq (.reg false [⟨some 7, .load 3 (.tmp 1), none⟩,
    ⟨some 8, .move (.const (.int .i64 0)), none⟩])
 (.block 0 (.loop (.seq (.reg false [⟨some 9, .binOp .lss 3 (.tmp 8) (.tmp 7) 3, none⟩])
   (.seq (.cond (.tmp 9)
     .skip
     (.exit 0))
   (.seq (.block 1 (.seq (.reg false [⟨some 10, .move (.tmp 8), none⟩,
        ⟨some 4, .assign (.tmp 10), none⟩])
     (.seq (.reg false [⟨some 11, .fieldAddr 135 (.tmp 2) 0, none⟩,
        ⟨some 12, .fieldAddr 24 (.tmp 11) 1, none⟩,
        ⟨some 13, .load 22 (.tmp 12), none⟩,
        ⟨some 14, .call { callee := .builtin .len, args := #[.tmp 13], argTypes := #[22] }, none⟩,
        ⟨some 15, .move (.const (.int .i64 0)), none⟩])
     (.block 2 (.loop (.seq (.reg false [⟨some 16, .binOp .lss 3 (.tmp 15) (.tmp 14) 3, none⟩])
       (.seq (.cond (.tmp 16)
         .skip
         (.exit 2))
       (.seq (.block 3 (.seq (.reg false [⟨some 17, .move (.tmp 15), none⟩,
            ⟨some 5, .assign (.tmp 17), none⟩])
         (.seq (.reg false [⟨some 18, .fieldAddr 135 (.tmp 2) 0, none⟩,
            ⟨some 19, .fieldAddr 24 (.tmp 18) 0, none⟩,
            ⟨some 20, .load 3 (.tmp 19), none⟩,
            ⟨some 21, .move (.const (.int .i64 0)), none⟩])
         (.block 4 (.loop (.seq (.reg false [⟨some 22, .binOp .lss 3 (.tmp 21) (.tmp 20) 3, none⟩])
           (.seq (.cond (.tmp 22)
             .skip
             (.exit 4))
           (.seq (.block 5 (.seq (.reg false [⟨some 23, .move (.tmp 21), none⟩,
                ⟨some 6, .assign (.tmp 23), none⟩])
             (.seq (.reg false [⟨some 24, .move (.tmp 0), none⟩,
                ⟨some 25, .move (.tmp 4), none⟩,
                ⟨some 26, .move (.tmp 5), none⟩,
                ⟨some 27, .move (.tmp 6), none⟩,
                ⟨some 28, .build 149 #[(0, (.tmp 25)), (1, (.tmp 26)), (2, (.tmp 27))], none⟩,
                ⟨some 29, .call { callee := .value (.tmp 24), args := #[.tmp 28], argTypes := #[149] }, none⟩,
                ⟨some 30, .unOp .not 4 (.tmp 29), none⟩])
             (.cond (.tmp 30)
              .ret
              .skip))))
           (.reg false [⟨some 31, .binOp .add 3 (.tmp 21) (.const (.int .i64 1)) 3, none⟩,
             ⟨some 21, .move (.tmp 31), none⟩])))))))))
       (.reg false [⟨some 32, .binOp .add 3 (.tmp 15) (.const (.int .i64 1)) 3, none⟩,
         ⟨some 15, .move (.tmp 32), none⟩])))))))))
   (.reg false [⟨some 33, .binOp .add 3 (.tmp 8) (.const (.int .i64 1)) 3, none⟩,
     ⟨some 8, .move (.tmp 33), none⟩])))))))⟩
theorem sf103 : sfOf Try.f103 = some s103 := by kernel_rfl
theorem hb103 : hasBody Try.prog 103 = true := by kernel_rfl
def s105 : SF := ⟨34, [.tmp 4],
 (.seq (.reg false [⟨some 2, .box 135 (.tmp 0), none⟩,
    ⟨some 4, .assign (.const (.int .i64 0)), none⟩])
 (.seq (.reg false [⟨some 7, .makeFunc (.func 120) #[] #[.tmp 2], none⟩,
    ⟨some 5, .assign (.tmp 7), none⟩])
 (.seq (.block 0 (.seq (.reg false [⟨some 9, .move (.tmp 1), none⟩,
      ⟨some 10, .call { callee := .builtin .len, args := #[.tmp 9], argTypes := #[32] }, none⟩,
      ⟨some 11, .binOp .gtr 3 (.tmp 10) (.const (.int .i64 2)) 3, none⟩,
      ⟨some 8, .assign (.tmp 11), none⟩])
   (.cond (.tmp 8)
    (.seq (.reg false [⟨some 4, .assign (.const (.int .i64 8)), none⟩])
     .ret)
    (.seq (.reg false [⟨some 13, .move (.tmp 1), none⟩,
        ⟨some 14, .move (.tmp 5), none⟩,
        ⟨some 15, .call { callee := .value (.func 67), args := #[.tmp 13, .tmp 14], argTypes := #[32, 139] }, none⟩,
        ⟨some 12, .assign (.tmp 15), none⟩])
     (.cond (.tmp 12)
      (.seq (.reg false [⟨some 4, .assign (.const (.int .i64 4)), none⟩])
       .ret)
      .skip)))))
 (.seq (.seq (.reg false [⟨some 6, .assign (.const (.int .i64 1)), none⟩])
  (.block 1 (.loop (.seq (.seq (.reg false [⟨some 16, .move (.tmp 6), none⟩,
        ⟨some 17, .move (.tmp 1), none⟩,
        ⟨some 18, .call { callee := .builtin .len, args := #[.tmp 17], argTypes := #[32] }, none⟩,
        ⟨some 19, .binOp .lss 3 (.tmp 16) (.tmp 18) 3, none⟩])
     (.cond (.tmp 19)
      .skip
      (.exit 1)))
    (.seq (.block 2 (.seq (.reg true [⟨some 22, .move (.tmp 1), none⟩,
         ⟨some 23, .move (.tmp 6), none⟩,
         ⟨some 24, .indexAddr 32 (.tmp 22) (.tmp 23), none⟩,
         ⟨some 25, .fieldAddr 104 (.tmp 24) 0, none⟩,
         ⟨some 26, .load 3 (.tmp 25), none⟩,
         ⟨some 27, .move (.tmp 1), none⟩,
         ⟨some 28, .move (.tmp 6), none⟩,
         ⟨some 29, .binOp .sub 3 (.tmp 28) (.const (.int .i64 1)) 3, none⟩,
         ⟨some 30, .indexAddr 32 (.tmp 27) (.tmp 29), none⟩,
         ⟨some 31, .fieldAddr 104 (.tmp 30) 0, none⟩,
         ⟨some 32, .load 3 (.tmp 31), none⟩,
         ⟨some 33, .binOp .leq 3 (.tmp 26) (.tmp 32) 3, none⟩])
      (.cond (.tmp 33)
       (.seq (.reg false [⟨some 4, .assign (.const (.int .i64 6)), none⟩])
        .ret)
       .skip)))
    (.reg false [⟨some 20, .move (.tmp 6), none⟩,
      ⟨some 21, .binOp .add 3 (.tmp 20) (.const (.int .i64 1)) 3, none⟩,
      ⟨some 6, .assign (.tmp 21), none⟩]))))))
 (.seq (.reg false [⟨some 4, .assign (.const (.int .i64 0)), none⟩])
 .ret)))))⟩
theorem sf105 : sfOf Try.f105 = some s105 := by kernel_rfl
theorem hb105 : hasBody Try.prog 105 = true := by kernel_rfl
def s106 : SF := ⟨8, [.tmp 2],
 (.seq (.reg false [⟨some 2, .assign (.const (.slice none 0 0)), none⟩])
 (.seq (.seq (.reg false [⟨some 3, .move (.tmp 0), none⟩,
     ⟨some 4, .binOp .eql 22 (.tmp 3) (.const (.slice none 0 0)) 22, none⟩])
  (.cond (.tmp 4)
   (.seq (.reg false [⟨some 2, .assign (.const (.slice none 0 0)), none⟩])
    .ret)
   .skip))
 (.seq (.reg false [⟨some 5, .buildSlice 22 0 #[], none⟩,
    ⟨some 6, .move (.tmp 0), none⟩,
    ⟨some 7, .call { callee := .builtin .append, args := #[.tmp 5, .tmp 6], argTypes := #[22, 22] }, none⟩,
    ⟨some 2, .assign (.tmp 7), none⟩])
 .ret)))⟩
theorem sf106 : sfOf Try.f106 = some s106 := by kernel_rfl
theorem hb106 : hasBody Try.prog 106 = true := by kernel_rfl
def s107 : SF := ⟨36, [.tmp 8],
 (.seq (.reg false [⟨some 4, .box 135 (.tmp 0), none⟩,
    ⟨some 8, .assign (.const (.int .i64 0)), none⟩])
 (.seq (.seq (.reg false [⟨some 9, .move (.tmp 2), none⟩])
  (.block 0 (.seq (.reg false [⟨some 11, .binOp .eql 102 (.tmp 9) (.const (.int .i64 1)) 102, none⟩,
      ⟨some 10, .assign (.tmp 11), none⟩])
   (.cond (.tmp 10)
    (.seq (.reg false [⟨some 8, .assign (.const (.int .i64 0)), none⟩])
     .ret)
    (.seq (.reg false [⟨some 13, .binOp .eql 102 (.tmp 9) (.const (.int .i64 2)) 102, none⟩,
        ⟨some 12, .assign (.tmp 13), none⟩])
     (.cond (.tmp 12)
      (.seq (.reg false [⟨some 14, .move (.tmp 1), none⟩,
          ⟨some 15, .move (.tmp 1), none⟩,
          ⟨some 16, .binOp .shl 3 (.tmp 15) (.const (.int .u64 1)) 114, none⟩,
          ⟨some 17, .binOp .or 3 (.tmp 14) (.tmp 16) 3, none⟩,
          ⟨some 18, .fieldAddr 135 (.tmp 4) 0, none⟩,
          ⟨some 19, .fieldAddr 24 (.tmp 18) 0, none⟩,
          ⟨some 20, .load 3 (.tmp 19), none⟩,
          ⟨some 21, .binOp .shl 3 (.const (.int .i64 1)) (.tmp 20) 3, none⟩,
          ⟨some 22, .binOp .sub 3 (.tmp 21) (.const (.int .i64 1)) 3, none⟩,
          ⟨some 23, .binOp .and 3 (.tmp 17) (.tmp 22) 3, none⟩,
          ⟨some 8, .assign (.tmp 23), none⟩])
       .ret)
      (.seq (.reg false [⟨some 25, .binOp .eql 102 (.tmp 9) (.const (.int .i64 3)) 102, none⟩,
          ⟨some 24, .assign (.tmp 25), none⟩])
       (.cond (.tmp 24)
        (.seq (.reg false [⟨some 26, .move (.tmp 1), none⟩,
            ⟨some 27, .move (.tmp 1), none⟩,
            ⟨some 28, .binOp .shl 3 (.tmp 27) (.const (.int .u64 1)) 114, none⟩,
            ⟨some 29, .binOp .and 3 (.tmp 26) (.tmp 28) 3, none⟩,
            ⟨some 8, .assign (.tmp 29), none⟩])
         .ret)
        (.seq (.reg false [⟨some 31, .binOp .eql 102 (.tmp 9) (.const (.int .i64 4)) 102, none⟩,
            ⟨some 30, .assign (.tmp 31), none⟩])
         (.cond (.tmp 30)
          (.seq (.reg false [⟨some 32, .move (.tmp 3), none⟩,
              ⟨some 33, .binOp .rem 3 (.tmp 32) (.const (.int .i64 2)) 3, none⟩,
              ⟨some 34, .binOp .eql 3 (.tmp 33) (.const (.int .i64 1)) 3, none⟩])
           (.cond (.tmp 34)
            (.seq (.reg false [⟨some 8, .assign (.const (.int .i64 0)), none⟩])
             .ret)
            .skip))
          .skip))))))))))
 (.seq (.reg false [⟨some 35, .move (.tmp 1), none⟩,
    ⟨some 8, .assign (.tmp 35), none⟩])
 .ret)))⟩
theorem sf107 : sfOf Try.f107 = some s107 := by kernel_rfl
theorem hb107 : hasBody Try.prog 107 = true := by kernel_rfl
def s108 : SF := ⟨22, [.tmp 6],
 (.seq (.reg false [⟨some 3, .box 81 (.tmp 0), none⟩,
    ⟨some 6, .assign (.const (.bool false)), none⟩])
 (.seq (.reg false [⟨some 7, .move (.tmp 1), none⟩,
    ⟨some 8, .move (.tmp 2), none⟩,
    ⟨some 9, .fieldAddr 81 (.tmp 3) 0, none⟩,
    ⟨some 10, .load 3 (.tmp 9), none⟩,
    ⟨some 11, .fieldAddr 81 (.tmp 3) 1, none⟩,
    ⟨some 12, .load 3 (.tmp 11), none⟩,
    ⟨some 13, .buildSlice 22 2 #[(0, (.tmp 10)), (1, (.tmp 12))], none⟩,
    ⟨some 14, .call { callee := .value (.func 88), args := #[.tmp 7, .tmp 8, .tmp 13], argTypes := #[3, 3, 22] }, none⟩,
    ⟨some 15, .move (.tmp 14), none⟩,
    ⟨some 16, .fieldAddr 81 (.tmp 3) 0, some (15, true)⟩,
    ⟨some 17, .load 3 (.tmp 16), some (15, true)⟩,
    ⟨some 18, .fieldAddr 81 (.tmp 3) 1, some (15, true)⟩,
    ⟨some 19, .load 3 (.tmp 18), some (15, true)⟩,
    ⟨some 20, .binOp .leq 3 (.tmp 17) (.tmp 19) 3, some (15, true)⟩,
    ⟨some 21, .pick (.tmp 15) (.tmp 20) (.const (.bool false)), none⟩,
    ⟨some 6, .assign (.tmp 21), none⟩])
 .ret))⟩
theorem sf108 : sfOf Try.f108 = some s108 := by kernel_rfl
theorem hb108 : hasBody Try.prog 108 = true := by kernel_rfl
def s109 : SF := ⟨19, [.tmp 4],
 (.seq (.reg false [⟨some 4, .assign (.const (.int .i64 0)), none⟩])
 (.seq (.seq (.reg false [⟨some 6, .move (.tmp 0), none⟩,
     ⟨some 7, .call { callee := .builtin .len, args := #[.tmp 6], argTypes := #[73] }, none⟩,
     ⟨some 8, .move (.const (.int .i64 0)), none⟩])
  (.block 0 (.loop (.seq (.reg false [⟨some 9, .binOp .lss 3 (.tmp 8) (.tmp 7) 3, none⟩])
    (.seq (.cond (.tmp 9)
      .skip
      (.exit 0))
    (.seq (.block 1 (.seq (.reg false [⟨some 10, .move (.tmp 8), none⟩,
         ⟨some 5, .assign (.tmp 10), none⟩])
      (.seq (.reg false [⟨some 11, .move (.tmp 1), none⟩,
         ⟨some 12, .move (.tmp 0), none⟩,
         ⟨some 13, .move (.tmp 5), none⟩,
         ⟨some 14, .indexAddr 73 (.tmp 12) (.tmp 13), none⟩,
         ⟨some 15, .load 85 (.tmp 14), none⟩,
         ⟨some 16, .call { callee := .value (.tmp 11), args := #[.tmp 15], argTypes := #[85] }, none⟩])
      (.cond (.tmp 16)
       (.seq (.reg false [⟨some 17, .move (.tmp 5), none⟩,
           ⟨some 4, .assign (.tmp 17), none⟩])
        .ret)
       .skip))))
    (.reg false [⟨some 18, .binOp .add 3 (.tmp 8) (.const (.int .i64 1)) 3, none⟩,
      ⟨some 8, .move (.tmp 18), none⟩])))))))
 (.seq (.reg false [⟨some 4, .assign (.const (.int .i64 (-1))), none⟩])
 .ret)))⟩
theorem sf109 : sfOf Try.f109 = some s109 := by kernel_rfl
theorem hb109 : hasBody Try.prog 109 = true := by kernel_rfl
def s110 : SF := ⟨9, [.tmp 4],
 (.seq (.reg false [⟨some 4, .assign (.const (.bool false)), none⟩])
 (.seq (.reg false [⟨some 5, .move (.tmp 0), none⟩,
    ⟨some 6, .move (.tmp 1), none⟩,
    ⟨some 7, .call { callee := .value (.func 122), args := #[.tmp 5, .tmp 6], argTypes := #[22, 145] }, none⟩,
    ⟨some 8, .binOp .geq 3 (.tmp 7) (.const (.int .i64 0)) 3, none⟩,
    ⟨some 4, .assign (.tmp 8), none⟩])
 .ret))⟩
theorem sf110 : sfOf Try.f110 = some s110 := by kernel_rfl
theorem hb110 : hasBody Try.prog 110 = true := by kernel_rfl
def s111 : SF := ⟨13, [.tmp 4],
 (.seq (.reg false [⟨some 4, .assign (.const (.bool false)), none⟩])
 (.seq (.reg false [⟨some 5, .move (.tmp 0), none⟩,
    ⟨some 6, .load 3 (.tmp 1), none⟩,
    ⟨some 7, .binOp .lss 3 (.tmp 5) (.tmp 6) 3, none⟩,
    ⟨some 8, .move (.tmp 7), none⟩,
    ⟨some 9, .move (.tmp 0), some (8, false)⟩,
    ⟨some 10, .load 3 (.tmp 2), some (8, false)⟩,
    ⟨some 11, .binOp .gtr 3 (.tmp 9) (.tmp 10) 3, some (8, false)⟩,
    ⟨some 12, .pick (.tmp 8) (.const (.bool true)) (.tmp 11), none⟩,
    ⟨some 4, .assign (.tmp 12), none⟩])
 .ret))⟩
theorem sf111 : sfOf Try.f111 = some s111 := by kernel_rfl
theorem hb111 : hasBody Try.prog 111 = true := by kernel_rfl
def s112 : SF := ⟨26, [.tmp 6],
 (.seq (.reg false [⟨some 3, .box 161 (.tmp 0), none⟩,
    ⟨some 6, .assign (.const (.int .i64 0)), none⟩])
 (.seq (.reg false [⟨some 7, .fieldAddr 161 (.tmp 3) 0, none⟩,
    ⟨some 8, .fieldAddr 72 (.tmp 7) 0, none⟩,
    ⟨some 9, .load 3 (.tmp 8), none⟩,
    ⟨some 10, .fieldAddr 161 (.tmp 3) 0, none⟩,
    ⟨some 11, .fieldAddr 72 (.tmp 10) 1, none⟩,
    ⟨some 12, .load 3 (.tmp 11), none⟩,
    ⟨some 13, .move (.tmp 1), none⟩,
    ⟨some 14, .binOp .mul 3 (.tmp 12) (.tmp 13) 3, none⟩,
    ⟨some 15, .binOp .sub 3 (.const (.int .i64 1000)) (.tmp 14) 3, none⟩,
    ⟨some 16, .fieldAddr 161 (.tmp 3) 0, none⟩,
    ⟨some 17, .fieldAddr 72 (.tmp 16) 2, none⟩,
    ⟨some 18, .load 3 (.tmp 17), none⟩,
    ⟨some 19, .move (.tmp 2), none⟩,
    ⟨some 20, .binOp .mul 3 (.tmp 18) (.tmp 19) 3, none⟩,
    ⟨some 21, .binOp .add 3 (.tmp 15) (.tmp 20) 3, none⟩,
    ⟨some 22, .binOp .mul 3 (.tmp 9) (.tmp 21) 3, none⟩,
    ⟨some 23, .binOp .add 3 (.tmp 22) (.const (.int .i64 1000)) 3, none⟩,
    ⟨some 24, .binOp .sub 3 (.tmp 23) (.const (.int .i64 1)) 3, none⟩,
    ⟨some 25, .binOp .quo 3 (.tmp 24) (.const (.int .i64 1000)) 3, none⟩,
    ⟨some 6, .assign (.tmp 25), none⟩])
 .ret))⟩
theorem sf112 : sfOf Try.f112 = some s112 := by kernel_rfl
theorem hb112 : hasBody Try.prog 112 = true := by kernel_rfl
def s113 : SF := ⟨6, [.tmp 2],
 (.seq (.reg false [⟨some 2, .assign (.const (.bool false)), none⟩])
 (.seq (.reg false [⟨some 3, .move (.tmp 0), none⟩,
    ⟨some 4, .move (.tmp 0), none⟩,
    ⟨some 5, .binOp .neq 3 (.tmp 3) (.tmp 4) 3, none⟩,
    ⟨some 2, .assign (.tmp 5), none⟩])
 .ret))⟩
theorem sf113 : sfOf Try.f113 = some s113 := by kernel_rfl
theorem hb113 : hasBody Try.prog 113 = true := by kernel_rfl
def s114 : SF := ⟨27, [.tmp 3],
 (.seq (.reg false [⟨some 2, .box 48 (.tmp 0), none⟩,
    ⟨some 3, .assign (.const (.bool false)), none⟩])
 (.seq (.reg false [⟨some 4, .fieldAddr 48 (.tmp 2) 0, none⟩,
    ⟨some 5, .load 3 (.tmp 4), none⟩,
    ⟨some 6, .buildSlice 22 1 #[(0, (.tmp 5))], none⟩,
    ⟨some 7, .call { callee := .value (.func 93), args := #[.tmp 6], argTypes := #[22] }, none⟩,
    ⟨some 8, .unOp .not 4 (.tmp 7), none⟩,
    ⟨some 9, .move (.tmp 8), none⟩,
    ⟨some 10, .load 135 (.tmp 1), some (9, false)⟩,
    ⟨some 11, .fieldAddr 48 (.tmp 2) 1, some (9, false)⟩,
    ⟨some 12, .load 3 (.tmp 11), some (9, false)⟩,
    ⟨some 13, .call { callee := .value (.func 115), args := #[.tmp 10, .tmp 12], argTypes := #[135, 3] }, some (9, false)⟩,
    ⟨some 14, .unOp .not 4 (.tmp 13), some (9, false)⟩,
    ⟨some 15, .pick (.tmp 9) (.const (.bool true)) (.tmp 14), none⟩,
    ⟨some 16, .move (.tmp 15), none⟩,
    ⟨some 17, .fieldAddr 135 (.tmp 1) 0, some (16, false)⟩,
    ⟨some 18, .fieldAddr 24 (.tmp 17) 0, some (16, false)⟩,
    ⟨some 19, .load 3 (.tmp 18), some (16, false)⟩,
    ⟨some 20, .binOp .sub 3 (.tmp 19) (.const (.int .i64 1)) 3, some (16, false)⟩,
    ⟨some 21, .fieldAddr 48 (.tmp 2) 2, some (16, false)⟩,
    ⟨some 22, .load 3 (.tmp 21), some (16, false)⟩,
    ⟨some 23, .buildSlice 22 1 #[(0, (.tmp 22))], some (16, false)⟩,
    ⟨some 24, .call { callee := .value (.func 88), args := #[.const (.int .i64 0), .tmp 20, .tmp 23], argTypes := #[3, 3, 22] }, some (16, false)⟩,
    ⟨some 25, .unOp .not 4 (.tmp 24), some (16, false)⟩,
    ⟨some 26, .pick (.tmp 16) (.const (.bool true)) (.tmp 25), none⟩,
    ⟨some 3, .assign (.tmp 26), none⟩])
 .ret))⟩
theorem sf114 : sfOf Try.f114 = some s114 := by kernel_rfl
theorem hb114 : hasBody Try.prog 114 = true := by kernel_rfl
def s115 : SF := ⟨13, [.tmp 4],
 (.seq (.reg false [⟨some 2, .box 135 (.tmp 0), none⟩,
    ⟨some 4, .assign (.const (.bool false)), none⟩])
 (.seq (.reg false [⟨some 5, .fieldAddr 135 (.tmp 2) 0, none⟩,
    ⟨some 6, .fieldAddr 24 (.tmp 5) 1, none⟩,
    ⟨some 7, .load 22 (.tmp 6), none⟩,
    ⟨some 8, .call { callee := .builtin .len, args := #[.tmp 7], argTypes := #[22] }, none⟩,
    ⟨some 9, .binOp .sub 3 (.tmp 8) (.const (.int .i64 1)) 3, none⟩,
    ⟨some 10, .move (.tmp 1), none⟩,
    ⟨some 11, .buildSlice 22 1 #[(0, (.tmp 10))], none⟩,
    ⟨some 12, .call { callee := .value (.func 88), args := #[.const (.int .i64 0), .tmp 9, .tmp 11], argTypes := #[3, 3, 22] }, none⟩,
    ⟨some 4, .assign (.tmp 12), none⟩])
 .ret))⟩
theorem sf115 : sfOf Try.f115 = some s115 := by kernel_rfl
theorem hb115 : hasBody Try.prog 115 = true := by kernel_rfl
def s116 : SF := ⟨21, [.tmp 2],
 (.seq (.reg false [⟨some 2, .assign (.const (.bool false)), none⟩])
 (.seq (.seq (.reg false [⟨some 4, .move (.tmp 0), none⟩,
     ⟨some 5, .call { callee := .builtin .len, args := #[.tmp 4], argTypes := #[22] }, none⟩,
     ⟨some 6, .binOp .sub 3 (.tmp 5) (.const (.int .i64 1)) 3, none⟩,
     ⟨some 3, .assign (.tmp 6), none⟩])
  (.block 0 (.loop (.seq (.seq (.reg false [⟨some 7, .move (.tmp 3), none⟩,
        ⟨some 8, .binOp .gtr 3 (.tmp 7) (.const (.int .i64 0)) 3, none⟩])
     (.cond (.tmp 8)
      .skip
      (.exit 0)))
    (.seq (.block 1 (.seq (.reg true [⟨some 11, .move (.tmp 0), none⟩,
         ⟨some 12, .move (.tmp 3), none⟩,
         ⟨some 13, .indexAddr 22 (.tmp 11) (.tmp 12), none⟩,
         ⟨some 14, .load 3 (.tmp 13), none⟩,
         ⟨some 15, .move (.tmp 0), none⟩,
         ⟨some 16, .move (.tmp 3), none⟩,
         ⟨some 17, .binOp .sub 3 (.tmp 16) (.const (.int .i64 1)) 3, none⟩,
         ⟨some 18, .indexAddr 22 (.tmp 15) (.tmp 17), none⟩,
         ⟨some 19, .load 3 (.tmp 18), none⟩,
         ⟨some 20, .call { callee := .value (.func 90), args := #[.tmp 14, .tmp 19], argTypes := #[3, 3] }, none⟩])
      (.cond (.tmp 20)
       (.seq (.reg false [⟨some 2, .assign (.const (.bool false)), none⟩])
        .ret)
       .skip)))
    (.reg false [⟨some 9, .move (.tmp 3), none⟩,
      ⟨some 10, .binOp .sub 3 (.tmp 9) (.const (.int .i64 1)) 3, none⟩,
      ⟨some 3, .assign (.tmp 10), none⟩]))))))
 (.seq (.reg false [⟨some 2, .assign (.const (.bool true)), none⟩])
 .ret)))⟩
theorem sf116 : sfOf Try.f116 = some s116 := by kernel_rfl
theorem hb116 : hasBody Try.prog 116 = true := by kernel_rfl
def s117 : SF := ⟨61, [.tmp 2],
 (.seq (.reg false [⟨some 2, .assign (.const (.slice none 0 0)), none⟩])
 (.seq (.seq (.reg false [⟨some 6, .move (.tmp 0), none⟩,
     ⟨some 7, .call { callee := .builtin .len, args := #[.tmp 6], argTypes := #[22] }, none⟩,
     ⟨some 8, .binOp .lss 3 (.tmp 7) (.const (.int .i64 2)) 3, none⟩])
  (.cond (.tmp 8)
   (.seq (.reg false [⟨some 9, .move (.tmp 0), none⟩,
       ⟨some 2, .assign (.tmp 9), none⟩])
    .ret)
   .skip))
 (.seq (.seq (.reg false [⟨some 3, .assign (.const (.int .i64 1)), none⟩])
  (.block 0 (.loop (.seq (.seq (.reg false [⟨some 10, .move (.tmp 3), none⟩,
        ⟨some 11, .move (.tmp 0), none⟩,
        ⟨some 12, .call { callee := .builtin .len, args := #[.tmp 11], argTypes := #[22] }, none⟩,
        ⟨some 13, .binOp .lss 3 (.tmp 10) (.tmp 12) 3, none⟩])
     (.cond (.tmp 13)
      .skip
      (.exit 0)))
    (.seq (.block 1 (.seq (.reg true [⟨some 16, .move (.tmp 0), none⟩,
         ⟨some 17, .move (.tmp 3), none⟩,
         ⟨some 18, .indexAddr 22 (.tmp 16) (.tmp 17), none⟩,
         ⟨some 19, .load 3 (.tmp 18), none⟩,
         ⟨some 20, .move (.tmp 0), none⟩,
         ⟨some 21, .move (.tmp 3), none⟩,
         ⟨some 22, .binOp .sub 3 (.tmp 21) (.const (.int .i64 1)) 3, none⟩,
         ⟨some 23, .indexAddr 22 (.tmp 20) (.tmp 22), none⟩,
         ⟨some 24, .load 3 (.tmp 23), none⟩,
         ⟨some 25, .binOp .eql 3 (.tmp 19) (.tmp 24) 3, none⟩])
      (.cond (.tmp 25)
       (.seq (.reg false [⟨some 26, .move (.tmp 0), none⟩,
           ⟨some 27, .move (.tmp 3), none⟩,
           ⟨some 28, .slice 22 (.tmp 26) (some (.tmp 27)) none none, none⟩,
           ⟨some 4, .assign (.tmp 28), none⟩])
        (.seq (.seq (.reg false [⟨some 5, .assign (.const (.int .i64 1)), none⟩])
         (.block 2 (.loop (.seq (.seq (.reg false [⟨some 29, .move (.tmp 5), none⟩,
               ⟨some 30, .move (.tmp 4), none⟩,
               ⟨some 31, .call { callee := .builtin .len, args := #[.tmp 30], argTypes := #[22] }, none⟩,
               ⟨some 32, .binOp .lss 3 (.tmp 29) (.tmp 31) 3, none⟩])
            (.cond (.tmp 32)
             .skip
             (.exit 2)))
           (.seq (.block 3 (.seq (.reg true [⟨some 35, .move (.tmp 4), none⟩,
                ⟨some 36, .move (.tmp 5), none⟩,
                ⟨some 37, .indexAddr 22 (.tmp 35) (.tmp 36), none⟩,
                ⟨some 38, .load 3 (.tmp 37), none⟩,
                ⟨some 39, .move (.tmp 4), none⟩,
                ⟨some 40, .move (.tmp 5), none⟩,
                ⟨some 41, .binOp .sub 3 (.tmp 40) (.const (.int .i64 1)) 3, none⟩,
                ⟨some 42, .indexAddr 22 (.tmp 39) (.tmp 41), none⟩,
                ⟨some 43, .load 3 (.tmp 42), none⟩,
                ⟨some 44, .binOp .neq 3 (.tmp 38) (.tmp 43) 3, none⟩])
             (.cond (.tmp 44)
              (.seq (.reg false [⟨some 45, .move (.tmp 0), none⟩,
                  ⟨some 46, .move (.tmp 3), none⟩,
                  ⟨some 47, .move (.tmp 4), none⟩,
                  ⟨some 48, .move (.tmp 5), none⟩,
                  ⟨some 49, .indexAddr 22 (.tmp 47) (.tmp 48), none⟩,
                  ⟨some 50, .load 3 (.tmp 49), none⟩,
                  ⟨some 51, .indexAddr 22 (.tmp 45) (.tmp 46), none⟩,
                  ⟨none, .store 3 (.tmp 51) (.tmp 50), none⟩])
               (.reg false [⟨some 52, .move (.tmp 3), none⟩,
                 ⟨some 53, .binOp .add 3 (.tmp 52) (.const (.int .i64 1)) 3, none⟩,
                 ⟨some 3, .assign (.tmp 53), none⟩]))
              .skip)))
           (.reg false [⟨some 33, .move (.tmp 5), none⟩,
             ⟨some 34, .binOp .add 3 (.tmp 33) (.const (.int .i64 1)) 3, none⟩,
             ⟨some 5, .assign (.tmp 34), none⟩]))))))
        (.seq (.reg false [⟨some 54, .move (.tmp 0), none⟩,
           ⟨some 55, .move (.tmp 3), none⟩,
           ⟨some 56, .slice 22 (.tmp 54) (some (.tmp 55)) none none, none⟩,
           ⟨none, .call { callee := .builtin .clear, args := #[.tmp 56], argTypes := #[22] }, none⟩])
        (.seq (.reg false [⟨some 57, .move (.tmp 0), none⟩,
           ⟨some 58, .move (.tmp 3), none⟩,
           ⟨some 59, .slice 22 (.tmp 57) none (some (.tmp 58)) none, none⟩,
           ⟨some 2, .assign (.tmp 59), none⟩])
        .ret))))
       .skip)))
    (.reg false [⟨some 14, .move (.tmp 3), none⟩,
      ⟨some 15, .binOp .add 3 (.tmp 14) (.const (.int .i64 1)) 3, none⟩,
      ⟨some 3, .assign (.tmp 15), none⟩]))))))
 (.seq (.reg false [⟨some 60, .move (.tmp 0), none⟩,
    ⟨some 2, .assign (.tmp 60), none⟩])
 .ret))))⟩
theorem sf117 : sfOf Try.f117 = some s117 := by kernel_rfl
theorem hb117 : hasBody Try.prog 117 = true := by kernel_rfl
def s118 : SF := ⟨36, [.tmp 4],
 (.seq (.reg false [⟨some 2, .box 135 (.tmp 0), none⟩,
    ⟨some 4, .assign (.const (.slice none 0 0)), none⟩])
 (.seq (.seq (.reg false [⟨some 9, .fieldAddr 135 (.tmp 2) 0, none⟩,
     ⟨some 10, .fieldAddr 24 (.tmp 9) 1, none⟩,
     ⟨some 11, .load 22 (.tmp 10), none⟩,
     ⟨some 12, .call { callee := .builtin .len, args := #[.tmp 11], argTypes := #[22] }, none⟩,
     ⟨some 13, .move (.const (.int .i64 0)), none⟩])
  (.block 0 (.loop (.seq (.reg false [⟨some 14, .binOp .lss 3 (.tmp 13) (.tmp 12) 3, none⟩])
    (.seq (.cond (.tmp 14)
      .skip
      (.exit 0))
    (.seq (.block 1 (.seq (.reg false [⟨some 15, .move (.tmp 13), none⟩,
         ⟨some 5, .assign (.tmp 15), none⟩])
      (.seq (.reg false [⟨some 6, .assign (.const (.int .i64 1)), none⟩])
      (.block 2 (.loop (.seq (.seq (.reg false [⟨some 16, .move (.tmp 6), none⟩,
            ⟨some 17, .binOp .leq 102 (.tmp 16) (.const (.int .i64 4)) 102, none⟩])
         (.cond (.tmp 17)
          .skip
          (.exit 2)))
        (.seq (.block 3 (.seq (.reg false [⟨some 20, .move (.tmp 1), none⟩,
             ⟨some 21, .call { callee := .builtin .len, args := #[.tmp 20], argTypes := #[22] }, none⟩,
             ⟨some 22, .move (.const (.int .i64 0)), none⟩])
          (.block 4 (.loop (.seq (.reg false [⟨some 23, .binOp .lss 3 (.tmp 22) (.tmp 21) 3, none⟩])
            (.seq (.cond (.tmp 23)
              .skip
              (.exit 4))
            (.seq (.block 5 (.seq (.reg false [⟨some 24, .indexAddr 22 (.tmp 20) (.tmp 22), none⟩,
                 ⟨some 25, .load 3 (.tmp 24), none⟩,
                 ⟨some 8, .assign (.tmp 25), none⟩])
              (.reg false [⟨some 26, .move (.tmp 4), none⟩,
                ⟨some 27, .move (.tmp 5), none⟩,
                ⟨some 28, .move (.tmp 6), none⟩,
                ⟨some 29, .move (.tmp 8), none⟩,
                ⟨some 30, .build 104 #[(0, (.tmp 27)), (1, (.tmp 28)), (2, (.tmp 29))], none⟩,
                ⟨some 31, .buildSlice 32 1 #[(0, (.tmp 30))], none⟩,
                ⟨some 32, .call { callee := .builtin .append, args := #[.tmp 26, .tmp 31], argTypes := #[32, 32] }, none⟩,
                ⟨some 4, .assign (.tmp 32), none⟩])))
            (.reg false [⟨some 33, .binOp .add 3 (.tmp 22) (.const (.int .i64 1)) 3, none⟩,
              ⟨some 22, .move (.tmp 33), none⟩]))))))))
        (.reg false [⟨some 18, .move (.tmp 6), none⟩,
          ⟨some 19, .binOp .add 102 (.tmp 18) (.const (.int .i64 1)) 102, none⟩,
          ⟨some 6, .assign (.tmp 19), none⟩]))))))))
    (.reg false [⟨some 34, .binOp .add 3 (.tmp 13) (.const (.int .i64 1)) 3, none⟩,
      ⟨some 13, .move (.tmp 34), none⟩])))))))
 (.seq (.reg false [⟨some 35, .move (.tmp 4), none⟩,
    ⟨some 4, .assign (.tmp 35), none⟩])
 .ret)))⟩
theorem sf118 : sfOf Try.f118 = some s118 := by kernel_rfl
theorem hb118 : hasBody Try.prog 118 = true := by kernel_rfl
def s119 : SF := ⟨19, [.tmp 4],
 (.seq (.reg false [⟨some 4, .assign (.const (.int .i64 0)), none⟩])
 (.seq (.seq (.reg false [⟨some 6, .move (.tmp 0), none⟩,
     ⟨some 7, .call { callee := .builtin .len, args := #[.tmp 6], argTypes := #[25] }, none⟩,
     ⟨some 8, .move (.const (.int .i64 0)), none⟩])
  (.block 0 (.loop (.seq (.reg false [⟨some 9, .binOp .lss 3 (.tmp 8) (.tmp 7) 3, none⟩])
    (.seq (.cond (.tmp 9)
      .skip
      (.exit 0))
    (.seq (.block 1 (.seq (.reg false [⟨some 10, .move (.tmp 8), none⟩,
         ⟨some 5, .assign (.tmp 10), none⟩])
      (.seq (.reg false [⟨some 11, .move (.tmp 1), none⟩,
         ⟨some 12, .move (.tmp 0), none⟩,
         ⟨some 13, .move (.tmp 5), none⟩,
         ⟨some 14, .indexAddr 25 (.tmp 12) (.tmp 13), none⟩,
         ⟨some 15, .load 48 (.tmp 14), none⟩,
         ⟨some 16, .call { callee := .value (.tmp 11), args := #[.tmp 15], argTypes := #[48] }, none⟩])
      (.cond (.tmp 16)
       (.seq (.reg false [⟨some 17, .move (.tmp 5), none⟩,
           ⟨some 4, .assign (.tmp 17), none⟩])
        .ret)
       .skip))))
    (.reg false [⟨some 18, .binOp .add 3 (.tmp 8) (.const (.int .i64 1)) 3, none⟩,
      ⟨some 8, .move (.tmp 18), none⟩])))))))
 (.seq (.reg false [⟨some 4, .assign (.const (.int .i64 (-1))), none⟩])
 .ret)))⟩
theorem sf119 : sfOf Try.f119 = some s119 := by kernel_rfl
theorem hb119 : hasBody Try.prog 119 = true := by kernel_rfl
def s120 : SF := ⟨8, [.tmp 3],
 (.seq (.reg false [⟨some 2, .box 104 (.tmp 0), none⟩,
    ⟨some 3, .assign (.const (.bool false)), none⟩])
 (.seq (.reg false [⟨some 4, .load 135 (.tmp 1), none⟩,
    ⟨some 5, .load 104 (.tmp 2), none⟩,
    ⟨some 6, .call { callee := .value (.func 121), args := #[.tmp 4, .tmp 5], argTypes := #[135, 104] }, none⟩,
    ⟨some 7, .unOp .not 4 (.tmp 6), none⟩,
    ⟨some 3, .assign (.tmp 7), none⟩])
 .ret))⟩
theorem sf120 : sfOf Try.f120 = some s120 := by kernel_rfl
theorem hb120 : hasBody Try.prog 120 = true := by kernel_rfl
def s121 : SF := ⟨21, [.tmp 4],
 (.seq (.reg false [⟨some 2, .box 135 (.tmp 0), none⟩,
    ⟨some 3, .box 104 (.tmp 1), none⟩,
    ⟨some 4, .assign (.const (.bool false)), none⟩])
 (.seq (.reg false [⟨some 5, .load 135 (.tmp 2), none⟩,
    ⟨some 6, .fieldAddr 104 (.tmp 3) 0, none⟩,
    ⟨some 7, .load 3 (.tmp 6), none⟩,
    ⟨some 8, .call { callee := .value (.func 115), args := #[.tmp 5, .tmp 7], argTypes := #[135, 3] }, none⟩,
    ⟨some 9, .move (.tmp 8), none⟩,
    ⟨some 10, .fieldAddr 104 (.tmp 3) 1, some (9, true)⟩,
    ⟨some 11, .load 102 (.tmp 10), some (9, true)⟩,
    ⟨some 12, .buildSlice 22 1 #[(0, (.tmp 11))], some (9, true)⟩,
    ⟨some 13, .call { callee := .value (.func 88), args := #[.const (.int .i64 1), .const (.int .i64 4), .tmp 12], argTypes := #[3, 3, 22] }, some (9, true)⟩,
    ⟨some 14, .pick (.tmp 9) (.tmp 13) (.const (.bool false)), none⟩,
    ⟨some 15, .move (.tmp 14), none⟩,
    ⟨some 16, .fieldAddr 104 (.tmp 3) 2, some (15, true)⟩,
    ⟨some 17, .load 3 (.tmp 16), some (15, true)⟩,
    ⟨some 18, .buildSlice 22 1 #[(0, (.tmp 17))], some (15, true)⟩,
    ⟨some 19, .call { callee := .value (.func 93), args := #[.tmp 18], argTypes := #[22] }, some (15, true)⟩,
    ⟨some 20, .pick (.tmp 15) (.tmp 19) (.const (.bool false)), none⟩,
    ⟨some 4, .assign (.tmp 20), none⟩])
 .ret))⟩
theorem sf121 : sfOf Try.f121 = some s121 := by kernel_rfl
theorem hb121 : hasBody Try.prog 121 = true := by kernel_rfl
def s122 : SF := ⟨19, [.tmp 4],
 (.seq (.reg false [⟨some 4, .assign (.const (.int .i64 0)), none⟩])
 (.seq (.seq (.reg false [⟨some 6, .move (.tmp 0), none⟩,
     ⟨some 7, .call { callee := .builtin .len, args := #[.tmp 6], argTypes := #[22] }, none⟩,
     ⟨some 8, .move (.const (.int .i64 0)), none⟩])
  (.block 0 (.loop (.seq (.reg false [⟨some 9, .binOp .lss 3 (.tmp 8) (.tmp 7) 3, none⟩])
    (.seq (.cond (.tmp 9)
      .skip
      (.exit 0))
    (.seq (.block 1 (.seq (.reg false [⟨some 10, .move (.tmp 8), none⟩,
         ⟨some 5, .assign (.tmp 10), none⟩])
      (.seq (.reg false [⟨some 11, .move (.tmp 1), none⟩,
         ⟨some 12, .move (.tmp 0), none⟩,
         ⟨some 13, .move (.tmp 5), none⟩,
         ⟨some 14, .indexAddr 22 (.tmp 12) (.tmp 13), none⟩,
         ⟨some 15, .load 3 (.tmp 14), none⟩,
         ⟨some 16, .call { callee := .value (.tmp 11), args := #[.tmp 15], argTypes := #[3] }, none⟩])
      (.cond (.tmp 16)
       (.seq (.reg false [⟨some 17, .move (.tmp 5), none⟩,
           ⟨some 4, .assign (.tmp 17), none⟩])
        .ret)
       .skip))))
    (.reg false [⟨some 18, .binOp .add 3 (.tmp 8) (.const (.int .i64 1)) 3, none⟩,
      ⟨some 8, .move (.tmp 18), none⟩])))))))
 (.seq (.reg false [⟨some 4, .assign (.const (.int .i64 (-1))), none⟩])
 .ret)))⟩
theorem sf122 : sfOf Try.f122 = some s122 := by kernel_rfl
theorem hb122 : hasBody Try.prog 122 = true := by kernel_rfl
end Go.Dw.Seat
end
section
set_option linter.unusedSimpArgs false
namespace Go.Dw.Seat
open Go Go.Dw Go.Proofs Go.IntWalk
structure Cause where
  noz : Int
  kind : Int
  frm : Int
instance : DecidableEq Cause := fun a b => decidable_of_iff (a.noz = b.noz ∧ a.kind = b.kind ∧ a.frm = b.frm) (by cases a; cases b; simp)
def eC (c : Cause) : List C := [.v (.int .i64 c.noz), .v (.int .i64 c.kind), .v (.int .i64 c.frm)]
theorem eC_nb (c : Cause) : C.nbs (eC c) = true := rfl
structure Look where
  box : Int
  noz : Int
  step : Int
  glue : Bool
instance : DecidableEq Look := fun a b => decidable_of_iff (a.box = b.box ∧ a.noz = b.noz ∧ a.step = b.step ∧ a.glue = b.glue) (by cases a; cases b; simp)
def eL (c : Look) : List C := [.v (.int .i64 c.box), .v (.int .i64 c.noz), .v (.int .i64 c.step), .v (.bool c.glue)]
theorem eL_nb (c : Look) : C.nbs (eL c) = true := rfl
structure Room where
  wl : Int
  wh : Int
  dl : Int
  dh : Int
instance : DecidableEq Room := fun a b => decidable_of_iff (a.wl = b.wl ∧ a.wh = b.wh ∧ a.dl = b.dl ∧ a.dh = b.dh) (by cases a; cases b; simp)
def eR (c : Room) : List C := [.v (.int .i64 c.wl), .v (.int .i64 c.wh), .v (.int .i64 c.dl), .v (.int .i64 c.dh)]
theorem eR_nb (c : Room) : C.nbs (eR c) = true := rfl
def eSb (b : Bool) (s : List Cause) : List C := [.sl b 3 (rows eC s)]
abbrev eS := eSb false
theorem eS_nb (s : List Cause) : C.nbs (eS s) = true := by simp [eSb, C.nbs, C.nb, rows_nb eC_nb]
def eG (s : List Int) : List C := [.sl false 1 (rows eI s)]
theorem eG_nb (s : List Int) : C.nbs (eG s) = true := by simp [eG, C.nbs, C.nb, rows_nb eI_nb]
structure Plan where
  steps : Int
  noz : List Int
abbrev dP (b : Bool) (p : Plan) : D := .agg [.c (.v (.int .i64 p.steps)), .c (.sl b 1 (rows eI p.noz))]
abbrev dCs (b : Bool) (l : List Cause) : D := .c (.sl b 3 (rows eC l))
abbrev dLs (b : Bool) (l : List Look) : D := .c (.sl b 4 (rows eL l))
abbrev dSs (b : Bool) (l : List (List Cause)) : D := .c (.sl b 1 (rows eS l))
theorem eqCause (a b : Cause) : (a.noz == b.noz && (a.kind == b.kind && a.frm == b.frm)) = decide (a = b) := by
  cases a; cases b
  rw [Bool.eq_iff_iff]
  simp
theorem rowC_snocC (l : List Cause) (a b c : Int) : rowC (rows eC l) ++ [[D.c (.v (.int .i64 a)), D.c (.v (.int .i64 b)), D.c (.v (.int .i64 c))]] = rowC (rows eC (l ++ [⟨a, b, c⟩])) := by simp [rowC, rows, eC]
theorem rowC_snocL (l : List Look) (a b c : Int) (d : Bool) : rowC (rows eL l) ++ [[D.c (.v (.int .i64 a)), D.c (.v (.int .i64 b)), D.c (.v (.int .i64 c)), D.c (.v (.bool d))]] = rowC (rows eL (l ++ [⟨a, b, c, d⟩])) := by simp [rowC, rows, eL]
theorem rowC_snocS (l : List (List Cause)) (s : List Cause) : rowC (rows (eSb false) l) ++ [[D.c (.sl false 3 (rows eC s))]] = rowC (rows (eSb false) (l ++ [s])) := by simp [rowC, rows, eSb]
attribute [go_sem] rowC_snocC rowC_snocL rowC_snocS
attribute [go_sem] eC eL eR eS eSb eG dP dCs dLs dSs
end Go.Dw.Seat
end
