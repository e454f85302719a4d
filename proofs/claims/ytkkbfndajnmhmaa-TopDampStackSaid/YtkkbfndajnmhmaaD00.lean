/- Helpers of a proof. -/
import Derived.Test.YtkkbfndajnmhmaaW46
import Derived.Test.YtkkbfndajnmhmaaProg
set_option linter.unusedVariables false
set_option linter.unusedSimpArgs false
section
namespace Go.Dw.Seat
open Go Go.Dw Go.Proofs
instance laysI : Lays := ⟨[]⟩
theorem laid0 (W : World) : LaidA (fun _ => False) W := fun _ hp => nomatch hp
theorem el0 : elemI Try.prog 0 = none := by kernel_rfl
theorem ty1 : tyI Try.prog 1 = some ⟨false, 1, [.nilFunc], 8⟩ := by kernel_rfl
theorem el1 : elemI Try.prog 1 = none := by kernel_rfl
theorem ty2 : tyI Try.prog 2 = some ⟨false, 1, [(.int .i64 0)], 8⟩ := by kernel_rfl
theorem el2 : elemI Try.prog 2 = none := by kernel_rfl
theorem it2 : intI Try.prog 2 = some .i64 := by kernel_rfl
theorem ty3 : tyI Try.prog 3 = some ⟨false, 1, [(.int .i64 0)], 8⟩ := by kernel_rfl
theorem el3 : elemI Try.prog 3 = none := by kernel_rfl
theorem it3 : intI Try.prog 3 = some .i64 := by kernel_rfl
theorem ty4 : tyI Try.prog 4 = some ⟨false, 1, [(.bool false)], 1⟩ := by kernel_rfl
theorem el4 : elemI Try.prog 4 = none := by kernel_rfl
theorem bl4 : blI Try.prog 4 = true := by kernel_rfl
theorem ty5 : tyI Try.prog 5 = some ⟨false, 1, [(.int .u8 0)], 1⟩ := by kernel_rfl
theorem el5 : elemI Try.prog 5 = none := by kernel_rfl
theorem it5 : intI Try.prog 5 = some .u8 := by kernel_rfl
theorem ty6 : tyI Try.prog 6 = some ⟨false, 1, [(.int .u8 0)], 1⟩ := by kernel_rfl
theorem el6 : elemI Try.prog 6 = none := by kernel_rfl
theorem it6 : intI Try.prog 6 = some .u8 := by kernel_rfl
theorem ty7 : tyI Try.prog 7 = some ⟨true, 4, [(.int .i64 0), (.int .i64 0), (.bool false), (.int .u8 0)], 24⟩ := by kernel_rfl
theorem el7 : elemI Try.prog 7 = none := by kernel_rfl
theorem eq7 : eqTy Try.prog 7 = some (.st [(0, 1, .it), (1, 1, .it), (2, 1, .bl), (3, 1, .it)]) := by kernel_rfl
theorem pl7 : placesI Try.prog 7 = some [(0, 1), (1, 1), (2, 1), (3, 1)] := by kernel_rfl
theorem fi7_0 : fieldI Try.prog 7 0 = some (0, 1, false) := by kernel_rfl
theorem fi7_1 : fieldI Try.prog 7 1 = some (1, 1, false) := by kernel_rfl
theorem fi7_2 : fieldI Try.prog 7 2 = some (2, 1, false) := by kernel_rfl
theorem fi7_3 : fieldI Try.prog 7 3 = some (3, 1, false) := by kernel_rfl
theorem ty8 : tyI Try.prog 8 = some ⟨true, 4, [(.int .i64 0), (.int .i64 0), (.bool false), (.int .u8 0)], 24⟩ := by kernel_rfl
theorem el8 : elemI Try.prog 8 = none := by kernel_rfl
theorem eq8 : eqTy Try.prog 8 = some (.st [(0, 1, .it), (1, 1, .it), (2, 1, .bl), (3, 1, .it)]) := by kernel_rfl
theorem pl8 : placesI Try.prog 8 = some [(0, 1), (1, 1), (2, 1), (3, 1)] := by kernel_rfl
theorem fi8_0 : fieldI Try.prog 8 0 = some (0, 1, false) := by kernel_rfl
theorem fi8_1 : fieldI Try.prog 8 1 = some (1, 1, false) := by kernel_rfl
theorem fi8_2 : fieldI Try.prog 8 2 = some (2, 1, false) := by kernel_rfl
theorem fi8_3 : fieldI Try.prog 8 3 = some (3, 1, false) := by kernel_rfl
theorem ty9 : tyI Try.prog 9 = some ⟨false, 1, [(.string ⟨#[]⟩)], 16⟩ := by kernel_rfl
theorem el9 : elemI Try.prog 9 = none := by kernel_rfl
theorem ty10 : tyI Try.prog 10 = some ⟨false, 1, [(.string ⟨#[]⟩)], 16⟩ := by kernel_rfl
theorem el10 : elemI Try.prog 10 = none := by kernel_rfl
theorem ty11 : tyI Try.prog 11 = some ⟨false, 1, [(.string ⟨#[]⟩)], 16⟩ := by kernel_rfl
theorem el11 : elemI Try.prog 11 = none := by kernel_rfl
theorem ty12 : tyI Try.prog 12 = some ⟨false, 1, [(.int .u64 0)], 8⟩ := by kernel_rfl
theorem el12 : elemI Try.prog 12 = none := by kernel_rfl
theorem it12 : intI Try.prog 12 = some .u64 := by kernel_rfl
theorem ty13 : tyI Try.prog 13 = some ⟨true, 2, [(.string ⟨#[]⟩), (.int .u64 0)], 24⟩ := by kernel_rfl
theorem el13 : elemI Try.prog 13 = none := by kernel_rfl
theorem pl13 : placesI Try.prog 13 = some [(0, 1), (1, 1)] := by kernel_rfl
theorem fi13_0 : fieldI Try.prog 13 0 = some (0, 1, false) := by kernel_rfl
theorem fi13_1 : fieldI Try.prog 13 1 = some (1, 1, false) := by kernel_rfl
theorem ty14 : tyI Try.prog 14 = some ⟨true, 2, [(.string ⟨#[]⟩), (.int .u64 0)], 24⟩ := by kernel_rfl
theorem el14 : elemI Try.prog 14 = none := by kernel_rfl
theorem pl14 : placesI Try.prog 14 = some [(0, 1), (1, 1)] := by kernel_rfl
theorem fi14_0 : fieldI Try.prog 14 0 = some (0, 1, false) := by kernel_rfl
theorem fi14_1 : fieldI Try.prog 14 1 = some (1, 1, false) := by kernel_rfl
theorem ty15 : tyI Try.prog 15 = some ⟨false, 1, [(.pointer none)], 8⟩ := by kernel_rfl
theorem el15 : elemI Try.prog 15 = none := by kernel_rfl
theorem ty16 : tyI Try.prog 16 = some ⟨false, 1, [(.pointer none)], 8⟩ := by kernel_rfl
theorem el16 : elemI Try.prog 16 = none := by kernel_rfl
theorem ty17 : tyI Try.prog 17 = some ⟨false, 1, [(.pointer none)], 8⟩ := by kernel_rfl
theorem el17 : elemI Try.prog 17 = none := by kernel_rfl
theorem ty18 : tyI Try.prog 18 = some ⟨true, 1, [(.pointer none)], 8⟩ := by kernel_rfl
theorem el18 : elemI Try.prog 18 = none := by kernel_rfl
theorem pl18 : placesI Try.prog 18 = some [(0, 1)] := by kernel_rfl
theorem fi18_0 : fieldI Try.prog 18 0 = some (0, 1, false) := by kernel_rfl
theorem ty19 : tyI Try.prog 19 = some ⟨true, 1, [(.pointer none)], 8⟩ := by kernel_rfl
theorem el19 : elemI Try.prog 19 = none := by kernel_rfl
theorem pl19 : placesI Try.prog 19 = some [(0, 1)] := by kernel_rfl
theorem fi19_0 : fieldI Try.prog 19 0 = some (0, 1, false) := by kernel_rfl
theorem ty20 : tyI Try.prog 20 = some ⟨false, 1, [.nilIface], 16⟩ := by kernel_rfl
theorem el20 : elemI Try.prog 20 = none := by kernel_rfl
theorem ty21 : tyI Try.prog 21 = some ⟨false, 1, [(.int .i32 0)], 4⟩ := by kernel_rfl
theorem el21 : elemI Try.prog 21 = none := by kernel_rfl
theorem it21 : intI Try.prog 21 = some .i32 := by kernel_rfl
theorem ty22 : tyI Try.prog 22 = some ⟨true, 6, [(.int .u8 0), (.int .u8 0), (.int .u8 0), (.int .u8 0), (.int .u8 0), (.int .u8 0)], 6⟩ := by kernel_rfl
theorem el22 : elemI Try.prog 22 = none := by kernel_rfl
theorem ar22 : arrI Try.prog 22 = some (6, 5) := by kernel_rfl
theorem pl22 : placesI Try.prog 22 = some [(0, 1), (1, 1), (2, 1), (3, 1), (4, 1), (5, 1)] := by kernel_rfl
theorem ty23 : tyI Try.prog 23 = some ⟨true, 2, [(.int .u8 0), (.int .u8 0)], 2⟩ := by kernel_rfl
theorem el23 : elemI Try.prog 23 = none := by kernel_rfl
theorem ar23 : arrI Try.prog 23 = some (2, 5) := by kernel_rfl
theorem pl23 : placesI Try.prog 23 = some [(0, 1), (1, 1)] := by kernel_rfl
theorem ty24 : tyI Try.prog 24 = some ⟨true, 2, [(.int .i64 0), (.int .i64 0)], 16⟩ := by kernel_rfl
theorem el24 : elemI Try.prog 24 = none := by kernel_rfl
theorem eq24 : eqTy Try.prog 24 = some (.st [(0, 1, .it), (1, 1, .it)]) := by kernel_rfl
theorem pl24 : placesI Try.prog 24 = some [(0, 1), (1, 1)] := by kernel_rfl
theorem fi24_0 : fieldI Try.prog 24 0 = some (0, 1, false) := by kernel_rfl
theorem fi24_1 : fieldI Try.prog 24 1 = some (1, 1, false) := by kernel_rfl
theorem ty25 : tyI Try.prog 25 = some ⟨true, 2, [(.int .i64 0), (.int .i64 0)], 16⟩ := by kernel_rfl
theorem el25 : elemI Try.prog 25 = none := by kernel_rfl
theorem eq25 : eqTy Try.prog 25 = some (.st [(0, 1, .it), (1, 1, .it)]) := by kernel_rfl
theorem pl25 : placesI Try.prog 25 = some [(0, 1), (1, 1)] := by kernel_rfl
theorem fi25_0 : fieldI Try.prog 25 0 = some (0, 1, false) := by kernel_rfl
theorem fi25_1 : fieldI Try.prog 25 1 = some (1, 1, false) := by kernel_rfl
theorem ty26 : tyI Try.prog 26 = some ⟨false, 1, [.nilFunc], 8⟩ := by kernel_rfl
theorem el26 : elemI Try.prog 26 = none := by kernel_rfl
theorem ty27 : tyI Try.prog 27 = some ⟨true, 7, [(.int .i64 0), (.int .i64 0), (.int .i64 0), (.int .i64 0), (.int .i64 0), (.int .i64 0), (.int .i64 0)], 56⟩ := by kernel_rfl
theorem el27 : elemI Try.prog 27 = none := by kernel_rfl
theorem eq27 : eqTy Try.prog 27 = some (.st [(0, 1, .it), (1, 1, .it), (2, 1, .it), (3, 2, (.st [(0, 1, .it), (1, 1, .it)])), (5, 2, (.st [(0, 1, .it), (1, 1, .it)]))]) := by kernel_rfl
theorem pl27 : placesI Try.prog 27 = some [(0, 1), (1, 1), (2, 1), (3, 2), (5, 2)] := by kernel_rfl
theorem fi27_0 : fieldI Try.prog 27 0 = some (0, 1, false) := by kernel_rfl
theorem fi27_1 : fieldI Try.prog 27 1 = some (1, 1, false) := by kernel_rfl
theorem fi27_2 : fieldI Try.prog 27 2 = some (2, 1, false) := by kernel_rfl
theorem fi27_3 : fieldI Try.prog 27 3 = some (3, 2, true) := by kernel_rfl
theorem fi27_4 : fieldI Try.prog 27 4 = some (5, 2, true) := by kernel_rfl
theorem ty28 : tyI Try.prog 28 = some ⟨true, 7, [(.int .i64 0), (.int .i64 0), (.int .i64 0), (.int .i64 0), (.int .i64 0), (.int .i64 0), (.int .i64 0)], 56⟩ := by kernel_rfl
theorem el28 : elemI Try.prog 28 = none := by kernel_rfl
theorem eq28 : eqTy Try.prog 28 = some (.st [(0, 1, .it), (1, 1, .it), (2, 1, .it), (3, 2, (.st [(0, 1, .it), (1, 1, .it)])), (5, 2, (.st [(0, 1, .it), (1, 1, .it)]))]) := by kernel_rfl
theorem pl28 : placesI Try.prog 28 = some [(0, 1), (1, 1), (2, 1), (3, 2), (5, 2)] := by kernel_rfl
theorem fi28_0 : fieldI Try.prog 28 0 = some (0, 1, false) := by kernel_rfl
theorem fi28_1 : fieldI Try.prog 28 1 = some (1, 1, false) := by kernel_rfl
theorem fi28_2 : fieldI Try.prog 28 2 = some (2, 1, false) := by kernel_rfl
theorem fi28_3 : fieldI Try.prog 28 3 = some (3, 2, true) := by kernel_rfl
theorem fi28_4 : fieldI Try.prog 28 4 = some (5, 2, true) := by kernel_rfl
theorem ty29 : tyI Try.prog 29 = some ⟨true, 6, [(.int .i64 0), (.int .i64 0), (.int .i64 0), (.int .i64 0), (.int .i64 0), (.int .i64 0)], 48⟩ := by kernel_rfl
theorem el29 : elemI Try.prog 29 = none := by kernel_rfl
theorem eq29 : eqTy Try.prog 29 = some (.st [(0, 1, .it), (1, 1, .it), (2, 1, .it), (3, 1, .it), (4, 1, .it), (5, 1, .it)]) := by kernel_rfl
theorem pl29 : placesI Try.prog 29 = some [(0, 1), (1, 1), (2, 1), (3, 1), (4, 1), (5, 1)] := by kernel_rfl
theorem fi29_0 : fieldI Try.prog 29 0 = some (0, 1, false) := by kernel_rfl
theorem fi29_1 : fieldI Try.prog 29 1 = some (1, 1, false) := by kernel_rfl
theorem fi29_2 : fieldI Try.prog 29 2 = some (2, 1, false) := by kernel_rfl
theorem fi29_3 : fieldI Try.prog 29 3 = some (3, 1, false) := by kernel_rfl
theorem fi29_4 : fieldI Try.prog 29 4 = some (4, 1, false) := by kernel_rfl
theorem fi29_5 : fieldI Try.prog 29 5 = some (5, 1, false) := by kernel_rfl
theorem ty30 : tyI Try.prog 30 = some ⟨true, 6, [(.int .i64 0), (.int .i64 0), (.int .i64 0), (.int .i64 0), (.int .i64 0), (.int .i64 0)], 48⟩ := by kernel_rfl
theorem el30 : elemI Try.prog 30 = none := by kernel_rfl
theorem eq30 : eqTy Try.prog 30 = some (.st [(0, 1, .it), (1, 1, .it), (2, 1, .it), (3, 1, .it), (4, 1, .it), (5, 1, .it)]) := by kernel_rfl
theorem pl30 : placesI Try.prog 30 = some [(0, 1), (1, 1), (2, 1), (3, 1), (4, 1), (5, 1)] := by kernel_rfl
theorem fi30_0 : fieldI Try.prog 30 0 = some (0, 1, false) := by kernel_rfl
theorem fi30_1 : fieldI Try.prog 30 1 = some (1, 1, false) := by kernel_rfl
theorem fi30_2 : fieldI Try.prog 30 2 = some (2, 1, false) := by kernel_rfl
theorem fi30_3 : fieldI Try.prog 30 3 = some (3, 1, false) := by kernel_rfl
theorem fi30_4 : fieldI Try.prog 30 4 = some (4, 1, false) := by kernel_rfl
theorem fi30_5 : fieldI Try.prog 30 5 = some (5, 1, false) := by kernel_rfl
theorem ty31 : tyI Try.prog 31 = some ⟨true, 2, [(.int .i64 0), (.int .i64 0)], 16⟩ := by kernel_rfl
theorem el31 : elemI Try.prog 31 = none := by kernel_rfl
theorem eq31 : eqTy Try.prog 31 = some (.st [(0, 1, .it), (1, 1, .it)]) := by kernel_rfl
theorem pl31 : placesI Try.prog 31 = some [(0, 1), (1, 1)] := by kernel_rfl
theorem fi31_0 : fieldI Try.prog 31 0 = some (0, 1, false) := by kernel_rfl
theorem fi31_1 : fieldI Try.prog 31 1 = some (1, 1, false) := by kernel_rfl
theorem ty32 : tyI Try.prog 32 = some ⟨true, 2, [(.int .i64 0), (.int .i64 0)], 16⟩ := by kernel_rfl
theorem el32 : elemI Try.prog 32 = none := by kernel_rfl
theorem eq32 : eqTy Try.prog 32 = some (.st [(0, 1, .it), (1, 1, .it)]) := by kernel_rfl
theorem pl32 : placesI Try.prog 32 = some [(0, 1), (1, 1)] := by kernel_rfl
theorem fi32_0 : fieldI Try.prog 32 0 = some (0, 1, false) := by kernel_rfl
theorem fi32_1 : fieldI Try.prog 32 1 = some (1, 1, false) := by kernel_rfl
theorem ty33 : tyI Try.prog 33 = some ⟨false, 1, [(.slice none 0 0)], 24⟩ := by kernel_rfl
theorem el33 : elemI Try.prog 33 = some 32 := by kernel_rfl
theorem ty34 : tyI Try.prog 34 = some ⟨false, 1, [(.slice none 0 0)], 24⟩ := by kernel_rfl
theorem el34 : elemI Try.prog 34 = some 67 := by kernel_rfl
theorem ty35 : tyI Try.prog 35 = some ⟨false, 1, [(.int .i64 0)], 8⟩ := by kernel_rfl
theorem el35 : elemI Try.prog 35 = none := by kernel_rfl
theorem it35 : intI Try.prog 35 = some .i64 := by kernel_rfl
theorem el36 : elemI Try.prog 36 = none := by kernel_rfl
theorem ty37 : tyI Try.prog 37 = some ⟨false, 1, [.nilFunc], 8⟩ := by kernel_rfl
theorem el37 : elemI Try.prog 37 = none := by kernel_rfl
theorem el38 : elemI Try.prog 38 = none := by kernel_rfl
theorem ty39 : tyI Try.prog 39 = some ⟨false, 1, [.nilFunc], 8⟩ := by kernel_rfl
theorem el39 : elemI Try.prog 39 = none := by kernel_rfl
theorem ty40 : tyI Try.prog 40 = some ⟨false, 1, [.nilFunc], 8⟩ := by kernel_rfl
theorem el40 : elemI Try.prog 40 = none := by kernel_rfl
theorem ty41 : tyI Try.prog 41 = some ⟨false, 1, [.nilFunc], 8⟩ := by kernel_rfl
theorem el41 : elemI Try.prog 41 = none := by kernel_rfl
theorem ty42 : tyI Try.prog 42 = some ⟨false, 1, [.nilFunc], 8⟩ := by kernel_rfl
theorem el42 : elemI Try.prog 42 = none := by kernel_rfl
theorem ty43 : tyI Try.prog 43 = some ⟨false, 1, [(.slice none 0 0)], 24⟩ := by kernel_rfl
theorem el43 : elemI Try.prog 43 = some 45 := by kernel_rfl
theorem ty44 : tyI Try.prog 44 = some ⟨true, 4, [(.int .i64 0), (.int .i64 0), (.int .i64 0), (.int .i64 0)], 32⟩ := by kernel_rfl
theorem el44 : elemI Try.prog 44 = none := by kernel_rfl
theorem eq44 : eqTy Try.prog 44 = some (.st [(0, 2, (.st [(0, 1, .it), (1, 1, .it)])), (2, 2, (.st [(0, 1, .it), (1, 1, .it)]))]) := by kernel_rfl
theorem pl44 : placesI Try.prog 44 = some [(0, 2), (2, 2)] := by kernel_rfl
theorem fi44_0 : fieldI Try.prog 44 0 = some (0, 2, true) := by kernel_rfl
theorem fi44_1 : fieldI Try.prog 44 1 = some (2, 2, true) := by kernel_rfl
theorem ty45 : tyI Try.prog 45 = some ⟨true, 4, [(.int .i64 0), (.int .i64 0), (.int .i64 0), (.int .i64 0)], 32⟩ := by kernel_rfl
theorem el45 : elemI Try.prog 45 = none := by kernel_rfl
theorem eq45 : eqTy Try.prog 45 = some (.st [(0, 2, (.st [(0, 1, .it), (1, 1, .it)])), (2, 2, (.st [(0, 1, .it), (1, 1, .it)]))]) := by kernel_rfl
theorem pl45 : placesI Try.prog 45 = some [(0, 2), (2, 2)] := by kernel_rfl
theorem fi45_0 : fieldI Try.prog 45 0 = some (0, 2, true) := by kernel_rfl
theorem fi45_1 : fieldI Try.prog 45 1 = some (2, 2, true) := by kernel_rfl
theorem ty46 : tyI Try.prog 46 = some ⟨false, 1, [(.slice none 0 0)], 24⟩ := by kernel_rfl
theorem el46 : elemI Try.prog 46 = some 25 := by kernel_rfl
theorem el47 : elemI Try.prog 47 = none := by kernel_rfl
theorem ty48 : tyI Try.prog 48 = some ⟨false, 1, [.nilFunc], 8⟩ := by kernel_rfl
theorem el48 : elemI Try.prog 48 = none := by kernel_rfl
theorem ty49 : tyI Try.prog 49 = some ⟨false, 1, [.nilFunc], 8⟩ := by kernel_rfl
theorem el49 : elemI Try.prog 49 = none := by kernel_rfl
theorem el50 : elemI Try.prog 50 = none := by kernel_rfl
theorem ty51 : tyI Try.prog 51 = some ⟨false, 1, [.nilFunc], 8⟩ := by kernel_rfl
theorem el51 : elemI Try.prog 51 = none := by kernel_rfl
theorem ty52 : tyI Try.prog 52 = some ⟨false, 1, [.nilFunc], 8⟩ := by kernel_rfl
theorem el52 : elemI Try.prog 52 = none := by kernel_rfl
theorem ty53 : tyI Try.prog 53 = some ⟨true, 3, [(.int .u8 0), (.int .u8 0), (.int .u8 0)], 3⟩ := by kernel_rfl
theorem el53 : elemI Try.prog 53 = none := by kernel_rfl
theorem ar53 : arrI Try.prog 53 = some (3, 5) := by kernel_rfl
theorem pl53 : placesI Try.prog 53 = some [(0, 1), (1, 1), (2, 1)] := by kernel_rfl
theorem ty54 : tyI Try.prog 54 = some ⟨true, 4, [(.int .u8 0), (.int .u8 0), (.int .u8 0), (.int .u8 0)], 4⟩ := by kernel_rfl
theorem el54 : elemI Try.prog 54 = none := by kernel_rfl
theorem ar54 : arrI Try.prog 54 = some (4, 5) := by kernel_rfl
theorem pl54 : placesI Try.prog 54 = some [(0, 1), (1, 1), (2, 1), (3, 1)] := by kernel_rfl
theorem ty55 : tyI Try.prog 55 = some ⟨true, 3, [(.int .i64 0), (.int .i64 0), (.int .i64 0)], 24⟩ := by kernel_rfl
theorem el55 : elemI Try.prog 55 = none := by kernel_rfl
theorem eq55 : eqTy Try.prog 55 = some (.st [(0, 1, .it), (1, 1, .it), (2, 1, .it)]) := by kernel_rfl
theorem pl55 : placesI Try.prog 55 = some [(0, 1), (1, 1), (2, 1)] := by kernel_rfl
theorem fi55_0 : fieldI Try.prog 55 0 = some (0, 1, false) := by kernel_rfl
theorem fi55_1 : fieldI Try.prog 55 1 = some (1, 1, false) := by kernel_rfl
theorem fi55_2 : fieldI Try.prog 55 2 = some (2, 1, false) := by kernel_rfl
theorem ty56 : tyI Try.prog 56 = some ⟨true, 3, [(.int .i64 0), (.int .i64 0), (.int .i64 0)], 24⟩ := by kernel_rfl
theorem el56 : elemI Try.prog 56 = none := by kernel_rfl
theorem eq56 : eqTy Try.prog 56 = some (.st [(0, 1, .it), (1, 1, .it), (2, 1, .it)]) := by kernel_rfl
theorem pl56 : placesI Try.prog 56 = some [(0, 1), (1, 1), (2, 1)] := by kernel_rfl
theorem fi56_0 : fieldI Try.prog 56 0 = some (0, 1, false) := by kernel_rfl
theorem fi56_1 : fieldI Try.prog 56 1 = some (1, 1, false) := by kernel_rfl
theorem fi56_2 : fieldI Try.prog 56 2 = some (2, 1, false) := by kernel_rfl
theorem ty57 : tyI Try.prog 57 = some ⟨true, 4, [(.int .i64 0), (.int .i64 0), (.int .i64 0), (.int .i64 0)], 32⟩ := by kernel_rfl
theorem el57 : elemI Try.prog 57 = none := by kernel_rfl
theorem eq57 : eqTy Try.prog 57 = some (.st [(0, 2, (.st [(0, 1, .it), (1, 1, .it)])), (2, 2, (.st [(0, 1, .it), (1, 1, .it)]))]) := by kernel_rfl
theorem pl57 : placesI Try.prog 57 = some [(0, 2), (2, 2)] := by kernel_rfl
theorem fi57_0 : fieldI Try.prog 57 0 = some (0, 2, true) := by kernel_rfl
theorem fi57_1 : fieldI Try.prog 57 1 = some (2, 2, true) := by kernel_rfl
theorem ty58 : tyI Try.prog 58 = some ⟨true, 4, [(.int .i64 0), (.int .i64 0), (.int .i64 0), (.int .i64 0)], 32⟩ := by kernel_rfl
theorem el58 : elemI Try.prog 58 = none := by kernel_rfl
theorem eq58 : eqTy Try.prog 58 = some (.st [(0, 2, (.st [(0, 1, .it), (1, 1, .it)])), (2, 2, (.st [(0, 1, .it), (1, 1, .it)]))]) := by kernel_rfl
theorem pl58 : placesI Try.prog 58 = some [(0, 2), (2, 2)] := by kernel_rfl
theorem fi58_0 : fieldI Try.prog 58 0 = some (0, 2, true) := by kernel_rfl
theorem fi58_1 : fieldI Try.prog 58 1 = some (2, 2, true) := by kernel_rfl
theorem el59 : elemI Try.prog 59 = none := by kernel_rfl
theorem ty60 : tyI Try.prog 60 = some ⟨false, 1, [.nilFunc], 8⟩ := by kernel_rfl
theorem el60 : elemI Try.prog 60 = none := by kernel_rfl
theorem ty61 : tyI Try.prog 61 = some ⟨false, 1, [(.slice none 0 0)], 24⟩ := by kernel_rfl
theorem el61 : elemI Try.prog 61 = some 3 := by kernel_rfl
theorem el62 : elemI Try.prog 62 = none := by kernel_rfl
theorem ty63 : tyI Try.prog 63 = some ⟨false, 1, [.nilFunc], 8⟩ := by kernel_rfl
theorem el63 : elemI Try.prog 63 = none := by kernel_rfl
theorem ty64 : tyI Try.prog 64 = some ⟨false, 1, [(.slice none 0 0)], 24⟩ := by kernel_rfl
theorem el64 : elemI Try.prog 64 = some 58 := by kernel_rfl
theorem ty65 : tyI Try.prog 65 = some ⟨false, 1, [.nilFunc], 8⟩ := by kernel_rfl
theorem el65 : elemI Try.prog 65 = none := by kernel_rfl
theorem ty66 : tyI Try.prog 66 = some ⟨true, 3, [(.int .i64 0), (.int .i64 0), (.bool false)], 24⟩ := by kernel_rfl
theorem el66 : elemI Try.prog 66 = none := by kernel_rfl
theorem eq66 : eqTy Try.prog 66 = some (.st [(0, 1, .it), (1, 1, .it), (2, 1, .bl)]) := by kernel_rfl
theorem pl66 : placesI Try.prog 66 = some [(0, 1), (1, 1), (2, 1)] := by kernel_rfl
theorem fi66_0 : fieldI Try.prog 66 0 = some (0, 1, false) := by kernel_rfl
theorem fi66_1 : fieldI Try.prog 66 1 = some (1, 1, false) := by kernel_rfl
theorem fi66_2 : fieldI Try.prog 66 2 = some (2, 1, false) := by kernel_rfl
theorem ty67 : tyI Try.prog 67 = some ⟨true, 3, [(.int .i64 0), (.int .i64 0), (.bool false)], 24⟩ := by kernel_rfl
theorem el67 : elemI Try.prog 67 = none := by kernel_rfl
theorem eq67 : eqTy Try.prog 67 = some (.st [(0, 1, .it), (1, 1, .it), (2, 1, .bl)]) := by kernel_rfl
theorem pl67 : placesI Try.prog 67 = some [(0, 1), (1, 1), (2, 1)] := by kernel_rfl
theorem fi67_0 : fieldI Try.prog 67 0 = some (0, 1, false) := by kernel_rfl
theorem fi67_1 : fieldI Try.prog 67 1 = some (1, 1, false) := by kernel_rfl
theorem fi67_2 : fieldI Try.prog 67 2 = some (2, 1, false) := by kernel_rfl
theorem ty68 : tyI Try.prog 68 = some ⟨false, 1, [.nilFunc], 8⟩ := by kernel_rfl
theorem el68 : elemI Try.prog 68 = none := by kernel_rfl
theorem ty69 : tyI Try.prog 69 = some ⟨true, 7, [(.int .u8 0), (.int .u8 0), (.int .u8 0), (.int .u8 0), (.int .u8 0), (.int .u8 0), (.int .u8 0)], 7⟩ := by kernel_rfl
theorem el69 : elemI Try.prog 69 = none := by kernel_rfl
theorem ar69 : arrI Try.prog 69 = some (7, 5) := by kernel_rfl
theorem pl69 : placesI Try.prog 69 = some [(0, 1), (1, 1), (2, 1), (3, 1), (4, 1), (5, 1), (6, 1)] := by kernel_rfl
theorem ty70 : tyI Try.prog 70 = some ⟨false, 1, [(.int .u16 0)], 2⟩ := by kernel_rfl
theorem el70 : elemI Try.prog 70 = none := by kernel_rfl
theorem it70 : intI Try.prog 70 = some .u16 := by kernel_rfl
theorem ty71 : tyI Try.prog 71 = some ⟨true, 5, [(.int .i64 0), (.int .i64 0), (.int .i64 0), (.int .i64 0), (.int .i64 0)], 40⟩ := by kernel_rfl
theorem el71 : elemI Try.prog 71 = none := by kernel_rfl
theorem eq71 : eqTy Try.prog 71 = some (.st [(0, 1, .it), (1, 1, .it), (2, 1, .it), (3, 1, .it), (4, 1, .it)]) := by kernel_rfl
theorem pl71 : placesI Try.prog 71 = some [(0, 1), (1, 1), (2, 1), (3, 1), (4, 1)] := by kernel_rfl
theorem fi71_0 : fieldI Try.prog 71 0 = some (0, 1, false) := by kernel_rfl
theorem fi71_1 : fieldI Try.prog 71 1 = some (1, 1, false) := by kernel_rfl
theorem fi71_2 : fieldI Try.prog 71 2 = some (2, 1, false) := by kernel_rfl
theorem fi71_3 : fieldI Try.prog 71 3 = some (3, 1, false) := by kernel_rfl
theorem fi71_4 : fieldI Try.prog 71 4 = some (4, 1, false) := by kernel_rfl
theorem ty72 : tyI Try.prog 72 = some ⟨true, 5, [(.int .i64 0), (.int .i64 0), (.int .i64 0), (.int .i64 0), (.int .i64 0)], 40⟩ := by kernel_rfl
theorem el72 : elemI Try.prog 72 = none := by kernel_rfl
theorem eq72 : eqTy Try.prog 72 = some (.st [(0, 1, .it), (1, 1, .it), (2, 1, .it), (3, 1, .it), (4, 1, .it)]) := by kernel_rfl
theorem pl72 : placesI Try.prog 72 = some [(0, 1), (1, 1), (2, 1), (3, 1), (4, 1)] := by kernel_rfl
theorem fi72_0 : fieldI Try.prog 72 0 = some (0, 1, false) := by kernel_rfl
theorem fi72_1 : fieldI Try.prog 72 1 = some (1, 1, false) := by kernel_rfl
theorem fi72_2 : fieldI Try.prog 72 2 = some (2, 1, false) := by kernel_rfl
theorem fi72_3 : fieldI Try.prog 72 3 = some (3, 1, false) := by kernel_rfl
theorem fi72_4 : fieldI Try.prog 72 4 = some (4, 1, false) := by kernel_rfl
theorem el73 : elemI Try.prog 73 = none := by kernel_rfl
theorem ty74 : tyI Try.prog 74 = some ⟨false, 1, [.nilFunc], 8⟩ := by kernel_rfl
theorem el74 : elemI Try.prog 74 = none := by kernel_rfl
theorem ty75 : tyI Try.prog 75 = some ⟨false, 1, [(.slice none 0 0)], 24⟩ := by kernel_rfl
theorem el75 : elemI Try.prog 75 = some 163 := by kernel_rfl
theorem ty76 : tyI Try.prog 76 = some ⟨true, 11, [(.int .i64 0), (.int .i64 0), (.int .i64 0), (.int .i64 0), (.int .i64 0), (.int .i64 0), (.int .i64 0), (.int .i64 0), (.int .i64 0), (.int .i64 0), (.slice none 0 0)], 104⟩ := by kernel_rfl
theorem el76 : elemI Try.prog 76 = none := by kernel_rfl
theorem pl76 : placesI Try.prog 76 = some [(0, 1), (1, 1), (2, 1), (3, 1), (4, 1), (5, 1), (6, 1), (7, 1), (8, 1), (9, 1), (10, 1)] := by kernel_rfl
theorem fi76_0 : fieldI Try.prog 76 0 = some (0, 1, false) := by kernel_rfl
theorem fi76_1 : fieldI Try.prog 76 1 = some (1, 1, false) := by kernel_rfl
theorem fi76_2 : fieldI Try.prog 76 2 = some (2, 1, false) := by kernel_rfl
theorem fi76_3 : fieldI Try.prog 76 3 = some (3, 1, false) := by kernel_rfl
theorem fi76_4 : fieldI Try.prog 76 4 = some (4, 1, false) := by kernel_rfl
theorem fi76_5 : fieldI Try.prog 76 5 = some (5, 1, false) := by kernel_rfl
theorem fi76_6 : fieldI Try.prog 76 6 = some (6, 1, false) := by kernel_rfl
theorem fi76_7 : fieldI Try.prog 76 7 = some (7, 1, false) := by kernel_rfl
theorem fi76_8 : fieldI Try.prog 76 8 = some (8, 1, false) := by kernel_rfl
theorem fi76_9 : fieldI Try.prog 76 9 = some (9, 1, false) := by kernel_rfl
theorem fi76_10 : fieldI Try.prog 76 10 = some (10, 1, false) := by kernel_rfl
theorem ty77 : tyI Try.prog 77 = some ⟨true, 11, [(.int .i64 0), (.int .i64 0), (.int .i64 0), (.int .i64 0), (.int .i64 0), (.int .i64 0), (.int .i64 0), (.int .i64 0), (.int .i64 0), (.int .i64 0), (.slice none 0 0)], 104⟩ := by kernel_rfl
theorem el77 : elemI Try.prog 77 = none := by kernel_rfl
theorem pl77 : placesI Try.prog 77 = some [(0, 1), (1, 1), (2, 1), (3, 1), (4, 1), (5, 1), (6, 1), (7, 1), (8, 1), (9, 1), (10, 1)] := by kernel_rfl
theorem fi77_0 : fieldI Try.prog 77 0 = some (0, 1, false) := by kernel_rfl
theorem fi77_1 : fieldI Try.prog 77 1 = some (1, 1, false) := by kernel_rfl
theorem fi77_2 : fieldI Try.prog 77 2 = some (2, 1, false) := by kernel_rfl
theorem fi77_3 : fieldI Try.prog 77 3 = some (3, 1, false) := by kernel_rfl
theorem fi77_4 : fieldI Try.prog 77 4 = some (4, 1, false) := by kernel_rfl
theorem fi77_5 : fieldI Try.prog 77 5 = some (5, 1, false) := by kernel_rfl
theorem fi77_6 : fieldI Try.prog 77 6 = some (6, 1, false) := by kernel_rfl
theorem fi77_7 : fieldI Try.prog 77 7 = some (7, 1, false) := by kernel_rfl
theorem fi77_8 : fieldI Try.prog 77 8 = some (8, 1, false) := by kernel_rfl
theorem fi77_9 : fieldI Try.prog 77 9 = some (9, 1, false) := by kernel_rfl
theorem fi77_10 : fieldI Try.prog 77 10 = some (10, 1, false) := by kernel_rfl
theorem ty78 : tyI Try.prog 78 = some ⟨false, 1, [.nilFunc], 8⟩ := by kernel_rfl
theorem el78 : elemI Try.prog 78 = none := by kernel_rfl
theorem ty79 : tyI Try.prog 79 = some ⟨false, 1, [(.slice none 0 0)], 24⟩ := by kernel_rfl
theorem el79 : elemI Try.prog 79 = some 53 := by kernel_rfl
theorem ty80 : tyI Try.prog 80 = some ⟨true, 5, [(.int .u8 0), (.int .u8 0), (.int .u8 0), (.int .u8 0), (.slice none 0 0)], 32⟩ := by kernel_rfl
theorem el80 : elemI Try.prog 80 = none := by kernel_rfl
theorem pl80 : placesI Try.prog 80 = some [(0, 2), (2, 2), (4, 1)] := by kernel_rfl
theorem fi80_0 : fieldI Try.prog 80 0 = some (0, 2, true) := by kernel_rfl
theorem fi80_1 : fieldI Try.prog 80 1 = some (2, 2, true) := by kernel_rfl
theorem fi80_2 : fieldI Try.prog 80 2 = some (4, 1, false) := by kernel_rfl
theorem ty81 : tyI Try.prog 81 = some ⟨true, 5, [(.int .u8 0), (.int .u8 0), (.int .u8 0), (.int .u8 0), (.slice none 0 0)], 32⟩ := by kernel_rfl
theorem el81 : elemI Try.prog 81 = none := by kernel_rfl
theorem pl81 : placesI Try.prog 81 = some [(0, 2), (2, 2), (4, 1)] := by kernel_rfl
theorem fi81_0 : fieldI Try.prog 81 0 = some (0, 2, true) := by kernel_rfl
theorem fi81_1 : fieldI Try.prog 81 1 = some (2, 2, true) := by kernel_rfl
theorem fi81_2 : fieldI Try.prog 81 2 = some (4, 1, false) := by kernel_rfl
theorem ty82 : tyI Try.prog 82 = some ⟨false, 1, [(.slice none 0 0)], 24⟩ := by kernel_rfl
theorem el82 : elemI Try.prog 82 = some 5 := by kernel_rfl
theorem ty83 : tyI Try.prog 83 = some ⟨true, 2, [(.int .i64 0), (.int .i64 0)], 16⟩ := by kernel_rfl
theorem el83 : elemI Try.prog 83 = none := by kernel_rfl
theorem eq83 : eqTy Try.prog 83 = some (.st [(0, 1, .it), (1, 1, .it)]) := by kernel_rfl
theorem pl83 : placesI Try.prog 83 = some [(0, 1), (1, 1)] := by kernel_rfl
theorem fi83_0 : fieldI Try.prog 83 0 = some (0, 1, false) := by kernel_rfl
theorem fi83_1 : fieldI Try.prog 83 1 = some (1, 1, false) := by kernel_rfl
theorem ty84 : tyI Try.prog 84 = some ⟨true, 2, [(.int .i64 0), (.int .i64 0)], 16⟩ := by kernel_rfl
theorem el84 : elemI Try.prog 84 = none := by kernel_rfl
theorem eq84 : eqTy Try.prog 84 = some (.st [(0, 1, .it), (1, 1, .it)]) := by kernel_rfl
theorem pl84 : placesI Try.prog 84 = some [(0, 1), (1, 1)] := by kernel_rfl
theorem fi84_0 : fieldI Try.prog 84 0 = some (0, 1, false) := by kernel_rfl
theorem fi84_1 : fieldI Try.prog 84 1 = some (1, 1, false) := by kernel_rfl
theorem ty85 : tyI Try.prog 85 = some ⟨false, 1, [(.slice none 0 0)], 24⟩ := by kernel_rfl
theorem el85 : elemI Try.prog 85 = some 171 := by kernel_rfl
theorem el86 : elemI Try.prog 86 = none := by kernel_rfl
theorem ty87 : tyI Try.prog 87 = some ⟨false, 1, [.nilFunc], 8⟩ := by kernel_rfl
theorem el87 : elemI Try.prog 87 = none := by kernel_rfl
theorem ty88 : tyI Try.prog 88 = some ⟨false, 1, [.nilFunc], 8⟩ := by kernel_rfl
theorem el88 : elemI Try.prog 88 = none := by kernel_rfl
theorem ty89 : tyI Try.prog 89 = some ⟨false, 1, [.nilFunc], 8⟩ := by kernel_rfl
theorem el89 : elemI Try.prog 89 = none := by kernel_rfl
theorem ty90 : tyI Try.prog 90 = some ⟨true, 2, [(.int .i64 0), (.int .i64 0)], 16⟩ := by kernel_rfl
theorem el90 : elemI Try.prog 90 = none := by kernel_rfl
theorem eq90 : eqTy Try.prog 90 = some (.st [(0, 1, .it), (1, 1, .it)]) := by kernel_rfl
theorem pl90 : placesI Try.prog 90 = some [(0, 1), (1, 1)] := by kernel_rfl
theorem fi90_0 : fieldI Try.prog 90 0 = some (0, 1, false) := by kernel_rfl
theorem fi90_1 : fieldI Try.prog 90 1 = some (1, 1, false) := by kernel_rfl
theorem ty91 : tyI Try.prog 91 = some ⟨true, 2, [(.int .i64 0), (.int .i64 0)], 16⟩ := by kernel_rfl
theorem el91 : elemI Try.prog 91 = none := by kernel_rfl
theorem eq91 : eqTy Try.prog 91 = some (.st [(0, 1, .it), (1, 1, .it)]) := by kernel_rfl
theorem pl91 : placesI Try.prog 91 = some [(0, 1), (1, 1)] := by kernel_rfl
theorem fi91_0 : fieldI Try.prog 91 0 = some (0, 1, false) := by kernel_rfl
theorem fi91_1 : fieldI Try.prog 91 1 = some (1, 1, false) := by kernel_rfl
theorem ty92 : tyI Try.prog 92 = some ⟨false, 1, [(.slice none 0 0)], 24⟩ := by kernel_rfl
theorem el92 : elemI Try.prog 92 = some 91 := by kernel_rfl
theorem ty93 : tyI Try.prog 93 = some ⟨false, 1, [.nilFunc], 8⟩ := by kernel_rfl
theorem el93 : elemI Try.prog 93 = none := by kernel_rfl
theorem ty94 : tyI Try.prog 94 = some ⟨false, 1, [.nilFunc], 8⟩ := by kernel_rfl
theorem el94 : elemI Try.prog 94 = none := by kernel_rfl
theorem ty95 : tyI Try.prog 95 = some ⟨false, 1, [.nilFunc], 8⟩ := by kernel_rfl
theorem el95 : elemI Try.prog 95 = none := by kernel_rfl
theorem ty96 : tyI Try.prog 96 = some ⟨false, 1, [.nilFunc], 8⟩ := by kernel_rfl
theorem el96 : elemI Try.prog 96 = none := by kernel_rfl
theorem ty97 : tyI Try.prog 97 = some ⟨false, 1, [.nilFunc], 8⟩ := by kernel_rfl
theorem el97 : elemI Try.prog 97 = none := by kernel_rfl
theorem ty98 : tyI Try.prog 98 = some ⟨false, 1, [(.slice none 0 0)], 24⟩ := by kernel_rfl
theorem el98 : elemI Try.prog 98 = some 23 := by kernel_rfl
theorem ty99 : tyI Try.prog 99 = some ⟨true, 2, [(.int .u8 0), (.slice none 0 0)], 32⟩ := by kernel_rfl
theorem el99 : elemI Try.prog 99 = none := by kernel_rfl
theorem pl99 : placesI Try.prog 99 = some [(0, 1), (1, 1)] := by kernel_rfl
theorem fi99_0 : fieldI Try.prog 99 0 = some (0, 1, false) := by kernel_rfl
theorem fi99_1 : fieldI Try.prog 99 1 = some (1, 1, false) := by kernel_rfl
theorem ty100 : tyI Try.prog 100 = some ⟨true, 2, [(.int .u8 0), (.slice none 0 0)], 32⟩ := by kernel_rfl
theorem el100 : elemI Try.prog 100 = none := by kernel_rfl
theorem pl100 : placesI Try.prog 100 = some [(0, 1), (1, 1)] := by kernel_rfl
theorem fi100_0 : fieldI Try.prog 100 0 = some (0, 1, false) := by kernel_rfl
theorem fi100_1 : fieldI Try.prog 100 1 = some (1, 1, false) := by kernel_rfl
theorem ty101 : tyI Try.prog 101 = some ⟨true, 2, [(.int .i64 0), (.int .i64 0)], 16⟩ := by kernel_rfl
theorem el101 : elemI Try.prog 101 = none := by kernel_rfl
theorem eq101 : eqTy Try.prog 101 = some (.st [(0, 1, .it), (1, 1, .it)]) := by kernel_rfl
theorem pl101 : placesI Try.prog 101 = some [(0, 1), (1, 1)] := by kernel_rfl
theorem fi101_0 : fieldI Try.prog 101 0 = some (0, 1, false) := by kernel_rfl
theorem fi101_1 : fieldI Try.prog 101 1 = some (1, 1, false) := by kernel_rfl
theorem ty102 : tyI Try.prog 102 = some ⟨true, 2, [(.int .i64 0), (.int .i64 0)], 16⟩ := by kernel_rfl
theorem el102 : elemI Try.prog 102 = none := by kernel_rfl
theorem eq102 : eqTy Try.prog 102 = some (.st [(0, 1, .it), (1, 1, .it)]) := by kernel_rfl
theorem pl102 : placesI Try.prog 102 = some [(0, 1), (1, 1)] := by kernel_rfl
theorem fi102_0 : fieldI Try.prog 102 0 = some (0, 1, false) := by kernel_rfl
theorem fi102_1 : fieldI Try.prog 102 1 = some (1, 1, false) := by kernel_rfl
theorem ty103 : tyI Try.prog 103 = some ⟨true, 4, [(.int .i64 0), (.int .i64 0), (.int .i64 0), (.slice none 0 0)], 48⟩ := by kernel_rfl
theorem el103 : elemI Try.prog 103 = none := by kernel_rfl
theorem pl103 : placesI Try.prog 103 = some [(0, 2), (2, 1), (3, 1)] := by kernel_rfl
theorem fi103_0 : fieldI Try.prog 103 0 = some (0, 2, true) := by kernel_rfl
theorem fi103_1 : fieldI Try.prog 103 1 = some (2, 1, false) := by kernel_rfl
theorem fi103_2 : fieldI Try.prog 103 2 = some (3, 1, false) := by kernel_rfl
theorem ty104 : tyI Try.prog 104 = some ⟨true, 4, [(.int .i64 0), (.int .i64 0), (.int .i64 0), (.slice none 0 0)], 48⟩ := by kernel_rfl
theorem el104 : elemI Try.prog 104 = none := by kernel_rfl
theorem pl104 : placesI Try.prog 104 = some [(0, 2), (2, 1), (3, 1)] := by kernel_rfl
theorem fi104_0 : fieldI Try.prog 104 0 = some (0, 2, true) := by kernel_rfl
theorem fi104_1 : fieldI Try.prog 104 1 = some (2, 1, false) := by kernel_rfl
theorem fi104_2 : fieldI Try.prog 104 2 = some (3, 1, false) := by kernel_rfl
theorem ty105 : tyI Try.prog 105 = some ⟨false, 1, [.nilFunc], 8⟩ := by kernel_rfl
theorem el105 : elemI Try.prog 105 = none := by kernel_rfl
theorem ty106 : tyI Try.prog 106 = some ⟨false, 1, [(.slice none 0 0)], 24⟩ := by kernel_rfl
theorem el106 : elemI Try.prog 106 = some 108 := by kernel_rfl
theorem ty107 : tyI Try.prog 107 = some ⟨true, 3, [(.int .i64 0), (.int .i64 0), (.int .i64 0)], 24⟩ := by kernel_rfl
theorem el107 : elemI Try.prog 107 = none := by kernel_rfl
theorem eq107 : eqTy Try.prog 107 = some (.st [(0, 1, .it), (1, 2, (.st [(0, 1, .it), (1, 1, .it)]))]) := by kernel_rfl
theorem pl107 : placesI Try.prog 107 = some [(0, 1), (1, 2)] := by kernel_rfl
theorem fi107_0 : fieldI Try.prog 107 0 = some (0, 1, false) := by kernel_rfl
theorem fi107_1 : fieldI Try.prog 107 1 = some (1, 2, true) := by kernel_rfl
theorem ty108 : tyI Try.prog 108 = some ⟨true, 3, [(.int .i64 0), (.int .i64 0), (.int .i64 0)], 24⟩ := by kernel_rfl
theorem el108 : elemI Try.prog 108 = none := by kernel_rfl
theorem eq108 : eqTy Try.prog 108 = some (.st [(0, 1, .it), (1, 2, (.st [(0, 1, .it), (1, 1, .it)]))]) := by kernel_rfl
theorem pl108 : placesI Try.prog 108 = some [(0, 1), (1, 2)] := by kernel_rfl
theorem fi108_0 : fieldI Try.prog 108 0 = some (0, 1, false) := by kernel_rfl
theorem fi108_1 : fieldI Try.prog 108 1 = some (1, 2, true) := by kernel_rfl
theorem ty109 : tyI Try.prog 109 = some ⟨true, 5, [(.int .i64 0), (.int .i64 0), (.int .i64 0), (.int .i64 0), (.int .i64 0)], 40⟩ := by kernel_rfl
theorem el109 : elemI Try.prog 109 = none := by kernel_rfl
theorem eq109 : eqTy Try.prog 109 = some (.st [(0, 1, .it), (1, 1, .it), (2, 1, .it), (3, 1, .it), (4, 1, .it)]) := by kernel_rfl
theorem pl109 : placesI Try.prog 109 = some [(0, 1), (1, 1), (2, 1), (3, 1), (4, 1)] := by kernel_rfl
theorem fi109_0 : fieldI Try.prog 109 0 = some (0, 1, false) := by kernel_rfl
theorem fi109_1 : fieldI Try.prog 109 1 = some (1, 1, false) := by kernel_rfl
theorem fi109_2 : fieldI Try.prog 109 2 = some (2, 1, false) := by kernel_rfl
theorem fi109_3 : fieldI Try.prog 109 3 = some (3, 1, false) := by kernel_rfl
theorem fi109_4 : fieldI Try.prog 109 4 = some (4, 1, false) := by kernel_rfl
theorem ty110 : tyI Try.prog 110 = some ⟨true, 5, [(.int .i64 0), (.int .i64 0), (.int .i64 0), (.int .i64 0), (.int .i64 0)], 40⟩ := by kernel_rfl
theorem el110 : elemI Try.prog 110 = none := by kernel_rfl
theorem eq110 : eqTy Try.prog 110 = some (.st [(0, 1, .it), (1, 1, .it), (2, 1, .it), (3, 1, .it), (4, 1, .it)]) := by kernel_rfl
theorem pl110 : placesI Try.prog 110 = some [(0, 1), (1, 1), (2, 1), (3, 1), (4, 1)] := by kernel_rfl
theorem fi110_0 : fieldI Try.prog 110 0 = some (0, 1, false) := by kernel_rfl
theorem fi110_1 : fieldI Try.prog 110 1 = some (1, 1, false) := by kernel_rfl
theorem fi110_2 : fieldI Try.prog 110 2 = some (2, 1, false) := by kernel_rfl
theorem fi110_3 : fieldI Try.prog 110 3 = some (3, 1, false) := by kernel_rfl
theorem fi110_4 : fieldI Try.prog 110 4 = some (4, 1, false) := by kernel_rfl
theorem el111 : elemI Try.prog 111 = none := by kernel_rfl
theorem ty112 : tyI Try.prog 112 = some ⟨false, 1, [.nilFunc], 8⟩ := by kernel_rfl
theorem el112 : elemI Try.prog 112 = none := by kernel_rfl
theorem ty113 : tyI Try.prog 113 = some ⟨false, 1, [.nilFunc], 8⟩ := by kernel_rfl
theorem el113 : elemI Try.prog 113 = none := by kernel_rfl
theorem ty114 : tyI Try.prog 114 = some ⟨false, 1, [(.map none)], 8⟩ := by kernel_rfl
theorem el114 : elemI Try.prog 114 = none := by kernel_rfl
theorem mp114 : mapI Try.prog 114 = some ((.c (.v (.bool false))), (.int .i64)) := by kernel_rfl
theorem ty115 : tyI Try.prog 115 = some ⟨false, 1, [.nilFunc], 8⟩ := by kernel_rfl
theorem el115 : elemI Try.prog 115 = none := by kernel_rfl
theorem el116 : elemI Try.prog 116 = none := by kernel_rfl
theorem ty117 : tyI Try.prog 117 = some ⟨false, 1, [.nilFunc], 8⟩ := by kernel_rfl
theorem el117 : elemI Try.prog 117 = none := by kernel_rfl
theorem ty118 : tyI Try.prog 118 = some ⟨false, 1, [.nilFunc], 8⟩ := by kernel_rfl
theorem el118 : elemI Try.prog 118 = none := by kernel_rfl
theorem ty119 : tyI Try.prog 119 = some ⟨false, 1, [.nilFunc], 8⟩ := by kernel_rfl
theorem el119 : elemI Try.prog 119 = none := by kernel_rfl
theorem ty120 : tyI Try.prog 120 = some ⟨false, 1, [.nilFunc], 8⟩ := by kernel_rfl
theorem el120 : elemI Try.prog 120 = none := by kernel_rfl
theorem ty121 : tyI Try.prog 121 = some ⟨false, 1, [.nilFunc], 8⟩ := by kernel_rfl
theorem el121 : elemI Try.prog 121 = none := by kernel_rfl
theorem ty122 : tyI Try.prog 122 = some ⟨true, 13, [(.int .i64 0), (.int .i64 0), (.int .i64 0), (.int .i64 0), (.int .i64 0), (.int .i64 0), (.int .i64 0), (.int .i64 0), (.int .i64 0), (.int .i64 0), (.int .i64 0), (.int .i64 0), (.int .i64 0)], 104⟩ := by kernel_rfl
theorem el122 : elemI Try.prog 122 = none := by kernel_rfl
theorem eq122 : eqTy Try.prog 122 = some (.st [(0, 6, (.st [(0, 1, .it), (1, 1, .it), (2, 1, .it), (3, 1, .it), (4, 1, .it), (5, 1, .it)])), (6, 7, (.st [(0, 1, .it), (1, 1, .it), (2, 1, .it), (3, 2, (.st [(0, 1, .it), (1, 1, .it)])), (5, 2, (.st [(0, 1, .it), (1, 1, .it)]))]))]) := by kernel_rfl
theorem pl122 : placesI Try.prog 122 = some [(0, 6), (6, 7)] := by kernel_rfl
theorem fi122_0 : fieldI Try.prog 122 0 = some (0, 6, true) := by kernel_rfl
theorem fi122_1 : fieldI Try.prog 122 1 = some (6, 7, true) := by kernel_rfl
theorem ty123 : tyI Try.prog 123 = some ⟨true, 13, [(.int .i64 0), (.int .i64 0), (.int .i64 0), (.int .i64 0), (.int .i64 0), (.int .i64 0), (.int .i64 0), (.int .i64 0), (.int .i64 0), (.int .i64 0), (.int .i64 0), (.int .i64 0), (.int .i64 0)], 104⟩ := by kernel_rfl
theorem el123 : elemI Try.prog 123 = none := by kernel_rfl
theorem eq123 : eqTy Try.prog 123 = some (.st [(0, 6, (.st [(0, 1, .it), (1, 1, .it), (2, 1, .it), (3, 1, .it), (4, 1, .it), (5, 1, .it)])), (6, 7, (.st [(0, 1, .it), (1, 1, .it), (2, 1, .it), (3, 2, (.st [(0, 1, .it), (1, 1, .it)])), (5, 2, (.st [(0, 1, .it), (1, 1, .it)]))]))]) := by kernel_rfl
theorem pl123 : placesI Try.prog 123 = some [(0, 6), (6, 7)] := by kernel_rfl
theorem fi123_0 : fieldI Try.prog 123 0 = some (0, 6, true) := by kernel_rfl
theorem fi123_1 : fieldI Try.prog 123 1 = some (6, 7, true) := by kernel_rfl
theorem ty124 : tyI Try.prog 124 = some ⟨false, 1, [(.pointer none)], 8⟩ := by kernel_rfl
theorem el124 : elemI Try.prog 124 = none := by kernel_rfl
theorem ty125 : tyI Try.prog 125 = some ⟨false, 1, [.nilFunc], 8⟩ := by kernel_rfl
theorem el125 : elemI Try.prog 125 = none := by kernel_rfl
theorem ty126 : tyI Try.prog 126 = some ⟨false, 1, [.nilFunc], 8⟩ := by kernel_rfl
theorem el126 : elemI Try.prog 126 = none := by kernel_rfl
theorem ty127 : tyI Try.prog 127 = some ⟨true, 2, [(.int .i64 0), (.int .i64 0)], 16⟩ := by kernel_rfl
theorem el127 : elemI Try.prog 127 = none := by kernel_rfl
theorem ar127 : arrI Try.prog 127 = some (2, 3) := by kernel_rfl
theorem pl127 : placesI Try.prog 127 = some [(0, 1), (1, 1)] := by kernel_rfl
theorem ty128 : tyI Try.prog 128 = some ⟨true, 2, [(.int .i64 0), (.int .i64 0)], 16⟩ := by kernel_rfl
theorem el128 : elemI Try.prog 128 = none := by kernel_rfl
theorem ar128 : arrI Try.prog 128 = some (2, 3) := by kernel_rfl
theorem pl128 : placesI Try.prog 128 = some [(0, 1), (1, 1)] := by kernel_rfl
theorem ty129 : tyI Try.prog 129 = some ⟨false, 1, [.nilFunc], 8⟩ := by kernel_rfl
theorem el129 : elemI Try.prog 129 = none := by kernel_rfl
theorem el130 : elemI Try.prog 130 = none := by kernel_rfl
theorem ty131 : tyI Try.prog 131 = some ⟨false, 1, [.nilFunc], 8⟩ := by kernel_rfl
theorem el131 : elemI Try.prog 131 = none := by kernel_rfl
theorem ty132 : tyI Try.prog 132 = some ⟨false, 1, [.nilFunc], 8⟩ := by kernel_rfl
theorem el132 : elemI Try.prog 132 = none := by kernel_rfl
theorem ty133 : tyI Try.prog 133 = some ⟨false, 1, [.nilFunc], 8⟩ := by kernel_rfl
theorem el133 : elemI Try.prog 133 = none := by kernel_rfl
theorem ty134 : tyI Try.prog 134 = some ⟨true, 6, [(.int .i64 0), (.int .i64 0), (.int .i64 0), (.int .i64 0), (.int .i64 0), (.int .i64 0)], 48⟩ := by kernel_rfl
theorem el134 : elemI Try.prog 134 = none := by kernel_rfl
theorem eq134 : eqTy Try.prog 134 = some (.st [(0, 2, (.st [(0, 1, .it), (1, 1, .it)])), (2, 2, (.st [(0, 1, .it), (1, 1, .it)])), (4, 1, .it), (5, 1, .it)]) := by kernel_rfl
theorem pl134 : placesI Try.prog 134 = some [(0, 2), (2, 2), (4, 1), (5, 1)] := by kernel_rfl
theorem fi134_0 : fieldI Try.prog 134 0 = some (0, 2, true) := by kernel_rfl
theorem fi134_1 : fieldI Try.prog 134 1 = some (2, 2, true) := by kernel_rfl
theorem fi134_2 : fieldI Try.prog 134 2 = some (4, 1, false) := by kernel_rfl
theorem fi134_3 : fieldI Try.prog 134 3 = some (5, 1, false) := by kernel_rfl
theorem ty135 : tyI Try.prog 135 = some ⟨true, 6, [(.int .i64 0), (.int .i64 0), (.int .i64 0), (.int .i64 0), (.int .i64 0), (.int .i64 0)], 48⟩ := by kernel_rfl
theorem el135 : elemI Try.prog 135 = none := by kernel_rfl
theorem eq135 : eqTy Try.prog 135 = some (.st [(0, 2, (.st [(0, 1, .it), (1, 1, .it)])), (2, 2, (.st [(0, 1, .it), (1, 1, .it)])), (4, 1, .it), (5, 1, .it)]) := by kernel_rfl
theorem pl135 : placesI Try.prog 135 = some [(0, 2), (2, 2), (4, 1), (5, 1)] := by kernel_rfl
theorem fi135_0 : fieldI Try.prog 135 0 = some (0, 2, true) := by kernel_rfl
theorem fi135_1 : fieldI Try.prog 135 1 = some (2, 2, true) := by kernel_rfl
theorem fi135_2 : fieldI Try.prog 135 2 = some (4, 1, false) := by kernel_rfl
theorem fi135_3 : fieldI Try.prog 135 3 = some (5, 1, false) := by kernel_rfl
theorem ty136 : tyI Try.prog 136 = some ⟨false, 1, [.nilFunc], 8⟩ := by kernel_rfl
theorem el136 : elemI Try.prog 136 = none := by kernel_rfl
theorem ty137 : tyI Try.prog 137 = some ⟨false, 1, [.nilFunc], 8⟩ := by kernel_rfl
theorem el137 : elemI Try.prog 137 = none := by kernel_rfl
theorem ty138 : tyI Try.prog 138 = some ⟨false, 1, [.nilFunc], 8⟩ := by kernel_rfl
theorem el138 : elemI Try.prog 138 = none := by kernel_rfl
theorem ty139 : tyI Try.prog 139 = some ⟨false, 1, [.nilFunc], 8⟩ := by kernel_rfl
theorem el139 : elemI Try.prog 139 = none := by kernel_rfl
theorem ty140 : tyI Try.prog 140 = some ⟨false, 1, [.nilFunc], 8⟩ := by kernel_rfl
theorem el140 : elemI Try.prog 140 = none := by kernel_rfl
theorem ty141 : tyI Try.prog 141 = some ⟨true, 2, [(.slice none 0 0), (.int .i64 0)], 32⟩ := by kernel_rfl
theorem el141 : elemI Try.prog 141 = none := by kernel_rfl
theorem pl141 : placesI Try.prog 141 = some [(0, 1), (1, 1)] := by kernel_rfl
theorem fi141_0 : fieldI Try.prog 141 0 = some (0, 1, false) := by kernel_rfl
theorem fi141_1 : fieldI Try.prog 141 1 = some (1, 1, false) := by kernel_rfl
theorem ty142 : tyI Try.prog 142 = some ⟨true, 2, [(.slice none 0 0), (.int .i64 0)], 32⟩ := by kernel_rfl
theorem el142 : elemI Try.prog 142 = none := by kernel_rfl
theorem pl142 : placesI Try.prog 142 = some [(0, 1), (1, 1)] := by kernel_rfl
theorem fi142_0 : fieldI Try.prog 142 0 = some (0, 1, false) := by kernel_rfl
theorem fi142_1 : fieldI Try.prog 142 1 = some (1, 1, false) := by kernel_rfl
theorem el143 : elemI Try.prog 143 = none := by kernel_rfl
theorem ty144 : tyI Try.prog 144 = some ⟨false, 1, [.nilFunc], 8⟩ := by kernel_rfl
theorem el144 : elemI Try.prog 144 = none := by kernel_rfl
theorem el145 : elemI Try.prog 145 = none := by kernel_rfl
theorem ty146 : tyI Try.prog 146 = some ⟨false, 1, [.nilFunc], 8⟩ := by kernel_rfl
theorem el146 : elemI Try.prog 146 = none := by kernel_rfl
theorem ty147 : tyI Try.prog 147 = some ⟨false, 1, [.nilFunc], 8⟩ := by kernel_rfl
theorem el147 : elemI Try.prog 147 = none := by kernel_rfl
theorem ty148 : tyI Try.prog 148 = some ⟨false, 1, [.nilFunc], 8⟩ := by kernel_rfl
theorem el148 : elemI Try.prog 148 = none := by kernel_rfl
theorem ty149 : tyI Try.prog 149 = some ⟨true, 3, [(.int .i64 0), (.int .i64 0), (.int .i64 0)], 24⟩ := by kernel_rfl
theorem el149 : elemI Try.prog 149 = none := by kernel_rfl
theorem eq149 : eqTy Try.prog 149 = some (.st [(0, 3, (.st [(0, 1, .it), (1, 1, .it), (2, 1, .it)]))]) := by kernel_rfl
theorem pl149 : placesI Try.prog 149 = some [(0, 3)] := by kernel_rfl
theorem fi149_0 : fieldI Try.prog 149 0 = some (0, 3, true) := by kernel_rfl
theorem ty150 : tyI Try.prog 150 = some ⟨true, 3, [(.int .i64 0), (.int .i64 0), (.int .i64 0)], 24⟩ := by kernel_rfl
theorem el150 : elemI Try.prog 150 = none := by kernel_rfl
theorem eq150 : eqTy Try.prog 150 = some (.st [(0, 3, (.st [(0, 1, .it), (1, 1, .it), (2, 1, .it)]))]) := by kernel_rfl
theorem pl150 : placesI Try.prog 150 = some [(0, 3)] := by kernel_rfl
theorem fi150_0 : fieldI Try.prog 150 0 = some (0, 3, true) := by kernel_rfl
theorem ty151 : tyI Try.prog 151 = some ⟨false, 1, [.nilFunc], 8⟩ := by kernel_rfl
theorem el151 : elemI Try.prog 151 = none := by kernel_rfl
theorem ty152 : tyI Try.prog 152 = some ⟨false, 1, [.nilFunc], 8⟩ := by kernel_rfl
theorem el152 : elemI Try.prog 152 = none := by kernel_rfl
theorem ty153 : tyI Try.prog 153 = some ⟨false, 1, [.nilFunc], 8⟩ := by kernel_rfl
theorem el153 : elemI Try.prog 153 = none := by kernel_rfl
theorem ty154 : tyI Try.prog 154 = some ⟨false, 1, [.nilFunc], 8⟩ := by kernel_rfl
theorem el154 : elemI Try.prog 154 = none := by kernel_rfl
theorem ty155 : tyI Try.prog 155 = some ⟨true, 2, [(.int .i64 0), (.slice none 0 0)], 32⟩ := by kernel_rfl
theorem el155 : elemI Try.prog 155 = none := by kernel_rfl
theorem pl155 : placesI Try.prog 155 = some [(0, 1), (1, 1)] := by kernel_rfl
theorem fi155_0 : fieldI Try.prog 155 0 = some (0, 1, false) := by kernel_rfl
theorem fi155_1 : fieldI Try.prog 155 1 = some (1, 1, false) := by kernel_rfl
theorem ty156 : tyI Try.prog 156 = some ⟨true, 2, [(.int .i64 0), (.slice none 0 0)], 32⟩ := by kernel_rfl
theorem el156 : elemI Try.prog 156 = none := by kernel_rfl
theorem pl156 : placesI Try.prog 156 = some [(0, 1), (1, 1)] := by kernel_rfl
theorem fi156_0 : fieldI Try.prog 156 0 = some (0, 1, false) := by kernel_rfl
theorem fi156_1 : fieldI Try.prog 156 1 = some (1, 1, false) := by kernel_rfl
theorem ty157 : tyI Try.prog 157 = some ⟨false, 1, [.nilFunc], 8⟩ := by kernel_rfl
theorem el157 : elemI Try.prog 157 = none := by kernel_rfl
theorem ty158 : tyI Try.prog 158 = some ⟨false, 1, [(.int .i64 0)], 8⟩ := by kernel_rfl
theorem el158 : elemI Try.prog 158 = none := by kernel_rfl
theorem it158 : intI Try.prog 158 = some .i64 := by kernel_rfl
theorem ty159 : tyI Try.prog 159 = some ⟨true, 3, [(.int .i64 0), (.int .i64 0), (.int .i64 0)], 24⟩ := by kernel_rfl
theorem el159 : elemI Try.prog 159 = none := by kernel_rfl
theorem eq159 : eqTy Try.prog 159 = some (.st [(0, 1, .it), (1, 1, .it), (2, 1, .it)]) := by kernel_rfl
theorem pl159 : placesI Try.prog 159 = some [(0, 1), (1, 1), (2, 1)] := by kernel_rfl
theorem fi159_0 : fieldI Try.prog 159 0 = some (0, 1, false) := by kernel_rfl
theorem fi159_1 : fieldI Try.prog 159 1 = some (1, 1, false) := by kernel_rfl
theorem fi159_2 : fieldI Try.prog 159 2 = some (2, 1, false) := by kernel_rfl
theorem ty160 : tyI Try.prog 160 = some ⟨true, 3, [(.int .i64 0), (.int .i64 0), (.int .i64 0)], 24⟩ := by kernel_rfl
theorem el160 : elemI Try.prog 160 = none := by kernel_rfl
theorem eq160 : eqTy Try.prog 160 = some (.st [(0, 1, .it), (1, 1, .it), (2, 1, .it)]) := by kernel_rfl
theorem pl160 : placesI Try.prog 160 = some [(0, 1), (1, 1), (2, 1)] := by kernel_rfl
theorem fi160_0 : fieldI Try.prog 160 0 = some (0, 1, false) := by kernel_rfl
theorem fi160_1 : fieldI Try.prog 160 1 = some (1, 1, false) := by kernel_rfl
theorem fi160_2 : fieldI Try.prog 160 2 = some (2, 1, false) := by kernel_rfl
theorem ty161 : tyI Try.prog 161 = some ⟨false, 1, [(.slice none 0 0)], 24⟩ := by kernel_rfl
theorem el161 : elemI Try.prog 161 = some 160 := by kernel_rfl
theorem ty162 : tyI Try.prog 162 = some ⟨true, 2, [(.int .i64 0), (.int .i64 0)], 16⟩ := by kernel_rfl
theorem el162 : elemI Try.prog 162 = none := by kernel_rfl
theorem eq162 : eqTy Try.prog 162 = some (.st [(0, 1, .it), (1, 1, .it)]) := by kernel_rfl
theorem pl162 : placesI Try.prog 162 = some [(0, 1), (1, 1)] := by kernel_rfl
theorem fi162_0 : fieldI Try.prog 162 0 = some (0, 1, false) := by kernel_rfl
theorem fi162_1 : fieldI Try.prog 162 1 = some (1, 1, false) := by kernel_rfl
theorem ty163 : tyI Try.prog 163 = some ⟨true, 2, [(.int .i64 0), (.int .i64 0)], 16⟩ := by kernel_rfl
theorem el163 : elemI Try.prog 163 = none := by kernel_rfl
theorem eq163 : eqTy Try.prog 163 = some (.st [(0, 1, .it), (1, 1, .it)]) := by kernel_rfl
theorem pl163 : placesI Try.prog 163 = some [(0, 1), (1, 1)] := by kernel_rfl
theorem fi163_0 : fieldI Try.prog 163 0 = some (0, 1, false) := by kernel_rfl
theorem fi163_1 : fieldI Try.prog 163 1 = some (1, 1, false) := by kernel_rfl
theorem ty164 : tyI Try.prog 164 = some ⟨false, 1, [.nilFunc], 8⟩ := by kernel_rfl
theorem el164 : elemI Try.prog 164 = none := by kernel_rfl
theorem ty165 : tyI Try.prog 165 = some ⟨true, 11, [(.int .i64 0), (.int .i64 0), (.int .i64 0), (.int .i64 0), (.int .i64 0), (.int .i64 0), (.int .i64 0), (.int .i64 0), (.int .i64 0), (.int .i64 0), (.slice none 0 0)], 104⟩ := by kernel_rfl
theorem el165 : elemI Try.prog 165 = none := by kernel_rfl
theorem pl165 : placesI Try.prog 165 = some [(0, 11)] := by kernel_rfl
theorem fi165_0 : fieldI Try.prog 165 0 = some (0, 11, true) := by kernel_rfl
theorem ty166 : tyI Try.prog 166 = some ⟨true, 11, [(.int .i64 0), (.int .i64 0), (.int .i64 0), (.int .i64 0), (.int .i64 0), (.int .i64 0), (.int .i64 0), (.int .i64 0), (.int .i64 0), (.int .i64 0), (.slice none 0 0)], 104⟩ := by kernel_rfl
theorem el166 : elemI Try.prog 166 = none := by kernel_rfl
theorem pl166 : placesI Try.prog 166 = some [(0, 11)] := by kernel_rfl
theorem fi166_0 : fieldI Try.prog 166 0 = some (0, 11, true) := by kernel_rfl
theorem el167 : elemI Try.prog 167 = none := by kernel_rfl
theorem ty168 : tyI Try.prog 168 = some ⟨false, 1, [.nilFunc], 8⟩ := by kernel_rfl
theorem el168 : elemI Try.prog 168 = none := by kernel_rfl
theorem ty169 : tyI Try.prog 169 = some ⟨false, 1, [.nilFunc], 8⟩ := by kernel_rfl
theorem el169 : elemI Try.prog 169 = none := by kernel_rfl
theorem ty170 : tyI Try.prog 170 = some ⟨true, 3, [(.int .i64 0), (.int .i64 0), (.int .i64 0)], 24⟩ := by kernel_rfl
theorem el170 : elemI Try.prog 170 = none := by kernel_rfl
theorem eq170 : eqTy Try.prog 170 = some (.st [(0, 2, (.st [(0, 1, .it), (1, 1, .it)])), (2, 1, .it)]) := by kernel_rfl
theorem pl170 : placesI Try.prog 170 = some [(0, 2), (2, 1)] := by kernel_rfl
theorem fi170_0 : fieldI Try.prog 170 0 = some (0, 2, true) := by kernel_rfl
theorem fi170_1 : fieldI Try.prog 170 1 = some (2, 1, false) := by kernel_rfl
theorem ty171 : tyI Try.prog 171 = some ⟨true, 3, [(.int .i64 0), (.int .i64 0), (.int .i64 0)], 24⟩ := by kernel_rfl
theorem el171 : elemI Try.prog 171 = none := by kernel_rfl
theorem eq171 : eqTy Try.prog 171 = some (.st [(0, 2, (.st [(0, 1, .it), (1, 1, .it)])), (2, 1, .it)]) := by kernel_rfl
theorem pl171 : placesI Try.prog 171 = some [(0, 2), (2, 1)] := by kernel_rfl
theorem fi171_0 : fieldI Try.prog 171 0 = some (0, 2, true) := by kernel_rfl
theorem fi171_1 : fieldI Try.prog 171 1 = some (2, 1, false) := by kernel_rfl
theorem ty172 : tyI Try.prog 172 = some ⟨false, 1, [.nilFunc], 8⟩ := by kernel_rfl
theorem el172 : elemI Try.prog 172 = none := by kernel_rfl
theorem ty173 : tyI Try.prog 173 = some ⟨false, 1, [.nilFunc], 8⟩ := by kernel_rfl
theorem el173 : elemI Try.prog 173 = none := by kernel_rfl
theorem ty174 : tyI Try.prog 174 = some ⟨true, 2, [(.int .i64 0), (.int .i64 0)], 16⟩ := by kernel_rfl
theorem el174 : elemI Try.prog 174 = none := by kernel_rfl
theorem eq174 : eqTy Try.prog 174 = some (.st [(0, 2, (.st [(0, 1, .it), (1, 1, .it)]))]) := by kernel_rfl
theorem pl174 : placesI Try.prog 174 = some [(0, 2)] := by kernel_rfl
theorem fi174_0 : fieldI Try.prog 174 0 = some (0, 2, true) := by kernel_rfl
theorem ty175 : tyI Try.prog 175 = some ⟨true, 2, [(.int .i64 0), (.int .i64 0)], 16⟩ := by kernel_rfl
theorem el175 : elemI Try.prog 175 = none := by kernel_rfl
theorem eq175 : eqTy Try.prog 175 = some (.st [(0, 2, (.st [(0, 1, .it), (1, 1, .it)]))]) := by kernel_rfl
theorem pl175 : placesI Try.prog 175 = some [(0, 2)] := by kernel_rfl
theorem fi175_0 : fieldI Try.prog 175 0 = some (0, 2, true) := by kernel_rfl
theorem ty176 : tyI Try.prog 176 = some ⟨false, 1, [.nilFunc], 8⟩ := by kernel_rfl
theorem el176 : elemI Try.prog 176 = none := by kernel_rfl
theorem ty177 : tyI Try.prog 177 = some ⟨false, 1, [.nilFunc], 8⟩ := by kernel_rfl
theorem el177 : elemI Try.prog 177 = none := by kernel_rfl
theorem ty178 : tyI Try.prog 178 = some ⟨false, 1, [.nilFunc], 8⟩ := by kernel_rfl
theorem el178 : elemI Try.prog 178 = none := by kernel_rfl
theorem ty179 : tyI Try.prog 179 = some ⟨false, 1, [.nilFunc], 8⟩ := by kernel_rfl
theorem el179 : elemI Try.prog 179 = none := by kernel_rfl
theorem ty180 : tyI Try.prog 180 = some ⟨false, 1, [.nilFunc], 8⟩ := by kernel_rfl
theorem el180 : elemI Try.prog 180 = none := by kernel_rfl
theorem ty181 : tyI Try.prog 181 = some ⟨false, 1, [.nilFunc], 8⟩ := by kernel_rfl
theorem el181 : elemI Try.prog 181 = none := by kernel_rfl
theorem ty182 : tyI Try.prog 182 = some ⟨false, 1, [.nilFunc], 8⟩ := by kernel_rfl
theorem el182 : elemI Try.prog 182 = none := by kernel_rfl
theorem ty183 : tyI Try.prog 183 = some ⟨false, 1, [.nilFunc], 8⟩ := by kernel_rfl
theorem el183 : elemI Try.prog 183 = none := by kernel_rfl
theorem ty184 : tyI Try.prog 184 = some ⟨false, 1, [.nilFunc], 8⟩ := by kernel_rfl
theorem el184 : elemI Try.prog 184 = none := by kernel_rfl
theorem ty185 : tyI Try.prog 185 = some ⟨false, 1, [.nilFunc], 8⟩ := by kernel_rfl
theorem el185 : elemI Try.prog 185 = none := by kernel_rfl
theorem ty186 : tyI Try.prog 186 = some ⟨true, 6, [(.int .i64 0), (.int .i64 0), (.int .i64 0), (.int .i64 0), (.int .i64 0), (.slice none 0 0)], 64⟩ := by kernel_rfl
theorem el186 : elemI Try.prog 186 = none := by kernel_rfl
theorem pl186 : placesI Try.prog 186 = some [(0, 5), (5, 1)] := by kernel_rfl
theorem fi186_0 : fieldI Try.prog 186 0 = some (0, 5, true) := by kernel_rfl
theorem fi186_1 : fieldI Try.prog 186 1 = some (5, 1, false) := by kernel_rfl
theorem ty187 : tyI Try.prog 187 = some ⟨true, 6, [(.int .i64 0), (.int .i64 0), (.int .i64 0), (.int .i64 0), (.int .i64 0), (.slice none 0 0)], 64⟩ := by kernel_rfl
theorem el187 : elemI Try.prog 187 = none := by kernel_rfl
theorem pl187 : placesI Try.prog 187 = some [(0, 5), (5, 1)] := by kernel_rfl
theorem fi187_0 : fieldI Try.prog 187 0 = some (0, 5, true) := by kernel_rfl
theorem fi187_1 : fieldI Try.prog 187 1 = some (5, 1, false) := by kernel_rfl
theorem ty188 : tyI Try.prog 188 = some ⟨false, 1, [.nilFunc], 8⟩ := by kernel_rfl
theorem el188 : elemI Try.prog 188 = none := by kernel_rfl
theorem ty189 : tyI Try.prog 189 = some ⟨false, 1, [.nilFunc], 8⟩ := by kernel_rfl
theorem el189 : elemI Try.prog 189 = none := by kernel_rfl
theorem ty190 : tyI Try.prog 190 = some ⟨true, 3, [(.int .i64 0), (.int .i64 0), (.int .i64 0)], 24⟩ := by kernel_rfl
theorem el190 : elemI Try.prog 190 = none := by kernel_rfl
theorem eq190 : eqTy Try.prog 190 = some (.st [(0, 1, .it), (1, 2, (.st [(0, 1, .it), (1, 1, .it)]))]) := by kernel_rfl
theorem pl190 : placesI Try.prog 190 = some [(0, 1), (1, 2)] := by kernel_rfl
theorem fi190_0 : fieldI Try.prog 190 0 = some (0, 1, false) := by kernel_rfl
theorem fi190_1 : fieldI Try.prog 190 1 = some (1, 2, true) := by kernel_rfl
theorem ty191 : tyI Try.prog 191 = some ⟨true, 3, [(.int .i64 0), (.int .i64 0), (.int .i64 0)], 24⟩ := by kernel_rfl
theorem el191 : elemI Try.prog 191 = none := by kernel_rfl
theorem eq191 : eqTy Try.prog 191 = some (.st [(0, 1, .it), (1, 2, (.st [(0, 1, .it), (1, 1, .it)]))]) := by kernel_rfl
theorem pl191 : placesI Try.prog 191 = some [(0, 1), (1, 2)] := by kernel_rfl
theorem fi191_0 : fieldI Try.prog 191 0 = some (0, 1, false) := by kernel_rfl
theorem fi191_1 : fieldI Try.prog 191 1 = some (1, 2, true) := by kernel_rfl
theorem ty192 : tyI Try.prog 192 = some ⟨false, 1, [(.slice none 0 0)], 24⟩ := by kernel_rfl
theorem el192 : elemI Try.prog 192 = some 191 := by kernel_rfl
theorem el193 : elemI Try.prog 193 = none := by kernel_rfl
theorem ty194 : tyI Try.prog 194 = some ⟨false, 1, [.nilFunc], 8⟩ := by kernel_rfl
theorem el194 : elemI Try.prog 194 = none := by kernel_rfl
theorem ty195 : tyI Try.prog 195 = some ⟨false, 1, [.nilFunc], 8⟩ := by kernel_rfl
theorem el195 : elemI Try.prog 195 = none := by kernel_rfl
theorem ty196 : tyI Try.prog 196 = some ⟨false, 1, [.nilFunc], 8⟩ := by kernel_rfl
theorem el196 : elemI Try.prog 196 = none := by kernel_rfl
theorem ty197 : tyI Try.prog 197 = some ⟨true, 4, [(.int .i64 0), (.int .i64 0), (.int .i64 0), (.slice none 0 0)], 48⟩ := by kernel_rfl
theorem el197 : elemI Try.prog 197 = none := by kernel_rfl
theorem pl197 : placesI Try.prog 197 = some [(0, 4)] := by kernel_rfl
theorem fi197_0 : fieldI Try.prog 197 0 = some (0, 4, true) := by kernel_rfl
theorem ty198 : tyI Try.prog 198 = some ⟨true, 4, [(.int .i64 0), (.int .i64 0), (.int .i64 0), (.slice none 0 0)], 48⟩ := by kernel_rfl
theorem el198 : elemI Try.prog 198 = none := by kernel_rfl
theorem pl198 : placesI Try.prog 198 = some [(0, 4)] := by kernel_rfl
theorem fi198_0 : fieldI Try.prog 198 0 = some (0, 4, true) := by kernel_rfl
theorem ty199 : tyI Try.prog 199 = some ⟨false, 1, [.nilFunc], 8⟩ := by kernel_rfl
theorem el199 : elemI Try.prog 199 = none := by kernel_rfl
theorem ty200 : tyI Try.prog 200 = some ⟨false, 1, [.nilFunc], 8⟩ := by kernel_rfl
theorem el200 : elemI Try.prog 200 = none := by kernel_rfl
theorem ty201 : tyI Try.prog 201 = some ⟨false, 1, [.nilFunc], 8⟩ := by kernel_rfl
theorem el201 : elemI Try.prog 201 = none := by kernel_rfl
theorem ty202 : tyI Try.prog 202 = some ⟨false, 1, [(.map none)], 8⟩ := by kernel_rfl
theorem el202 : elemI Try.prog 202 = none := by kernel_rfl
theorem mp202 : mapI Try.prog 202 = some ((.agg [.c (.v (.int .i64 0)), .c (.v (.int .i64 0)), .c (.v (.int .i64 0))]), (.arr .i64 2)) := by kernel_rfl
theorem ty203 : tyI Try.prog 203 = some ⟨true, 2, [(.slice none 0 0), (.slice none 0 0)], 48⟩ := by kernel_rfl
theorem el203 : elemI Try.prog 203 = none := by kernel_rfl
theorem ar203 : arrI Try.prog 203 = some (2, 61) := by kernel_rfl
theorem pl203 : placesI Try.prog 203 = some [(0, 1), (1, 1)] := by kernel_rfl
theorem ty204 : tyI Try.prog 204 = some ⟨true, 16, [(.int .i64 0), (.int .i64 0), (.int .i64 0), (.int .i64 0), (.int .i64 0), (.int .i64 0), (.int .i64 0), (.int .i64 0), (.int .i64 0), (.int .i64 0), (.int .i64 0), (.int .i64 0), (.int .i64 0), (.slice none 0 0), (.slice none 0 0), (.map none)], 160⟩ := by kernel_rfl
theorem el204 : elemI Try.prog 204 = none := by kernel_rfl
theorem pl204 : placesI Try.prog 204 = some [(0, 13), (13, 2), (15, 1)] := by kernel_rfl
theorem fi204_0 : fieldI Try.prog 204 0 = some (0, 13, true) := by kernel_rfl
theorem fi204_1 : fieldI Try.prog 204 1 = some (13, 2, true) := by kernel_rfl
theorem fi204_2 : fieldI Try.prog 204 2 = some (15, 1, false) := by kernel_rfl
theorem ty205 : tyI Try.prog 205 = some ⟨true, 16, [(.int .i64 0), (.int .i64 0), (.int .i64 0), (.int .i64 0), (.int .i64 0), (.int .i64 0), (.int .i64 0), (.int .i64 0), (.int .i64 0), (.int .i64 0), (.int .i64 0), (.int .i64 0), (.int .i64 0), (.slice none 0 0), (.slice none 0 0), (.map none)], 160⟩ := by kernel_rfl
theorem el205 : elemI Try.prog 205 = none := by kernel_rfl
theorem pl205 : placesI Try.prog 205 = some [(0, 13), (13, 2), (15, 1)] := by kernel_rfl
theorem fi205_0 : fieldI Try.prog 205 0 = some (0, 13, true) := by kernel_rfl
theorem fi205_1 : fieldI Try.prog 205 1 = some (13, 2, true) := by kernel_rfl
theorem fi205_2 : fieldI Try.prog 205 2 = some (15, 1, false) := by kernel_rfl
theorem ty206 : tyI Try.prog 206 = some ⟨false, 1, [.nilFunc], 8⟩ := by kernel_rfl
theorem el206 : elemI Try.prog 206 = none := by kernel_rfl
theorem ty207 : tyI Try.prog 207 = some ⟨true, 2, [(.int .i64 0), (.int .i64 0)], 16⟩ := by kernel_rfl
theorem el207 : elemI Try.prog 207 = none := by kernel_rfl
theorem eq207 : eqTy Try.prog 207 = some (.st [(0, 1, .it), (1, 1, .it)]) := by kernel_rfl
theorem pl207 : placesI Try.prog 207 = some [(0, 1), (1, 1)] := by kernel_rfl
theorem fi207_0 : fieldI Try.prog 207 0 = some (0, 1, false) := by kernel_rfl
theorem fi207_1 : fieldI Try.prog 207 1 = some (1, 1, false) := by kernel_rfl
theorem ty208 : tyI Try.prog 208 = some ⟨true, 2, [(.int .i64 0), (.int .i64 0)], 16⟩ := by kernel_rfl
theorem el208 : elemI Try.prog 208 = none := by kernel_rfl
theorem eq208 : eqTy Try.prog 208 = some (.st [(0, 1, .it), (1, 1, .it)]) := by kernel_rfl
theorem pl208 : placesI Try.prog 208 = some [(0, 1), (1, 1)] := by kernel_rfl
theorem fi208_0 : fieldI Try.prog 208 0 = some (0, 1, false) := by kernel_rfl
theorem fi208_1 : fieldI Try.prog 208 1 = some (1, 1, false) := by kernel_rfl
theorem ty209 : tyI Try.prog 209 = some ⟨true, 3, [(.int .i64 0), (.int .i64 0), (.int .i64 0)], 24⟩ := by kernel_rfl
theorem el209 : elemI Try.prog 209 = none := by kernel_rfl
theorem eq209 : eqTy Try.prog 209 = some (.st [(0, 1, .it), (1, 2, (.st [(0, 1, .it), (1, 1, .it)]))]) := by kernel_rfl
theorem pl209 : placesI Try.prog 209 = some [(0, 1), (1, 2)] := by kernel_rfl
theorem fi209_0 : fieldI Try.prog 209 0 = some (0, 1, false) := by kernel_rfl
theorem fi209_1 : fieldI Try.prog 209 1 = some (1, 2, true) := by kernel_rfl
theorem ty210 : tyI Try.prog 210 = some ⟨true, 3, [(.int .i64 0), (.int .i64 0), (.int .i64 0)], 24⟩ := by kernel_rfl
theorem el210 : elemI Try.prog 210 = none := by kernel_rfl
theorem eq210 : eqTy Try.prog 210 = some (.st [(0, 1, .it), (1, 2, (.st [(0, 1, .it), (1, 1, .it)]))]) := by kernel_rfl
theorem pl210 : placesI Try.prog 210 = some [(0, 1), (1, 2)] := by kernel_rfl
theorem fi210_0 : fieldI Try.prog 210 0 = some (0, 1, false) := by kernel_rfl
theorem fi210_1 : fieldI Try.prog 210 1 = some (1, 2, true) := by kernel_rfl
theorem ty211 : tyI Try.prog 211 = some ⟨false, 1, [.nilFunc], 8⟩ := by kernel_rfl
theorem el211 : elemI Try.prog 211 = none := by kernel_rfl
theorem el212 : elemI Try.prog 212 = none := by kernel_rfl
theorem ty213 : tyI Try.prog 213 = some ⟨false, 1, [.nilFunc], 8⟩ := by kernel_rfl
theorem el213 : elemI Try.prog 213 = none := by kernel_rfl
theorem el214 : elemI Try.prog 214 = none := by kernel_rfl
theorem ty215 : tyI Try.prog 215 = some ⟨false, 1, [.nilFunc], 8⟩ := by kernel_rfl
theorem el215 : elemI Try.prog 215 = none := by kernel_rfl
theorem ty216 : tyI Try.prog 216 = some ⟨false, 1, [(.slice none 0 0)], 24⟩ := by kernel_rfl
theorem el216 : elemI Try.prog 216 = some 34 := by kernel_rfl
theorem ty217 : tyI Try.prog 217 = some ⟨false, 1, [(.int .i64 0)], 8⟩ := by kernel_rfl
theorem el217 : elemI Try.prog 217 = none := by kernel_rfl
theorem it217 : intI Try.prog 217 = some .i64 := by kernel_rfl
theorem el218 : elemI Try.prog 218 = none := by kernel_rfl
theorem ty219 : tyI Try.prog 219 = some ⟨false, 1, [.nilFunc], 8⟩ := by kernel_rfl
theorem el219 : elemI Try.prog 219 = none := by kernel_rfl
theorem ty220 : tyI Try.prog 220 = some ⟨false, 1, [.nilFunc], 8⟩ := by kernel_rfl
theorem el220 : elemI Try.prog 220 = none := by kernel_rfl
theorem ty221 : tyI Try.prog 221 = some ⟨false, 1, [.nilFunc], 8⟩ := by kernel_rfl
theorem el221 : elemI Try.prog 221 = none := by kernel_rfl
theorem ty222 : tyI Try.prog 222 = some ⟨false, 1, [.nilFunc], 8⟩ := by kernel_rfl
theorem el222 : elemI Try.prog 222 = none := by kernel_rfl
theorem ty223 : tyI Try.prog 223 = some ⟨false, 1, [.nilFunc], 8⟩ := by kernel_rfl
theorem el223 : elemI Try.prog 223 = none := by kernel_rfl
theorem ty224 : tyI Try.prog 224 = some ⟨false, 1, [.nilFunc], 8⟩ := by kernel_rfl
theorem el224 : elemI Try.prog 224 = none := by kernel_rfl
theorem ty225 : tyI Try.prog 225 = some ⟨false, 1, [.nilFunc], 8⟩ := by kernel_rfl
theorem el225 : elemI Try.prog 225 = none := by kernel_rfl
theorem ty226 : tyI Try.prog 226 = some ⟨false, 1, [.nilFunc], 8⟩ := by kernel_rfl
theorem el226 : elemI Try.prog 226 = none := by kernel_rfl
theorem ty227 : tyI Try.prog 227 = some ⟨false, 1, [.nilFunc], 8⟩ := by kernel_rfl
theorem el227 : elemI Try.prog 227 = none := by kernel_rfl
theorem ty228 : tyI Try.prog 228 = some ⟨false, 1, [.nilFunc], 8⟩ := by kernel_rfl
theorem el228 : elemI Try.prog 228 = none := by kernel_rfl
theorem ty229 : tyI Try.prog 229 = some ⟨true, 2, [(.int .i64 0), (.slice none 0 0)], 32⟩ := by kernel_rfl
theorem el229 : elemI Try.prog 229 = none := by kernel_rfl
theorem pl229 : placesI Try.prog 229 = some [(0, 2)] := by kernel_rfl
theorem fi229_0 : fieldI Try.prog 229 0 = some (0, 2, true) := by kernel_rfl
theorem ty230 : tyI Try.prog 230 = some ⟨true, 2, [(.int .i64 0), (.slice none 0 0)], 32⟩ := by kernel_rfl
theorem el230 : elemI Try.prog 230 = none := by kernel_rfl
theorem pl230 : placesI Try.prog 230 = some [(0, 2)] := by kernel_rfl
theorem fi230_0 : fieldI Try.prog 230 0 = some (0, 2, true) := by kernel_rfl
theorem el231 : elemI Try.prog 231 = none := by kernel_rfl
theorem ty232 : tyI Try.prog 232 = some ⟨false, 1, [.nilFunc], 8⟩ := by kernel_rfl
theorem el232 : elemI Try.prog 232 = none := by kernel_rfl
theorem ty233 : tyI Try.prog 233 = some ⟨false, 1, [.nilFunc], 8⟩ := by kernel_rfl
theorem el233 : elemI Try.prog 233 = none := by kernel_rfl
theorem ty234 : tyI Try.prog 234 = some ⟨false, 1, [.nilFunc], 8⟩ := by kernel_rfl
theorem el234 : elemI Try.prog 234 = none := by kernel_rfl
theorem ty235 : tyI Try.prog 235 = some ⟨false, 1, [.nilFunc], 8⟩ := by kernel_rfl
theorem el235 : elemI Try.prog 235 = none := by kernel_rfl
theorem ty236 : tyI Try.prog 236 = some ⟨false, 1, [.nilFunc], 8⟩ := by kernel_rfl
theorem el236 : elemI Try.prog 236 = none := by kernel_rfl
theorem ty237 : tyI Try.prog 237 = some ⟨false, 1, [.nilFunc], 8⟩ := by kernel_rfl
theorem el237 : elemI Try.prog 237 = none := by kernel_rfl
theorem ty238 : tyI Try.prog 238 = some ⟨false, 1, [.nilFunc], 8⟩ := by kernel_rfl
theorem el238 : elemI Try.prog 238 = none := by kernel_rfl
theorem ty239 : tyI Try.prog 239 = some ⟨false, 1, [.nilFunc], 8⟩ := by kernel_rfl
theorem el239 : elemI Try.prog 239 = none := by kernel_rfl
theorem ty240 : tyI Try.prog 240 = some ⟨false, 1, [.nilFunc], 8⟩ := by kernel_rfl
theorem el240 : elemI Try.prog 240 = none := by kernel_rfl
theorem ty241 : tyI Try.prog 241 = some ⟨false, 1, [.nilFunc], 8⟩ := by kernel_rfl
theorem el241 : elemI Try.prog 241 = none := by kernel_rfl
theorem ty242 : tyI Try.prog 242 = some ⟨false, 1, [.nilFunc], 8⟩ := by kernel_rfl
theorem el242 : elemI Try.prog 242 = none := by kernel_rfl
theorem ty243 : tyI Try.prog 243 = some ⟨false, 1, [.nilFunc], 8⟩ := by kernel_rfl
theorem el243 : elemI Try.prog 243 = none := by kernel_rfl
theorem ty244 : tyI Try.prog 244 = some ⟨false, 1, [.nilFunc], 8⟩ := by kernel_rfl
theorem el244 : elemI Try.prog 244 = none := by kernel_rfl
theorem ty245 : tyI Try.prog 245 = some ⟨false, 1, [.nilFunc], 8⟩ := by kernel_rfl
theorem el245 : elemI Try.prog 245 = none := by kernel_rfl
theorem ty246 : tyI Try.prog 246 = some ⟨false, 1, [.nilFunc], 8⟩ := by kernel_rfl
theorem el246 : elemI Try.prog 246 = none := by kernel_rfl
theorem ty247 : tyI Try.prog 247 = some ⟨false, 1, [.nilFunc], 8⟩ := by kernel_rfl
theorem el247 : elemI Try.prog 247 = none := by kernel_rfl
theorem ty248 : tyI Try.prog 248 = some ⟨false, 1, [.nilFunc], 8⟩ := by kernel_rfl
theorem el248 : elemI Try.prog 248 = none := by kernel_rfl
theorem ty249 : tyI Try.prog 249 = some ⟨false, 1, [.nilFunc], 8⟩ := by kernel_rfl
theorem el249 : elemI Try.prog 249 = none := by kernel_rfl
theorem ty250 : tyI Try.prog 250 = some ⟨false, 1, [(.slice none 0 0)], 24⟩ := by kernel_rfl
theorem el250 : elemI Try.prog 250 = some 61 := by kernel_rfl
theorem ty251 : tyI Try.prog 251 = some ⟨false, 1, [(.slice none 0 0)], 24⟩ := by kernel_rfl
theorem el251 : elemI Try.prog 251 = some 61 := by kernel_rfl
theorem ty252 : tyI Try.prog 252 = some ⟨false, 1, [.nilFunc], 8⟩ := by kernel_rfl
theorem el252 : elemI Try.prog 252 = none := by kernel_rfl
theorem ty253 : tyI Try.prog 253 = some ⟨false, 1, [.nilFunc], 8⟩ := by kernel_rfl
theorem el253 : elemI Try.prog 253 = none := by kernel_rfl
theorem ty254 : tyI Try.prog 254 = some ⟨false, 1, [.nilFunc], 8⟩ := by kernel_rfl
theorem el254 : elemI Try.prog 254 = none := by kernel_rfl
theorem ty255 : tyI Try.prog 255 = some ⟨false, 1, [(.slice none 0 0)], 24⟩ := by kernel_rfl
theorem el255 : elemI Try.prog 255 = some 4 := by kernel_rfl
theorem ty256 : tyI Try.prog 256 = some ⟨false, 1, [.nilFunc], 8⟩ := by kernel_rfl
theorem el256 : elemI Try.prog 256 = none := by kernel_rfl
theorem el257 : elemI Try.prog 257 = none := by kernel_rfl
theorem ty258 : tyI Try.prog 258 = some ⟨false, 1, [.nilFunc], 8⟩ := by kernel_rfl
theorem el258 : elemI Try.prog 258 = none := by kernel_rfl
theorem ty259 : tyI Try.prog 259 = some ⟨false, 1, [.nilFunc], 8⟩ := by kernel_rfl
theorem el259 : elemI Try.prog 259 = none := by kernel_rfl
theorem ty260 : tyI Try.prog 260 = some ⟨true, 2, [(.bool false), (.bool false)], 2⟩ := by kernel_rfl
theorem el260 : elemI Try.prog 260 = none := by kernel_rfl
theorem ar260 : arrI Try.prog 260 = some (2, 4) := by kernel_rfl
theorem pl260 : placesI Try.prog 260 = some [(0, 1), (1, 1)] := by kernel_rfl
theorem ty261 : tyI Try.prog 261 = some ⟨false, 1, [(.map none)], 8⟩ := by kernel_rfl
theorem el261 : elemI Try.prog 261 = none := by kernel_rfl
theorem mp261 : mapI Try.prog 261 = some ((.agg [.c (.v (.int .i64 0)), .c (.v (.int .i64 0))]), .bool) := by kernel_rfl
theorem ty262 : tyI Try.prog 262 = some ⟨false, 1, [.nilFunc], 8⟩ := by kernel_rfl
theorem el262 : elemI Try.prog 262 = none := by kernel_rfl
theorem ty263 : tyI Try.prog 263 = some ⟨false, 1, [.nilFunc], 8⟩ := by kernel_rfl
theorem el263 : elemI Try.prog 263 = none := by kernel_rfl
theorem ty264 : tyI Try.prog 264 = some ⟨false, 1, [(.slice none 0 0)], 24⟩ := by kernel_rfl
theorem el264 : elemI Try.prog 264 = some 266 := by kernel_rfl
theorem ty265 : tyI Try.prog 265 = some ⟨true, 4, [(.int .i64 0), (.int .i64 0), (.int .i64 0), (.int .i64 0)], 32⟩ := by kernel_rfl
theorem el265 : elemI Try.prog 265 = none := by kernel_rfl
theorem pl265 : placesI Try.prog 265 = some [(0, 2), (2, 2)] := by kernel_rfl
theorem fi265_0 : fieldI Try.prog 265 0 = some (0, 2, true) := by kernel_rfl
theorem fi265_1 : fieldI Try.prog 265 1 = some (2, 2, true) := by kernel_rfl
theorem ty266 : tyI Try.prog 266 = some ⟨true, 4, [(.int .i64 0), (.int .i64 0), (.int .i64 0), (.int .i64 0)], 32⟩ := by kernel_rfl
theorem el266 : elemI Try.prog 266 = none := by kernel_rfl
theorem pl266 : placesI Try.prog 266 = some [(0, 2), (2, 2)] := by kernel_rfl
theorem fi266_0 : fieldI Try.prog 266 0 = some (0, 2, true) := by kernel_rfl
theorem fi266_1 : fieldI Try.prog 266 1 = some (2, 2, true) := by kernel_rfl
theorem ty267 : tyI Try.prog 267 = some ⟨false, 1, [.nilFunc], 8⟩ := by kernel_rfl
theorem el267 : elemI Try.prog 267 = none := by kernel_rfl
theorem ty268 : tyI Try.prog 268 = some ⟨false, 1, [.nilFunc], 8⟩ := by kernel_rfl
theorem el268 : elemI Try.prog 268 = none := by kernel_rfl
theorem ty269 : tyI Try.prog 269 = some ⟨false, 1, [.nilFunc], 8⟩ := by kernel_rfl
theorem el269 : elemI Try.prog 269 = none := by kernel_rfl
theorem ty270 : tyI Try.prog 270 = some ⟨false, 1, [.nilFunc], 8⟩ := by kernel_rfl
theorem el270 : elemI Try.prog 270 = none := by kernel_rfl
theorem ty271 : tyI Try.prog 271 = some ⟨false, 1, [.nilFunc], 8⟩ := by kernel_rfl
theorem el271 : elemI Try.prog 271 = none := by kernel_rfl
theorem ty272 : tyI Try.prog 272 = some ⟨false, 1, [.nilFunc], 8⟩ := by kernel_rfl
theorem el272 : elemI Try.prog 272 = none := by kernel_rfl
theorem ty273 : tyI Try.prog 273 = some ⟨false, 1, [.nilFunc], 8⟩ := by kernel_rfl
theorem el273 : elemI Try.prog 273 = none := by kernel_rfl
theorem ty274 : tyI Try.prog 274 = some ⟨false, 1, [.nilFunc], 8⟩ := by kernel_rfl
theorem el274 : elemI Try.prog 274 = none := by kernel_rfl
theorem ty275 : tyI Try.prog 275 = some ⟨false, 1, [(.slice none 0 0)], 24⟩ := by kernel_rfl
theorem el275 : elemI Try.prog 275 = some 161 := by kernel_rfl
theorem ty276 : tyI Try.prog 276 = some ⟨false, 1, [.nilFunc], 8⟩ := by kernel_rfl
theorem el276 : elemI Try.prog 276 = none := by kernel_rfl
theorem ty277 : tyI Try.prog 277 = some ⟨false, 1, [.nilFunc], 8⟩ := by kernel_rfl
theorem el277 : elemI Try.prog 277 = none := by kernel_rfl
theorem ty278 : tyI Try.prog 278 = some ⟨false, 1, [.nilFunc], 8⟩ := by kernel_rfl
theorem el278 : elemI Try.prog 278 = none := by kernel_rfl
theorem ty279 : tyI Try.prog 279 = some ⟨false, 1, [.nilFunc], 8⟩ := by kernel_rfl
theorem el279 : elemI Try.prog 279 = none := by kernel_rfl
theorem ty280 : tyI Try.prog 280 = some ⟨false, 1, [.nilFunc], 8⟩ := by kernel_rfl
theorem el280 : elemI Try.prog 280 = none := by kernel_rfl
theorem ty281 : tyI Try.prog 281 = some ⟨false, 1, [.nilFunc], 8⟩ := by kernel_rfl
theorem el281 : elemI Try.prog 281 = none := by kernel_rfl
theorem ty282 : tyI Try.prog 282 = some ⟨false, 1, [.nilFunc], 8⟩ := by kernel_rfl
theorem el282 : elemI Try.prog 282 = none := by kernel_rfl
theorem ty283 : tyI Try.prog 283 = some ⟨false, 1, [.nilFunc], 8⟩ := by kernel_rfl
theorem el283 : elemI Try.prog 283 = none := by kernel_rfl
theorem ty284 : tyI Try.prog 284 = some ⟨false, 1, [.nilFunc], 8⟩ := by kernel_rfl
theorem el284 : elemI Try.prog 284 = none := by kernel_rfl
theorem ty285 : tyI Try.prog 285 = some ⟨false, 1, [.nilFunc], 8⟩ := by kernel_rfl
theorem el285 : elemI Try.prog 285 = none := by kernel_rfl
theorem ty286 : tyI Try.prog 286 = some ⟨false, 1, [.nilFunc], 8⟩ := by kernel_rfl
theorem el286 : elemI Try.prog 286 = none := by kernel_rfl
theorem ty287 : tyI Try.prog 287 = some ⟨false, 1, [.nilFunc], 8⟩ := by kernel_rfl
theorem el287 : elemI Try.prog 287 = none := by kernel_rfl
theorem ty288 : tyI Try.prog 288 = some ⟨false, 1, [.nilFunc], 8⟩ := by kernel_rfl
theorem el288 : elemI Try.prog 288 = none := by kernel_rfl
theorem ty289 : tyI Try.prog 289 = some ⟨false, 1, [.nilFunc], 8⟩ := by kernel_rfl
theorem el289 : elemI Try.prog 289 = none := by kernel_rfl
theorem ty290 : tyI Try.prog 290 = some ⟨false, 1, [.nilFunc], 8⟩ := by kernel_rfl
theorem el290 : elemI Try.prog 290 = none := by kernel_rfl
theorem ty291 : tyI Try.prog 291 = some ⟨false, 1, [.nilFunc], 8⟩ := by kernel_rfl
theorem el291 : elemI Try.prog 291 = none := by kernel_rfl
theorem ty292 : tyI Try.prog 292 = some ⟨false, 1, [.nilFunc], 8⟩ := by kernel_rfl
theorem el292 : elemI Try.prog 292 = none := by kernel_rfl
theorem ty293 : tyI Try.prog 293 = some ⟨false, 1, [.nilFunc], 8⟩ := by kernel_rfl
theorem el293 : elemI Try.prog 293 = none := by kernel_rfl
theorem ty294 : tyI Try.prog 294 = some ⟨false, 1, [(.int .u64 0)], 8⟩ := by kernel_rfl
theorem el294 : elemI Try.prog 294 = none := by kernel_rfl
theorem it294 : intI Try.prog 294 = some .u64 := by kernel_rfl
theorem ty295 : tyI Try.prog 295 = some ⟨false, 1, [.nilFunc], 8⟩ := by kernel_rfl
theorem el295 : elemI Try.prog 295 = none := by kernel_rfl
theorem ty296 : tyI Try.prog 296 = some ⟨false, 1, [.nilFunc], 8⟩ := by kernel_rfl
theorem el296 : elemI Try.prog 296 = none := by kernel_rfl
theorem ty297 : tyI Try.prog 297 = some ⟨false, 1, [.nilFunc], 8⟩ := by kernel_rfl
theorem el297 : elemI Try.prog 297 = none := by kernel_rfl
theorem ty298 : tyI Try.prog 298 = some ⟨false, 1, [.nilFunc], 8⟩ := by kernel_rfl
theorem el298 : elemI Try.prog 298 = none := by kernel_rfl
theorem ty299 : tyI Try.prog 299 = some ⟨false, 1, [.nilFunc], 8⟩ := by kernel_rfl
theorem el299 : elemI Try.prog 299 = none := by kernel_rfl
theorem ty300 : tyI Try.prog 300 = some ⟨false, 1, [.nilFunc], 8⟩ := by kernel_rfl
theorem el300 : elemI Try.prog 300 = none := by kernel_rfl
theorem el301 : elemI Try.prog 301 = none := by kernel_rfl
theorem ty302 : tyI Try.prog 302 = some ⟨false, 1, [.nilFunc], 8⟩ := by kernel_rfl
theorem el302 : elemI Try.prog 302 = none := by kernel_rfl
theorem ty303 : tyI Try.prog 303 = some ⟨false, 1, [.nilFunc], 8⟩ := by kernel_rfl
theorem el303 : elemI Try.prog 303 = none := by kernel_rfl
theorem ty304 : tyI Try.prog 304 = some ⟨false, 1, [.nilFunc], 8⟩ := by kernel_rfl
theorem el304 : elemI Try.prog 304 = none := by kernel_rfl
theorem ty305 : tyI Try.prog 305 = some ⟨false, 1, [.nilFunc], 8⟩ := by kernel_rfl
theorem el305 : elemI Try.prog 305 = none := by kernel_rfl
theorem ty306 : tyI Try.prog 306 = some ⟨false, 1, [(.int .u32 0)], 4⟩ := by kernel_rfl
theorem el306 : elemI Try.prog 306 = none := by kernel_rfl
theorem it306 : intI Try.prog 306 = some .u32 := by kernel_rfl
theorem el307 : elemI Try.prog 307 = none := by kernel_rfl
theorem ty308 : tyI Try.prog 308 = some ⟨false, 1, [.nilFunc], 8⟩ := by kernel_rfl
theorem el308 : elemI Try.prog 308 = none := by kernel_rfl
theorem ty309 : tyI Try.prog 309 = some ⟨false, 1, [(.int .u64 0)], 8⟩ := by kernel_rfl
theorem el309 : elemI Try.prog 309 = none := by kernel_rfl
theorem it309 : intI Try.prog 309 = some .u64 := by kernel_rfl
theorem el310 : elemI Try.prog 310 = none := by kernel_rfl
theorem ty311 : tyI Try.prog 311 = some ⟨false, 1, [.nilFunc], 8⟩ := by kernel_rfl
theorem el311 : elemI Try.prog 311 = none := by kernel_rfl
theorem ty312 : tyI Try.prog 312 = some ⟨false, 1, [.nilFunc], 8⟩ := by kernel_rfl
theorem el312 : elemI Try.prog 312 = none := by kernel_rfl
theorem ty313 : tyI Try.prog 313 = some ⟨true, 4, [(.pointer none), (.pointer none), (.pointer none), (.string ⟨#[]⟩)], 40⟩ := by kernel_rfl
theorem el313 : elemI Try.prog 313 = none := by kernel_rfl
theorem pl313 : placesI Try.prog 313 = some [(0, 1), (1, 1), (2, 1), (3, 1)] := by kernel_rfl
theorem fi313_0 : fieldI Try.prog 313 0 = some (0, 1, false) := by kernel_rfl
theorem fi313_1 : fieldI Try.prog 313 1 = some (1, 1, false) := by kernel_rfl
theorem fi313_2 : fieldI Try.prog 313 2 = some (2, 1, false) := by kernel_rfl
theorem fi313_3 : fieldI Try.prog 313 3 = some (3, 1, false) := by kernel_rfl
theorem ty314 : tyI Try.prog 314 = some ⟨true, 4, [(.pointer none), (.pointer none), (.pointer none), (.string ⟨#[]⟩)], 40⟩ := by kernel_rfl
theorem el314 : elemI Try.prog 314 = none := by kernel_rfl
theorem pl314 : placesI Try.prog 314 = some [(0, 1), (1, 1), (2, 1), (3, 1)] := by kernel_rfl
theorem fi314_0 : fieldI Try.prog 314 0 = some (0, 1, false) := by kernel_rfl
theorem fi314_1 : fieldI Try.prog 314 1 = some (1, 1, false) := by kernel_rfl
theorem fi314_2 : fieldI Try.prog 314 2 = some (2, 1, false) := by kernel_rfl
theorem fi314_3 : fieldI Try.prog 314 3 = some (3, 1, false) := by kernel_rfl
theorem ty315 : tyI Try.prog 315 = some ⟨true, 0, [], 0⟩ := by kernel_rfl
theorem el315 : elemI Try.prog 315 = none := by kernel_rfl
theorem ar315 : arrI Try.prog 315 = some (0, 16) := by kernel_rfl
theorem pl315 : placesI Try.prog 315 = some [] := by kernel_rfl
theorem ty316 : tyI Try.prog 316 = some ⟨true, 0, [], 0⟩ := by kernel_rfl
theorem el316 : elemI Try.prog 316 = none := by kernel_rfl
theorem pl316 : placesI Try.prog 316 = some [(0, 0)] := by kernel_rfl
theorem ty317 : tyI Try.prog 317 = some ⟨true, 0, [], 0⟩ := by kernel_rfl
theorem el317 : elemI Try.prog 317 = none := by kernel_rfl
theorem pl317 : placesI Try.prog 317 = some [(0, 0)] := by kernel_rfl
theorem ty318 : tyI Try.prog 318 = some ⟨false, 1, [(.int .u8 0)], 1⟩ := by kernel_rfl
theorem el318 : elemI Try.prog 318 = none := by kernel_rfl
theorem it318 : intI Try.prog 318 = some .u8 := by kernel_rfl
theorem ty319 : tyI Try.prog 319 = some ⟨false, 1, [(.int .u8 0)], 1⟩ := by kernel_rfl
theorem el319 : elemI Try.prog 319 = none := by kernel_rfl
theorem it319 : intI Try.prog 319 = some .u8 := by kernel_rfl
theorem ty320 : tyI Try.prog 320 = some ⟨false, 1, [.nilFunc], 8⟩ := by kernel_rfl
theorem el320 : elemI Try.prog 320 = none := by kernel_rfl
theorem ty321 : tyI Try.prog 321 = some ⟨false, 1, [(.pointer none)], 8⟩ := by kernel_rfl
theorem el321 : elemI Try.prog 321 = none := by kernel_rfl
theorem ty322 : tyI Try.prog 322 = some ⟨false, 1, [(.int .i32 0)], 4⟩ := by kernel_rfl
theorem el322 : elemI Try.prog 322 = none := by kernel_rfl
theorem it322 : intI Try.prog 322 = some .i32 := by kernel_rfl
theorem ty323 : tyI Try.prog 323 = some ⟨false, 1, [(.int .i32 0)], 4⟩ := by kernel_rfl
theorem el323 : elemI Try.prog 323 = none := by kernel_rfl
theorem it323 : intI Try.prog 323 = some .i32 := by kernel_rfl
theorem ty324 : tyI Try.prog 324 = some ⟨true, 11, [(.int .u64 0), (.int .u64 0), (.int .u32 0), (.int .u8 0), (.int .u8 0), (.int .u8 0), (.int .u8 0), .nilFunc, (.pointer none), (.int .i32 0), (.int .i32 0)], 48⟩ := by kernel_rfl
theorem el324 : elemI Try.prog 324 = none := by kernel_rfl
theorem pl324 : placesI Try.prog 324 = some [(0, 1), (1, 1), (2, 1), (3, 1), (4, 1), (5, 1), (6, 1), (7, 1), (8, 1), (9, 1), (10, 1)] := by kernel_rfl
theorem fi324_0 : fieldI Try.prog 324 0 = some (0, 1, false) := by kernel_rfl
theorem fi324_1 : fieldI Try.prog 324 1 = some (1, 1, false) := by kernel_rfl
theorem fi324_2 : fieldI Try.prog 324 2 = some (2, 1, false) := by kernel_rfl
theorem fi324_3 : fieldI Try.prog 324 3 = some (3, 1, false) := by kernel_rfl
theorem fi324_4 : fieldI Try.prog 324 4 = some (4, 1, false) := by kernel_rfl
theorem fi324_5 : fieldI Try.prog 324 5 = some (5, 1, false) := by kernel_rfl
theorem fi324_6 : fieldI Try.prog 324 6 = some (6, 1, false) := by kernel_rfl
theorem fi324_7 : fieldI Try.prog 324 7 = some (7, 1, false) := by kernel_rfl
theorem fi324_8 : fieldI Try.prog 324 8 = some (8, 1, false) := by kernel_rfl
theorem fi324_9 : fieldI Try.prog 324 9 = some (9, 1, false) := by kernel_rfl
theorem fi324_10 : fieldI Try.prog 324 10 = some (10, 1, false) := by kernel_rfl
theorem ty325 : tyI Try.prog 325 = some ⟨true, 11, [(.int .u64 0), (.int .u64 0), (.int .u32 0), (.int .u8 0), (.int .u8 0), (.int .u8 0), (.int .u8 0), .nilFunc, (.pointer none), (.int .i32 0), (.int .i32 0)], 48⟩ := by kernel_rfl
theorem el325 : elemI Try.prog 325 = none := by kernel_rfl
theorem pl325 : placesI Try.prog 325 = some [(0, 1), (1, 1), (2, 1), (3, 1), (4, 1), (5, 1), (6, 1), (7, 1), (8, 1), (9, 1), (10, 1)] := by kernel_rfl
theorem fi325_0 : fieldI Try.prog 325 0 = some (0, 1, false) := by kernel_rfl
theorem fi325_1 : fieldI Try.prog 325 1 = some (1, 1, false) := by kernel_rfl
theorem fi325_2 : fieldI Try.prog 325 2 = some (2, 1, false) := by kernel_rfl
theorem fi325_3 : fieldI Try.prog 325 3 = some (3, 1, false) := by kernel_rfl
theorem fi325_4 : fieldI Try.prog 325 4 = some (4, 1, false) := by kernel_rfl
theorem fi325_5 : fieldI Try.prog 325 5 = some (5, 1, false) := by kernel_rfl
theorem fi325_6 : fieldI Try.prog 325 6 = some (6, 1, false) := by kernel_rfl
theorem fi325_7 : fieldI Try.prog 325 7 = some (7, 1, false) := by kernel_rfl
theorem fi325_8 : fieldI Try.prog 325 8 = some (8, 1, false) := by kernel_rfl
theorem fi325_9 : fieldI Try.prog 325 9 = some (9, 1, false) := by kernel_rfl
theorem fi325_10 : fieldI Try.prog 325 10 = some (10, 1, false) := by kernel_rfl
theorem ty326 : tyI Try.prog 326 = some ⟨false, 1, [(.pointer none)], 8⟩ := by kernel_rfl
theorem el326 : elemI Try.prog 326 = none := by kernel_rfl
attribute [go_sem] el0 ty1 el1 ty2 el2 it2 ty3 el3 it3 ty4 el4 bl4 ty5 el5 it5 ty6 el6 it6 ty7 el7 eq7 pl7 fi7_0 fi7_1 fi7_2 fi7_3 ty8 el8 eq8 pl8 fi8_0 fi8_1 fi8_2 fi8_3 ty9 el9 ty10 el10 ty11 el11 ty12 el12 it12 ty13 el13 pl13 fi13_0 fi13_1 ty14 el14 pl14 fi14_0 fi14_1 ty15 el15 ty16 el16 ty17 el17 ty18 el18 pl18 fi18_0 ty19 el19 pl19 fi19_0 ty20 el20 ty21 el21 it21 ty22 el22 ar22 pl22 ty23 el23 ar23 pl23 ty24 el24 eq24 pl24 fi24_0 fi24_1 ty25 el25 eq25 pl25 fi25_0 fi25_1 ty26 el26 ty27 el27 eq27 pl27 fi27_0 fi27_1 fi27_2 fi27_3 fi27_4 ty28 el28 eq28 pl28 fi28_0 fi28_1 fi28_2 fi28_3 fi28_4 ty29 el29 eq29 pl29 fi29_0 fi29_1 fi29_2 fi29_3 fi29_4 fi29_5 ty30 el30 eq30 pl30 fi30_0 fi30_1 fi30_2 fi30_3 fi30_4 fi30_5 ty31 el31 eq31 pl31 fi31_0 fi31_1 ty32 el32 eq32 pl32 fi32_0 fi32_1 ty33 el33 ty34 el34 ty35 el35 it35 el36 ty37 el37 el38 ty39 el39 ty40 el40 ty41 el41 ty42 el42 ty43 el43 ty44 el44 eq44 pl44 fi44_0 fi44_1 ty45 el45 eq45 pl45 fi45_0 fi45_1 ty46 el46 el47 ty48 el48 ty49 el49 el50 ty51 el51 ty52 el52 ty53 el53 ar53 pl53 ty54 el54 ar54 pl54 ty55 el55 eq55 pl55 fi55_0 fi55_1 fi55_2 ty56 el56 eq56 pl56 fi56_0 fi56_1 fi56_2 ty57 el57 eq57 pl57 fi57_0 fi57_1 ty58 el58 eq58 pl58 fi58_0 fi58_1 el59 ty60 el60 ty61 el61 el62 ty63 el63 ty64 el64 ty65 el65 ty66 el66 eq66 pl66 fi66_0 fi66_1 fi66_2 ty67 el67 eq67 pl67 fi67_0 fi67_1 fi67_2 ty68 el68 ty69 el69 ar69 pl69 ty70 el70 it70 ty71 el71 eq71 pl71 fi71_0 fi71_1 fi71_2 fi71_3 fi71_4 ty72 el72 eq72 pl72 fi72_0 fi72_1 fi72_2 fi72_3 fi72_4 el73 ty74 el74 ty75 el75 ty76 el76 pl76 fi76_0 fi76_1 fi76_2 fi76_3 fi76_4 fi76_5 fi76_6 fi76_7 fi76_8 fi76_9 fi76_10 ty77 el77 pl77 fi77_0 fi77_1 fi77_2 fi77_3 fi77_4 fi77_5 fi77_6 fi77_7 fi77_8 fi77_9 fi77_10 ty78 el78 ty79 el79 ty80 el80 pl80 fi80_0 fi80_1 fi80_2 ty81 el81 pl81 fi81_0 fi81_1 fi81_2 ty82 el82 ty83 el83 eq83 pl83 fi83_0 fi83_1 ty84 el84 eq84 pl84 fi84_0 fi84_1 ty85 el85 el86 ty87 el87 ty88 el88 ty89 el89 ty90 el90 eq90 pl90 fi90_0 fi90_1 ty91 el91 eq91 pl91 fi91_0 fi91_1 ty92 el92 ty93 el93 ty94 el94 ty95 el95 ty96 el96 ty97 el97 ty98 el98 ty99 el99 pl99 fi99_0 fi99_1 ty100 el100 pl100 fi100_0 fi100_1 ty101 el101 eq101 pl101 fi101_0 fi101_1 ty102 el102 eq102 pl102 fi102_0 fi102_1 ty103 el103 pl103 fi103_0 fi103_1 fi103_2 ty104 el104 pl104 fi104_0 fi104_1 fi104_2 ty105 el105 ty106 el106 ty107 el107 eq107 pl107 fi107_0 fi107_1 ty108 el108 eq108 pl108 fi108_0 fi108_1 ty109 el109 eq109 pl109 fi109_0 fi109_1 fi109_2 fi109_3 fi109_4 ty110 el110 eq110 pl110 fi110_0 fi110_1 fi110_2 fi110_3 fi110_4 el111 ty112 el112 ty113 el113 ty114 el114 mp114 ty115 el115 el116 ty117 el117 ty118 el118 ty119 el119 ty120 el120 ty121 el121 ty122 el122 eq122 pl122 fi122_0 fi122_1 ty123 el123 eq123 pl123 fi123_0 fi123_1 ty124 el124 ty125 el125 ty126 el126 ty127 el127 ar127 pl127 ty128 el128 ar128 pl128 ty129 el129 el130 ty131 el131 ty132 el132 ty133 el133 ty134 el134 eq134 pl134 fi134_0 fi134_1 fi134_2 fi134_3 ty135 el135 eq135 pl135 fi135_0 fi135_1 fi135_2 fi135_3 ty136 el136 ty137 el137 ty138 el138 ty139 el139 ty140 el140 ty141 el141 pl141 fi141_0 fi141_1 ty142 el142 pl142 fi142_0 fi142_1 el143 ty144 el144 el145 ty146 el146 ty147 el147 ty148 el148 ty149 el149 eq149 pl149 fi149_0 ty150 el150 eq150 pl150 fi150_0 ty151 el151 ty152 el152 ty153 el153 ty154 el154 ty155 el155 pl155 fi155_0 fi155_1 ty156 el156 pl156 fi156_0 fi156_1 ty157 el157 ty158 el158 it158 ty159 el159 eq159 pl159 fi159_0 fi159_1 fi159_2 ty160 el160 eq160 pl160 fi160_0 fi160_1 fi160_2 ty161 el161 ty162 el162 eq162 pl162 fi162_0 fi162_1 ty163 el163 eq163 pl163 fi163_0 fi163_1 ty164 el164 ty165 el165 pl165 fi165_0 ty166 el166 pl166 fi166_0 el167 ty168 el168 ty169 el169 ty170 el170 eq170 pl170 fi170_0 fi170_1 ty171 el171 eq171 pl171 fi171_0 fi171_1 ty172 el172 ty173 el173 ty174 el174 eq174 pl174 fi174_0 ty175 el175 eq175 pl175 fi175_0 ty176 el176 ty177 el177 ty178 el178 ty179 el179 ty180 el180 ty181 el181 ty182 el182 ty183 el183 ty184 el184 ty185 el185 ty186 el186 pl186 fi186_0 fi186_1 ty187 el187 pl187 fi187_0 fi187_1 ty188 el188 ty189 el189 ty190 el190 eq190 pl190 fi190_0 fi190_1 ty191 el191 eq191 pl191 fi191_0 fi191_1 ty192 el192 el193 ty194 el194 ty195 el195 ty196 el196 ty197 el197 pl197 fi197_0 ty198 el198 pl198 fi198_0 ty199 el199 ty200 el200 ty201 el201 ty202 el202 mp202 ty203 el203 ar203 pl203 ty204 el204 pl204 fi204_0 fi204_1 fi204_2 ty205 el205 pl205 fi205_0 fi205_1 fi205_2 ty206 el206 ty207 el207 eq207 pl207 fi207_0 fi207_1 ty208 el208 eq208 pl208 fi208_0 fi208_1 ty209 el209 eq209 pl209 fi209_0 fi209_1 ty210 el210 eq210 pl210 fi210_0 fi210_1 ty211 el211 el212 ty213 el213 el214 ty215 el215 ty216 el216 ty217 el217 it217 el218 ty219 el219 ty220 el220 ty221 el221 ty222 el222 ty223 el223 ty224 el224 ty225 el225 ty226 el226 ty227 el227 ty228 el228 ty229 el229 pl229 fi229_0 ty230 el230 pl230 fi230_0 el231 ty232 el232 ty233 el233 ty234 el234 ty235 el235 ty236 el236 ty237 el237 ty238 el238 ty239 el239 ty240 el240 ty241 el241 ty242 el242 ty243 el243 ty244 el244 ty245 el245 ty246 el246 ty247 el247 ty248 el248 ty249 el249 ty250 el250 ty251 el251 ty252 el252 ty253 el253 ty254 el254 ty255 el255 ty256 el256 el257 ty258 el258 ty259 el259 ty260 el260 ar260 pl260 ty261 el261 mp261 ty262 el262 ty263 el263 ty264 el264 ty265 el265 pl265 fi265_0 fi265_1 ty266 el266 pl266 fi266_0 fi266_1 ty267 el267 ty268 el268 ty269 el269 ty270 el270 ty271 el271 ty272 el272 ty273 el273 ty274 el274 ty275 el275 ty276 el276 ty277 el277 ty278 el278 ty279 el279 ty280 el280 ty281 el281 ty282 el282 ty283 el283 ty284 el284 ty285 el285 ty286 el286 ty287 el287 ty288 el288 ty289 el289 ty290 el290 ty291 el291 ty292 el292 ty293 el293 ty294 el294 it294 ty295 el295 ty296 el296 ty297 el297 ty298 el298 ty299 el299 ty300 el300 el301 ty302 el302 ty303 el303 ty304 el304 ty305 el305 ty306 el306 it306 el307 ty308 el308 ty309 el309 it309 el310 ty311 el311 ty312 el312 ty313 el313 pl313 fi313_0 fi313_1 fi313_2 fi313_3 ty314 el314 pl314 fi314_0 fi314_1 fi314_2 fi314_3 ty315 el315 ar315 pl315 ty316 el316 pl316 ty317 el317 pl317 ty318 el318 it318 ty319 el319 it319 ty320 el320 ty321 el321 ty322 el322 it322 ty323 el323 it323 ty324 el324 pl324 fi324_0 fi324_1 fi324_2 fi324_3 fi324_4 fi324_5 fi324_6 fi324_7 fi324_8 fi324_9 fi324_10 ty325 el325 pl325 fi325_0 fi325_1 fi325_2 fi325_3 fi325_4 fi325_5 fi325_6 fi325_7 fi325_8 fi325_9 fi325_10 ty326 el326
end Go.Dw.Seat
end
section
namespace Go.Dw.Seat
open Go Go.Dw
def Tm (n : Nat) : Operand := .tmp n
def Kn (n : Int) : Operand := .const (.int .i64 n)
def Kb (b : Bool) : Operand := .const (.bool b)
def Mv (a c : Nat) : SO := ⟨some a, .move (.tmp c), none⟩
def Sg (a c : Nat) : SO := ⟨some a, .assign (.tmp c), none⟩
def Sk (a : Nat) (c : Operand) : SO := ⟨some a, .assign c, none⟩
def Ld (a b c : Nat) : SO := ⟨some a, .load b (.tmp c), none⟩
def Fa (a b c d : Nat) : SO := ⟨some a, .fieldAddr b (.tmp c) d, none⟩
def Xt (a c d : Nat) : SO := ⟨some a, .extract (.tmp c) d, none⟩
def Ix (a b c d : Nat) : SO := ⟨some a, .indexAddr b (.tmp c) (.tmp d), none⟩
def Lq (a c t : Nat) : SO := ⟨some a, .call { callee := .builtin .len, args := #[.tmp c], argTypes := #[t] }, none⟩
def Cl (a f : Nat) (x : Array Operand) (y : Array TypeId) : SO := ⟨some a, .call { callee := .value (.func f), args := x, argTypes := y }, none⟩
def Bo (a : Nat) (o : BinOp) (t : Nat) (x y : Operand) (u : Nat) : SO := ⟨some a, .binOp o t x y u, none⟩
def Pk (a x : Nat) (y z : Operand) : SO := ⟨some a, .pick (.tmp x) y z, none⟩
def Sr (t : Nat) (x y : Operand) : SO := ⟨none, .store t x y, none⟩
def Nk (a c : Nat) : SO := ⟨some a, .nilCheck (.tmp c), none⟩
def Oo (a : Nat) (o : Op) : SO := ⟨some a, o, none⟩
def Gm (a c g : Nat) (b : Bool) : SO := ⟨some a, .move (.tmp c), some (g, b)⟩
def Gl (a t c g : Nat) (b : Bool) : SO := ⟨some a, .load t (.tmp c), some (g, b)⟩
def Gf (a t c d g : Nat) (b : Bool) : SO := ⟨some a, .fieldAddr t (.tmp c) d, some (g, b)⟩
def Gx (a t c d g : Nat) (b : Bool) : SO := ⟨some a, .indexAddr t (.tmp c) (.tmp d), some (g, b)⟩
def Gc (a f : Nat) (x : Array Operand) (y : Array TypeId) (g : Nat) (b : Bool) : SO := ⟨some a, .call { callee := .value (.func f), args := x, argTypes := y }, some (g, b)⟩
def Gb (a : Nat) (o : BinOp) (t : Nat) (x y : Operand) (u g : Nat) (b : Bool) : SO := ⟨some a, .binOp o t x y u, some (g, b)⟩
def Og (a : Nat) (o : Op) (g : Nat) (b : Bool) : SO := ⟨some a, o, some (g, b)⟩
abbrev R0 (l : List SO) : SC := .reg false l
abbrev R1 (l : List SO) : SC := .reg true l
attribute [go_sem] Tm Kn Kb Mv Sg Sk Ld Fa Xt Ix Lq Cl Bo Pk Sr Nk Oo Gm Gl Gf Gx Gc Gb Og
end Go.Dw.Seat
namespace Go.Dw.Seat
open Go Go.Dw Go.Proofs
def s3 : SF := ⟨256, [.tmp 4], (.seq (R0 [Oo 2 (.box 22 (Tm 0)), Oo 3 (.box 23 (Tm 1)), Sk 4 (Kb false)]) (.seq (R1 [Oo 25 (.indexAddr 22 (Tm 2) (Kn 0)), Ld 26 5 25, Oo 27 (.convert 5 3 (Tm 26)), Bo 28 .rem 3 (Tm 27) (Kn 60) 3, Bo 29 .add 3 (Kn 20) (Tm 28) 3, Oo 30 (.indexAddr 22 (Tm 2) (Kn 1)), Ld 31 5 30, Oo 32 (.convert 5 3 (Tm 31)), Bo 33 .rem 3 (Tm 32) (Kn 60) 3, Bo 34 .add 3 (Kn 15) (Tm 33) 3, Oo 35 (.indexAddr 22 (Tm 2) (Kn 2)), Ld 36 5 35, Oo 37 (.convert 5 3 (Tm 36)), Bo 38 .rem 3 (Tm 37) (Kn 30) 3, Bo 39 .add 3 (Kn 10) (Tm 38) 3, Oo 40 (.indexAddr 22 (Tm 2) (Kn 3)), Ld 41 5 40, Oo 42 (.convert 5 3 (Tm 41)), Bo 43 .mul 3 (Kn 100) (Tm 42) 3, Oo 44 (.indexAddr 22 (Tm 2) (Kn 3)), Ld 45 5 44, Oo 46 (.convert 5 3 (Tm 45)), Bo 47 .mul 3 (Kn 100) (Tm 46) 3, Bo 48 .add 3 (Tm 47) (Kn 150) 3, Cl 49 8 #[Tm 43, Tm 48] #[3, 3], Oo 50 (.indexAddr 22 (Tm 2) (Kn 4)), Ld 51 5 50, Oo 52 (.convert 5 3 (Tm 51)), Bo 53 .mul 3 (Kn 4) (Tm 52) 3, Oo 54 (.indexAddr 22 (Tm 2) (Kn 4)), Ld 55 5 54, Oo 56 (.convert 5 3 (Tm 55)), Bo 57 .mul 3 (Kn 4) (Tm 56) 3, Bo 58 .add 3 (Tm 57) (Kn 20) 3, Cl 59 8 #[Tm 53, Tm 58] #[3, 3], Oo 60 (.build 28 #[(0, (Tm 29)), (1, (Tm 34)), (2, (Tm 39)), (3, (Tm 49)), (4, (Tm 59))]), Oo 5 (.alloc 28), Sr 28 (Tm 5) (Tm 60)]) (.seq (R0 [Oo 61 (.indexAddr 22 (Tm 2) (Kn 5)), Ld 62 5 61, Oo 63 (.convert 5 3 (Tm 62)), Bo 64 .add 3 (Kn 50) (Tm 63) 3, Oo 65 (.build 30 #[(0, (Kn 120)), (1, (Kn 80)), (2, (Kn 14)), (4, (Tm 64)), (5, (Kn 5000000))]), Oo 6 (.alloc 30), Sr 30 (Tm 6) (Tm 65)]) (.seq (R0 [Oo 66 (.build 32 #[(1, (Kn 1000))]), Oo 67 (.indexAddr 23 (Tm 3) (Kn 0)), Ld 68 5 67, Oo 69 (.convert 5 3 (Tm 68)), Bo 70 .rem 3 (Tm 69) (Kn 30) 3, Bo 71 .add 3 (Kn 1) (Tm 70) 3, Oo 72 (.build 32 #[(0, (Tm 71)), (1, (Kn 800))]), Oo 73 (.build 32 #[(0, (Kn 40)), (1, (Kn 500))]), Oo 74 (.buildSlice 33 3 #[(0, (Tm 66)), (1, (Tm 72)), (2, (Tm 73))]), Sg 7 74]) (.seq (R0 [Ld 76 30 6, Ld 77 28 5, Cl 78 9 #[Tm 76, Tm 77] #[30, 28], Mv 75 78, Xt 79 75 0, Xt 80 75 1, Sg 8 79, Sg 9 80]) (.seq (R1 [Ld 82 30 6, Ld 83 28 5, Mv 84 8, Cl 85 11 #[Tm 84] #[34], Mv 86 7, Cl 87 12 #[Tm 86] #[33], Oo 88 (.indexAddr 23 (Tm 3) (Kn 1)), Ld 89 5 88, Oo 90 (.convert 5 3 (Tm 89)), Bo 91 .rem 3 (Tm 90) (Kn 60) 3, Cl 92 10 #[Tm 82, Tm 83, Tm 85, Tm 87, Tm 91] #[30, 28, 34, 33, 3], Mv 81 92, Xt 93 81 0, Xt 94 81 1, Sg 10 93, Sg 11 94]) (.seq (.seq (R0 [Mv 95 9, Bo 96 .neq 35 (Tm 95) (Kn 0) 35, Mv 97 96, Gm 98 11 97 false, Gb 99 .neq 35 (Tm 98) (Kn 0) 35 97 false, Gm 100 99 97 false, Gm 101 11 100 true, Gb 102 .neq 35 (Tm 101) (Kn 7) 35 100 true, Gm 103 102 100 true, Gm 104 8 103 false, Og 105 (.call { callee := .builtin .len, args := #[Tm 104], argTypes := #[34] }) 103 false, Gb 106 .neq 3 (Tm 105) (Kn 0) 3 103 false, Og 107 (.pick (Tm 103) (Kb true) (Tm 106)) 100 true, Og 108 (.pick (Tm 100) (Tm 107) (Kb false)) 97 false, Pk 109 97 (Kb true) (Tm 108), Mv 110 109, Gm 111 10 110 false, Gb 112 .lss 3 (Tm 111) (Kn 0) 3 110 false, Pk 113 110 (Kb true) (Tm 112), Mv 114 113, Gm 115 10 114 false, Gb 116 .gtr 3 (Tm 115) (Kn 30) 3 114 false, Pk 117 114 (Kb true) (Tm 116)]) (.cond (Tm 117) (.seq (R0 [Sk 4 (Kb false)]) .ret) .skip)) (.seq (.seq (R0 [Mv 118 10, Bo 119 .lss 3 (Tm 118) (Kn 1) 3]) (.cond (Tm 119) (.seq (R0 [Cl 120 13 #[] #[], Mv 121 120, Gc 122 14 #[] #[] 121 true, Pk 123 121 (Tm 122) (Kb false), Sg 4 123]) .ret) .skip)) (.seq (R0 [Oo 124 (.buildSlice 43 0 #[]), Sg 12 124]) (.seq (.seq (R0 [Sk 13 (Kn 0)]) (.block 0 (.loop (.seq (.seq (R0 [Mv 125 13, Mv 126 10, Bo 127 .lss 3 (Tm 125) (Tm 126) 3]) (.cond (Tm 127) .skip (.exit 0))) (.seq (.block 1 (R1 [Mv 130 12, Fa 131 28 5 4, Ld 132 25 131, Fa 133 28 5 3, Fa 134 25 133 0, Ld 135 3 134, Bo 136 .add 3 (Tm 135) (Kn 99) 3, Bo 137 .quo 3 (Tm 136) (Kn 100) 3, Fa 138 28 5 3, Fa 139 25 138 1, Ld 140 3 139, Bo 141 .add 3 (Tm 140) (Kn 99) 3, Bo 142 .quo 3 (Tm 141) (Kn 100) 3, Cl 143 8 #[Tm 137, Tm 142] #[3, 3], Oo 144 (.build 45 #[(0, (Tm 132)), (1, (Tm 143))]), Oo 145 (.buildSlice 43 1 #[(0, (Tm 144))]), Oo 146 (.call { callee := .builtin .append, args := #[Tm 130, Tm 145], argTypes := #[43, 43] }), Sg 12 146])) (R0 [Mv 128 13, Bo 129 .add 3 (Tm 128) (Kn 1) 3, Sg 13 129])))))) (.seq (R0 [Mv 148 12, Cl 149 16 #[Tm 148] #[43], Cl 150 15 #[Tm 149] #[43], Mv 147 150, Xt 151 147 0, Xt 152 147 1, Sg 14 151, Sg 15 152]) (.seq (R1 [Mv 154 12, Cl 155 16 #[Tm 154] #[43], Mv 156 7, Cl 157 12 #[Tm 156] #[33], Oo 158 (.indexAddr 23 (Tm 3) (Kn 1)), Ld 159 5 158, Oo 160 (.convert 5 3 (Tm 159)), Bo 161 .rem 3 (Tm 160) (Kn 60) 3, Cl 162 17 #[Tm 155, Tm 157, Tm 161] #[43, 33, 3], Mv 153 162, Xt 163 153 0, Xt 164 153 1, Xt 165 153 2, Sg 16 163, Sg 17 164, Sg 18 165]) (.seq (R0 [Mv 167 12, Cl 168 16 #[Tm 167] #[43], Mv 169 7, Cl 170 12 #[Tm 169] #[33], Cl 171 17 #[Tm 168, Tm 170, Kn 10000] #[43, 33, 3], Mv 166 171, Xt 172 166 0, Xt 173 166 1, Xt 174 166 2, Sg 19 172, Sg 20 173, Sg 21 174]) (.seq (R0 [Mv 176 12, Oo 177 (.slice 43 (Tm 176) (some (Kn 1)) none none), Cl 178 16 #[Tm 177] #[43], Mv 179 7, Cl 180 17 #[Tm 178, Tm 179, Kn 10000] #[43, 33, 3], Mv 175 180, Xt 181 175 0, Xt 182 175 1, Xt 183 175 2, Sg 22 181, Sg 23 182, Sg 24 183]) (.seq (.seq (R1 [Mv 184 15, Bo 185 .neq 35 (Tm 184) (Kn 0) 35, Mv 186 185, Gm 187 18 186 false, Gb 188 .neq 35 (Tm 187) (Kn 7) 35 186 false, Pk 189 186 (Kb true) (Tm 188), Mv 190 189, Gm 191 14 190 false, Og 192 (.call { callee := .builtin .len, args := #[Tm 191], argTypes := #[46] }) 190 false, Gm 193 10 190 false, Gb 194 .neq 3 (Tm 192) (Tm 193) 3 190 false, Pk 195 190 (Kb true) (Tm 194), Mv 196 195, Gm 197 14 196 false, Og 198 (.indexAddr 46 (Tm 197) (Kn 0)) 196 false, Gf 199 25 198 1 196 false, Gl 200 3 199 196 false, Gm 201 10 196 false, Gb 202 .sub 3 (Tm 201) (Kn 1) 3 196 false, Gm 203 12 196 false, Og 204 (.indexAddr 43 (Tm 203) (Kn 0)) 196 false, Gf 205 45 204 1 196 false, Gf 206 25 205 1 196 false, Gl 207 3 206 196 false, Gb 208 .mul 3 (Tm 202) (Tm 207) 3 196 false, Gb 209 .neq 3 (Tm 200) (Tm 208) 3 196 false, Pk 210 196 (Kb true) (Tm 209), Mv 211 210, Gm 212 21 211 false, Gb 213 .neq 35 (Tm 212) (Kn 0) 35 211 false, Gm 214 213 211 false, Gm 215 21 214 true, Gb 216 .neq 35 (Tm 215) (Kn 7) 35 214 true, Og 217 (.pick (Tm 214) (Tm 216) (Kb false)) 211 false, Pk 218 211 (Kb true) (Tm 217), Mv 219 218, Gm 220 24 219 false, Gb 221 .neq 35 (Tm 220) (Kn 0) 35 219 false, Gm 222 221 219 false, Gm 223 24 222 true, Gb 224 .neq 35 (Tm 223) (Kn 7) 35 222 true, Og 225 (.pick (Tm 222) (Tm 224) (Kb false)) 219 false, Pk 226 219 (Kb true) (Tm 225)]) (.cond (Tm 226) (.seq (R0 [Sk 4 (Kb false)]) .ret) .skip)) (.seq (R0 [Mv 227 21, Bo 228 .neq 35 (Tm 227) (Kn 0) 35, Mv 229 228, Gm 230 19 229 false, Og 231 (.indexAddr 23 (Tm 3) (Kn 1)) 229 false, Gl 232 5 231 229 false, Og 233 (.convert 5 3 (Tm 232)) 229 false, Gb 234 .rem 3 (Tm 233) (Kn 60) 3 229 false, Gb 235 .gtr 3 (Tm 230) (Tm 234) 3 229 false, Pk 236 229 (Kb true) (Tm 235), Mv 237 236, Gm 238 24 237 true, Gb 239 .eql 35 (Tm 238) (Kn 7) 35 237 true, Gm 240 239 237 true, Gm 241 21 240 false, Gb 242 .eql 35 (Tm 241) (Kn 0) 35 240 false, Gm 243 242 240 false, Gm 244 22 243 true, Gm 245 19 243 true, Gb 246 .geq 3 (Tm 244) (Tm 245) 3 243 true, Og 247 (.pick (Tm 243) (Tm 246) (Kb false)) 240 false, Og 248 (.pick (Tm 240) (Kb true) (Tm 247)) 237 true, Pk 249 237 (Tm 248) (Kb false), Mv 250 249, Gc 251 13 #[] #[] 250 true, Pk 252 250 (Tm 251) (Kb false), Mv 253 252, Gc 254 14 #[] #[] 253 true, Pk 255 253 (Tm 254) (Kb false), Sg 4 255]) .ret))))))))))))))))⟩
theorem hb3 : hasBody Try.prog 3 = true := by kernel_rfl
def s4 : SF := ⟨231, [.tmp 6], (.seq (R0 [Oo 3 (.box 53 (Tm 0)), Oo 4 (.box 53 (Tm 1)), Oo 5 (.box 54 (Tm 2)), Sk 6 (Kb false)]) (.seq (R0 [Oo 23 (.indexAddr 53 (Tm 4) (Kn 0)), Ld 24 5 23, Oo 25 (.convert 5 3 (Tm 24)), Bo 26 .add 3 (Kn 1) (Tm 25) 3, Oo 27 (.indexAddr 53 (Tm 4) (Kn 1)), Ld 28 5 27, Oo 29 (.convert 5 3 (Tm 28)), Bo 30 .rem 3 (Tm 29) (Kn 21) 3, Oo 31 (.indexAddr 53 (Tm 4) (Kn 2)), Ld 32 5 31, Oo 33 (.convert 5 3 (Tm 32)), Bo 34 .rem 3 (Tm 33) (Kn 21) 3, Oo 35 (.build 56 #[(0, (Tm 26)), (1, (Tm 30)), (2, (Tm 34))]), Oo 7 (.alloc 56), Sr 56 (Tm 7) (Tm 35)]) (.seq (R1 [Oo 36 (.indexAddr 54 (Tm 5) (Kn 0)), Ld 37 5 36, Oo 38 (.convert 5 3 (Tm 37)), Bo 39 .rem 3 (Tm 38) (Kn 20) 3, Oo 40 (.indexAddr 54 (Tm 5) (Kn 0)), Ld 41 5 40, Oo 42 (.convert 5 3 (Tm 41)), Bo 43 .rem 3 (Tm 42) (Kn 20) 3, Oo 44 (.indexAddr 54 (Tm 5) (Kn 1)), Ld 45 5 44, Oo 46 (.convert 5 3 (Tm 45)), Bo 47 .rem 3 (Tm 46) (Kn 11) 3, Bo 48 .add 3 (Tm 43) (Tm 47) 3, Cl 49 8 #[Tm 39, Tm 48] #[3, 3], Oo 50 (.indexAddr 54 (Tm 5) (Kn 2)), Ld 51 5 50, Oo 52 (.convert 5 3 (Tm 51)), Bo 53 .rem 3 (Tm 52) (Kn 60) 3, Oo 54 (.indexAddr 54 (Tm 5) (Kn 2)), Ld 55 5 54, Oo 56 (.convert 5 3 (Tm 55)), Bo 57 .rem 3 (Tm 56) (Kn 60) 3, Oo 58 (.indexAddr 54 (Tm 5) (Kn 3)), Ld 59 5 58, Oo 60 (.convert 5 3 (Tm 59)), Bo 61 .rem 3 (Tm 60) (Kn 41) 3, Bo 62 .add 3 (Tm 57) (Tm 61) 3, Cl 63 8 #[Tm 53, Tm 62] #[3, 3], Oo 64 (.build 58 #[(0, (Tm 49)), (1, (Tm 63))]), Oo 8 (.alloc 58), Sr 58 (Tm 8) (Tm 64)]) (.seq (R0 [Ld 66 56 7, Ld 67 58 8, Cl 68 18 #[Tm 66, Tm 67] #[56, 58], Mv 65 68, Xt 69 65 0, Xt 70 65 1, Oo 9 (.alloc 25), Sr 25 (Tm 9) (Tm 69), Sg 10 70]) (.seq (.seq (R0 [Mv 71 10, Bo 72 .neq 35 (Tm 71) (Kn 0) 35, Mv 73 72, Gf 74 25 9 0 73 false, Gl 75 3 74 73 false, Gb 76 .lss 3 (Tm 75) (Kn 1) 3 73 false, Pk 77 73 (Kb true) (Tm 76), Mv 78 77, Gf 79 25 9 0 78 false, Gl 80 3 79 78 false, Gf 81 25 9 1 78 false, Gl 82 3 81 78 false, Gb 83 .gtr 3 (Tm 80) (Tm 82) 3 78 false, Pk 84 78 (Kb true) (Tm 83), Mv 85 84, Gf 86 25 9 1 85 false, Gl 87 3 86 85 false, Gb 88 .gtr 3 (Tm 87) (Kn 2400) 3 85 false, Pk 89 85 (Kb true) (Tm 88)]) (.cond (Tm 89) (.seq (R0 [Sk 6 (Kb false)]) .ret) .skip)) (.seq (R0 [Ld 91 56 7, Ld 92 58 8, Ld 93 58 8, Ld 94 58 8, Oo 95 (.buildSlice 64 3 #[(0, (Tm 92)), (1, (Tm 93)), (2, (Tm 94))]), Fa 96 25 9 1, Ld 97 3 96, Fa 98 25 9 0, Ld 99 3 98, Bo 100 .sub 3 (Tm 99) (Kn 1) 3, Fa 101 25 9 0, Ld 102 3 101, Oo 103 (.buildSlice 61 3 #[(0, (Tm 97)), (1, (Tm 100)), (2, (Tm 102))]), Cl 104 19 #[Tm 91, Tm 95, Tm 103] #[56, 64, 61], Mv 90 104, Xt 105 90 0, Xt 106 90 1, Xt 107 90 2, Sg 11 105, Sg 12 106, Sg 13 107]) (.seq (.seq (R0 [Mv 108 13, Bo 109 .neq 35 (Tm 108) (Kn 0) 35, Mv 110 109, Gm 111 11 110 false, Og 112 (.buildSlice 61 1 #[(0, (Kn 1))]) 110 false, Gc 113 20 #[Tm 111, Tm 112] #[61, 61] 110 false, Og 114 (.unOp .not 4 (Tm 113)) 110 false, Pk 115 110 (Kb true) (Tm 114), Mv 116 115, Gm 117 12 116 false, Og 118 (.call { callee := .builtin .len, args := #[Tm 117], argTypes := #[61] }) 116 false, Gb 119 .lss 3 (Tm 118) (Kn 1) 3 116 false, Pk 120 116 (Kb true) (Tm 119), Mv 121 120, Gm 122 12 121 false, Og 123 (.indexAddr 61 (Tm 122) (Kn 0)) 121 false, Gl 124 3 123 121 false, Gb 125 .neq 3 (Tm 124) (Kn 1) 3 121 false, Pk 126 121 (Kb true) (Tm 125), Mv 127 126, Gm 128 12 127 false, Og 129 (.call { callee := .builtin .len, args := #[Tm 128], argTypes := #[61] }) 127 false, Gb 130 .gtr 3 (Tm 129) (Kn 2) 3 127 false, Pk 131 127 (Kb true) (Tm 130), Mv 132 131, Gm 133 12 132 false, Og 134 (.call { callee := .builtin .len, args := #[Tm 133], argTypes := #[61] }) 132 false, Gb 135 .eql 3 (Tm 134) (Kn 2) 3 132 false, Gf 136 25 9 0 132 false, Gl 137 3 136 132 false, Gf 138 25 9 1 132 false, Gl 139 3 138 132 false, Gb 140 .lss 3 (Tm 137) (Tm 139) 3 132 false, Gb 141 .neq 4 (Tm 135) (Tm 140) 4 132 false, Pk 142 132 (Kb true) (Tm 141)]) (.cond (Tm 142) (.seq (R0 [Sk 6 (Kb false)]) .ret) .skip)) (.seq (R1 [Oo 143 (.indexAddr 53 (Tm 3) (Kn 0)), Ld 144 5 143, Oo 145 (.convert 5 3 (Tm 144)), Bo 146 .mul 3 (Kn 100) (Tm 145) 3, Oo 147 (.indexAddr 53 (Tm 3) (Kn 0)), Ld 148 5 147, Oo 149 (.convert 5 3 (Tm 148)), Bo 150 .mul 3 (Kn 100) (Tm 149) 3, Bo 151 .add 3 (Tm 150) (Kn 99) 3, Cl 152 8 #[Tm 146, Tm 151] #[3, 3], Oo 153 (.indexAddr 53 (Tm 3) (Kn 1)), Ld 154 5 153, Oo 155 (.convert 5 3 (Tm 154)), Bo 156 .mul 3 (Kn 3) (Tm 155) 3, Oo 157 (.indexAddr 53 (Tm 3) (Kn 1)), Ld 158 5 157, Oo 159 (.convert 5 3 (Tm 158)), Bo 160 .mul 3 (Kn 3) (Tm 159) 3, Bo 161 .add 3 (Tm 160) (Kn 9) 3, Cl 162 8 #[Tm 156, Tm 161] #[3, 3], Oo 163 (.build 28 #[(0, (Kn 40)), (1, (Kn 30)), (2, (Kn 20)), (3, (Tm 152)), (4, (Tm 162))]), Oo 14 (.alloc 28), Sr 28 (Tm 14) (Tm 163)]) (.seq (R0 [Oo 164 (.indexAddr 53 (Tm 3) (Kn 2)), Ld 165 5 164, Oo 166 (.convert 5 3 (Tm 165)), Bo 167 .add 3 (Kn 60) (Tm 166) 3, Oo 168 (.build 30 #[(0, (Kn 120)), (1, (Kn 80)), (2, (Kn 14)), (4, (Tm 167)), (5, (Kn 5000000))]), Oo 15 (.alloc 30), Sr 30 (Tm 15) (Tm 168)]) (.seq (R0 [Ld 170 30 15, Ld 171 28 14, Oo 172 (.build 67 #[]), Oo 173 (.buildSlice 34 1 #[(0, (Tm 172))]), Oo 174 (.build 32 #[(1, (Kn 700))]), Oo 175 (.buildSlice 33 1 #[(0, (Tm 174))]), Cl 176 10 #[Tm 170, Tm 171, Tm 173, Tm 175, Kn 1] #[30, 28, 34, 33, 3], Mv 169 176, Xt 177 169 0, Xt 178 169 1, Sg 16 177, Sg 17 178]) (.seq (.seq (R0 [Mv 179 17, Bo 180 .neq 35 (Tm 179) (Kn 0) 35, Mv 181 180, Gm 182 16 181 false, Gb 183 .lss 3 (Tm 182) (Kn 0) 3 181 false, Pk 184 181 (Kb true) (Tm 183), Mv 185 184, Gm 186 16 185 false, Gb 187 .gtr 3 (Tm 186) (Kn 30) 3 185 false, Pk 188 185 (Kb true) (Tm 187)]) (.cond (Tm 188) (.seq (R0 [Sk 6 (Kb false)]) .ret) .skip)) (.seq (R0 [Oo 189 (.buildSlice 43 0 #[]), Sg 18 189]) (.seq (.seq (R0 [Sk 19 (Kn 0)]) (.block 0 (.loop (.seq (.seq (R0 [Mv 190 19, Mv 191 16, Bo 192 .lss 3 (Tm 190) (Tm 191) 3]) (.cond (Tm 192) .skip (.exit 0))) (.seq (.block 1 (R1 [Mv 195 18, Fa 196 28 14 4, Ld 197 25 196, Fa 198 28 14 3, Fa 199 25 198 0, Ld 200 3 199, Bo 201 .add 3 (Tm 200) (Kn 99) 3, Bo 202 .quo 3 (Tm 201) (Kn 100) 3, Fa 203 28 14 3, Fa 204 25 203 1, Ld 205 3 204, Bo 206 .add 3 (Tm 205) (Kn 99) 3, Bo 207 .quo 3 (Tm 206) (Kn 100) 3, Cl 208 8 #[Tm 202, Tm 207] #[3, 3], Oo 209 (.build 45 #[(0, (Tm 197)), (1, (Tm 208))]), Oo 210 (.buildSlice 43 1 #[(0, (Tm 209))]), Oo 211 (.call { callee := .builtin .append, args := #[Tm 195, Tm 210], argTypes := #[43, 43] }), Sg 18 211])) (R0 [Mv 193 19, Bo 194 .add 3 (Tm 193) (Kn 1) 3, Sg 19 194])))))) (.seq (R0 [Mv 213 18, Oo 214 (.build 32 #[(1, (Kn 700))]), Oo 215 (.buildSlice 33 1 #[(0, (Tm 214))]), Cl 216 17 #[Tm 213, Tm 215, Kn 1] #[43, 33, 3], Mv 212 216, Xt 217 212 0, Xt 218 212 1, Xt 219 212 2, Sg 20 217, Sg 21 218, Sg 22 219]) (.seq (R0 [Mv 220 22, Bo 221 .eql 35 (Tm 220) (Kn 7) 35, Mv 222 221, Gc 223 21 #[] #[] 222 true, Pk 224 222 (Tm 223) (Kb false), Mv 225 224, Gc 226 13 #[] #[] 225 true, Pk 227 225 (Tm 226) (Kb false), Mv 228 227, Gc 229 14 #[] #[] 228 true, Pk 230 228 (Tm 229) (Kb false), Sg 6 230]) .ret)))))))))))))))⟩
def o5_0 : SO := (Oo 103 (.buildSlice 34 0 #[]))
def o5_1 : SO := (Mv 104 10)
def o5_2 : SO := (Oo 105 (.call { callee := .builtin .append, args := #[Tm 103, Tm 104], argTypes := #[34, 34] }))
def o5_3 : SO := (Oo 106 (.buildSlice 33 0 #[]))
def o5_4 : SO := (Mv 107 9)
def o5_5 : SO := (Oo 108 (.call { callee := .builtin .append, args := #[Tm 106, Tm 107], argTypes := #[33, 33] }))
def o5_6 : SO := (Ld 101 30 7)
def o5_7 : SO := (Ld 102 28 8)
def o5_8 : SO := (Mv 109 1)
def o5_9 : SO := (Oo 110 (.convert 5 3 (Tm 109)))
def o5_10 : SO := (Cl 111 10 #[Tm 101, Tm 102, Tm 105, Tm 108, Tm 110] #[30, 28, 34, 33, 3])
def o5_11 : SO := (Mv 100 111)
def o5_12 : SO := (Xt 112 100 0)
def o5_13 : SO := (Xt 113 100 1)
def o5_14 : SO := (Sg 12 112)
def o5_15 : SO := (Sg 13 113)
def s5 : SF := ⟨224, [.tmp 6], (.seq (R0 [Oo 3 (.box 69 (Tm 0)), Sk 6 (Kb false)]) (.seq (R0 [Oo 25 (.indexAddr 69 (Tm 3) (Kn 0)), Ld 26 5 25, Oo 27 (.convert 5 3 (Tm 26)), Bo 28 .rem 3 (Tm 27) (Kn 80) 3, Bo 29 .add 3 (Kn 40) (Tm 28) 3, Oo 30 (.indexAddr 69 (Tm 3) (Kn 1)), Ld 31 5 30, Oo 32 (.convert 5 3 (Tm 31)), Bo 33 .rem 3 (Tm 32) (Kn 80) 3, Bo 34 .add 3 (Kn 40) (Tm 33) 3, Oo 35 (.indexAddr 69 (Tm 3) (Kn 2)), Ld 36 5 35, Oo 37 (.convert 5 3 (Tm 36)), Bo 38 .add 3 (Kn 60) (Tm 37) 3, Oo 39 (.indexAddr 69 (Tm 3) (Kn 3)), Ld 40 5 39, Oo 41 (.convert 5 3 (Tm 40)), Bo 42 .mul 3 (Kn 2000) (Tm 41) 3, Oo 43 (.build 30 #[(0, (Tm 29)), (1, (Tm 34)), (2, (Kn 12)), (4, (Tm 38)), (5, (Tm 42))]), Oo 7 (.alloc 30), Sr 30 (Tm 7) (Tm 43)]) (.seq (R1 [Oo 44 (.indexAddr 69 (Tm 3) (Kn 4)), Ld 45 5 44, Oo 46 (.convert 5 3 (Tm 45)), Bo 47 .rem 3 (Tm 46) (Kn 30) 3, Bo 48 .add 3 (Kn 15) (Tm 47) 3, Oo 49 (.indexAddr 69 (Tm 3) (Kn 5)), Ld 50 5 49, Oo 51 (.convert 5 3 (Tm 50)), Bo 52 .rem 3 (Tm 51) (Kn 30) 3, Bo 53 .add 3 (Kn 12) (Tm 52) 3, Oo 54 (.indexAddr 69 (Tm 3) (Kn 4)), Ld 55 5 54, Oo 56 (.convert 5 3 (Tm 55)), Bo 57 .rem 3 (Tm 56) (Kn 20) 3, Bo 58 .add 3 (Kn 10) (Tm 57) 3, Oo 59 (.indexAddr 69 (Tm 3) (Kn 6)), Ld 60 5 59, Oo 61 (.convert 5 3 (Tm 60)), Bo 62 .mul 3 (Kn 50) (Tm 61) 3, Oo 63 (.indexAddr 69 (Tm 3) (Kn 6)), Ld 64 5 63, Oo 65 (.convert 5 3 (Tm 64)), Bo 66 .mul 3 (Kn 50) (Tm 65) 3, Bo 67 .add 3 (Tm 66) (Kn 9) 3, Cl 68 22 #[Tm 62, Tm 67] #[3, 3], Oo 69 (.indexAddr 69 (Tm 3) (Kn 5)), Ld 70 5 69, Oo 71 (.convert 5 3 (Tm 70)), Bo 72 .mul 3 (Kn 20) (Tm 71) 3, Oo 73 (.indexAddr 69 (Tm 3) (Kn 5)), Ld 74 5 73, Oo 75 (.convert 5 3 (Tm 74)), Bo 76 .mul 3 (Kn 20) (Tm 75) 3, Bo 77 .add 3 (Tm 76) (Kn 5) 3, Cl 78 22 #[Tm 72, Tm 77] #[3, 3], Oo 79 (.build 28 #[(0, (Tm 48)), (1, (Tm 53)), (2, (Tm 58)), (3, (Tm 68)), (4, (Tm 78))]), Oo 8 (.alloc 28), Sr 28 (Tm 8) (Tm 79)]) (.seq (R0 [Oo 80 (.build 32 #[(1, (Kn 1000))]), Oo 81 (.build 32 #[(0, (Kn 20)), (1, (Kn 600))]), Oo 82 (.buildSlice 33 2 #[(0, (Tm 80)), (1, (Tm 81))]), Sg 9 82]) (.seq (R0 [Ld 84 30 7, Ld 85 28 8, Cl 86 9 #[Tm 84, Tm 85] #[30, 28], Mv 83 86, Xt 87 83 0, Xt 88 83 1, Sg 10 87, Sg 11 88]) (.seq (.seq (R0 [Mv 89 11, Bo 90 .neq 35 (Tm 89) (Kn 0) 35, Mv 91 90, Gm 92 10 91 false, Og 93 (.call { callee := .builtin .len, args := #[Tm 92], argTypes := #[34] }) 91 false, Gb 94 .gtr 3 (Tm 93) (Kn 200) 3 91 false, Pk 95 91 (Kb true) (Tm 94)]) (.cond (Tm 95) (.seq (R0 [Sk 6 (Kb false)]) .ret) .skip)) (.seq (.seq (R0 [Mv 96 10, Lq 97 96 34, Bo 98 .eql 3 (Tm 97) (Kn 0) 3]) (.cond (Tm 98) (.seq (R0 [Cl 99 23 #[] #[], Sg 6 99]) .ret) .skip)) (.seq (.ord (.op o5_0 (.op o5_1 (.app o5_2 [7, 8, 9, 1, 109] [101, 102, 106, 107, 109, 110] (.op o5_3 (.op o5_4 (.app o5_5 [7, 8, 1, 109] [101, 102, 109, 110] (.op o5_6 (.op o5_7 (.op o5_8 (.op o5_9 (.op o5_10 (.op o5_11 (.op o5_12 (.op o5_13 (.op o5_14 (.op o5_15 .done))))))))))))))))) (.seq (.seq (R0 [Mv 114 13, Bo 115 .neq 35 (Tm 114) (Kn 0) 35, Mv 116 115, Gm 117 12 116 false, Gb 118 .lss 3 (Tm 117) (Kn 0) 3 116 false, Pk 119 116 (Kb true) (Tm 118), Mv 120 119, Gm 121 12 120 false, Gb 122 .gtr 3 (Tm 121) (Kn 30) 3 120 false, Pk 123 120 (Kb true) (Tm 122)]) (.cond (Tm 123) (.seq (R0 [Sk 6 (Kb false)]) .ret) .skip)) (.seq (R0 [Mv 124 12, Mv 125 10, Lq 126 125 34, Bo 127 .mul 3 (Tm 124) (Tm 126) 3, Sg 14 127]) (.seq (.seq (R0 [Mv 128 14, Bo 129 .eql 3 (Tm 128) (Kn 0) 3]) (.cond (Tm 129) (.seq (R0 [Cl 130 23 #[] #[], Sg 6 130]) .ret) .skip)) (.seq (R0 [Mv 131 2, Oo 132 (.convert 70 3 (Tm 131)), Bo 133 .add 3 (Kn 1) (Tm 132) 3, Sg 15 133]) (.seq (R0 [Mv 135 14, Oo 136 (.build 77 #[(0, (Kn 1)), (5, (Kn 1)), (7, (Tm 135)), (8, (Kn 77))]), Mv 137 15, Cl 138 24 #[Tm 136, Tm 137] #[77, 3], Mv 134 138, Xt 139 134 0, Xt 140 134 1, Xt 141 134 2, Oo 16 (.alloc 72), Sr 72 (Tm 16) (Tm 139), Sg 17 140, Sg 18 141]) (.seq (.seq (R0 [Mv 142 18, Bo 143 .neq 35 (Tm 142) (Kn 0) 35, Mv 144 143, Gf 145 72 16 4 144 false, Gl 146 3 145 144 false, Gb 147 .rem 3 (Tm 146) (Kn 77) 3 144 false, Gb 148 .neq 3 (Tm 147) (Kn 0) 3 144 false, Pk 149 144 (Kb true) (Tm 148)]) (.cond (Tm 149) (.seq (R0 [Sk 6 (Kb false)]) .ret) .skip)) (.seq (R0 [Fa 150 72 16 4, Ld 151 3 150, Bo 152 .quo 3 (Tm 151) (Kn 77) 3, Oo 153 (.buildSlice 43 0 #[]), Sg 19 152, Sg 20 153]) (.seq (.seq (R0 [Sk 21 (Kn 0)]) (.block 0 (.loop (.seq (.seq (R0 [Mv 154 21, Mv 155 12, Bo 156 .lss 3 (Tm 154) (Tm 155) 3]) (.cond (Tm 156) .skip (.exit 0))) (.seq (.block 1 (R1 [Mv 159 20, Fa 160 28 8 4, Ld 161 25 160, Fa 162 28 8 3, Fa 163 25 162 0, Ld 164 3 163, Bo 165 .add 3 (Tm 164) (Kn 99) 3, Bo 166 .quo 3 (Tm 165) (Kn 100) 3, Fa 167 28 8 3, Fa 168 25 167 1, Ld 169 3 168, Bo 170 .add 3 (Tm 169) (Kn 99) 3, Bo 171 .quo 3 (Tm 170) (Kn 100) 3, Cl 172 22 #[Tm 166, Tm 171] #[3, 3], Oo 173 (.build 45 #[(0, (Tm 161)), (1, (Tm 172))]), Oo 174 (.buildSlice 43 1 #[(0, (Tm 173))]), Oo 175 (.call { callee := .builtin .append, args := #[Tm 159, Tm 174], argTypes := #[43, 43] }), Sg 20 175])) (R0 [Mv 157 21, Bo 158 .add 3 (Tm 157) (Kn 1) 3, Sg 21 158])))))) (.seq (R0 [Mv 177 20, Mv 178 9, Mv 179 1, Oo 180 (.convert 5 3 (Tm 179)), Cl 181 17 #[Tm 177, Tm 178, Tm 180] #[43, 33, 3], Mv 176 181, Xt 182 176 0, Xt 183 176 1, Xt 184 176 2, Sg 22 182, Sg 23 183, Sg 24 184]) (.seq (R0 [Mv 185 19, Bo 186 .geq 3 (Tm 185) (Kn 1) 3, Mv 187 186, Gm 188 19 187 true, Gm 189 15 187 true, Gb 190 .leq 3 (Tm 188) (Tm 189) 3 187 true, Pk 191 187 (Tm 190) (Kb false), Mv 192 191, Gm 193 19 192 true, Gm 194 14 192 true, Gb 195 .mul 3 (Tm 193) (Tm 194) 3 192 true, Gm 196 15 192 true, Gb 197 .geq 3 (Tm 195) (Tm 196) 3 192 true, Pk 198 192 (Tm 197) (Kb false), Mv 199 198, Gm 200 19 199 true, Gb 201 .sub 3 (Tm 200) (Kn 1) 3 199 true, Gm 202 14 199 true, Gb 203 .mul 3 (Tm 201) (Tm 202) 3 199 true, Gm 204 15 199 true, Gb 205 .lss 3 (Tm 203) (Tm 204) 3 199 true, Pk 206 199 (Tm 205) (Kb false), Mv 207 206, Gm 208 14 207 true, Gf 209 28 8 3 207 true, Gf 210 25 209 1 207 true, Gl 211 3 210 207 true, Gb 212 .mul 3 (Tm 208) (Tm 211) 3 207 true, Gf 213 30 7 5 207 true, Gl 214 3 213 207 true, Gb 215 .leq 3 (Tm 212) (Tm 214) 3 207 true, Pk 216 207 (Tm 215) (Kb false), Mv 217 216, Gm 218 24 217 true, Gb 219 .eql 35 (Tm 218) (Kn 7) 35 217 true, Pk 220 217 (Tm 219) (Kb false), Mv 221 220, Gc 222 23 #[] #[] 221 true, Pk 223 221 (Tm 222) (Kb false), Sg 6 223]) .ret))))))))))))))))))⟩
def o6_0 : SO := (Oo 80 (.buildSlice 92 0 #[]))
def o6_1 : SO := (Mv 81 13)
def o6_2 : SO := (Oo 82 (.call { callee := .builtin .append, args := #[Tm 80, Tm 81], argTypes := #[92, 92] }))
def o6_3 : SO := (Ld 83 25 12)
def o6_4 : SO := (Cl 84 28 #[Tm 82, Tm 83] #[92, 25])
def o6_5 : SO := (Mv 79 84)
def o6_6 : SO := (Xt 85 79 0)
def o6_7 : SO := (Oo 14 (.alloc 25))
def o6_8 : SO := (Xt 86 79 1)
def o6_9 : SO := (Sr 25 (Tm 14) (Tm 85))
def o6_10 : SO := (Sg 15 86)
def s6 : SF := ⟨274, [.tmp 6], (.seq (R0 [Oo 3 (.box 81 (Tm 0)), Oo 4 (.box 54 (Tm 1)), Sk 6 (Kb false)]) (.seq (R0 [Ld 34 81 3, Cl 35 25 #[Tm 34] #[81], Mv 33 35, Xt 36 33 0, Xt 37 33 1, Xt 38 33 2, Oo 7 (.alloc 84), Oo 8 (.alloc 25), Sr 84 (Tm 7) (Tm 36), Sr 25 (Tm 8) (Tm 37), Sg 9 38]) (.seq (R1 [Ld 40 84 7, Ld 41 25 8, Mv 42 9, Cl 43 27 #[Tm 42] #[85], Cl 44 26 #[Tm 40, Tm 41, Tm 43] #[84, 25, 85], Mv 39 44, Xt 45 39 0, Xt 46 39 1, Sg 10 45, Sg 11 46]) (.seq (.seq (R0 [Mv 47 11, Bo 48 .neq 35 (Tm 47) (Kn 0) 35, Mv 49 48, Gm 50 10 49 false, Og 51 (.call { callee := .builtin .len, args := #[Tm 50], argTypes := #[46] }) 49 false, Gm 52 9 49 false, Og 53 (.call { callee := .builtin .len, args := #[Tm 52], argTypes := #[85] }) 49 false, Gb 54 .neq 3 (Tm 51) (Tm 53) 3 49 false, Pk 55 49 (Kb true) (Tm 54)]) (.cond (Tm 55) (.seq (R0 [Sk 6 (Kb false)]) .ret) .skip)) (.seq (R0 [Ld 56 25 8, Oo 12 (.alloc 25), Sr 25 (Tm 12) (Tm 56)]) (.seq (.seq (R0 [Mv 57 10, Lq 58 57 46, Bo 59 .gtr 3 (Tm 58) (Kn 0) 3]) (.cond (Tm 59) (R0 [Mv 60 10, Mv 61 10, Lq 62 61 46, Bo 63 .sub 3 (Tm 62) (Kn 1) 3, Ix 64 46 60 63, Ld 65 25 64, Sr 25 (Tm 12) (Tm 65)]) .skip)) (.seq (R0 [Oo 66 (.build 91 #[(1, (Kn 1000))]), Oo 67 (.indexAddr 54 (Tm 4) (Kn 0)), Ld 68 5 67, Oo 69 (.convert 5 3 (Tm 68)), Bo 70 .rem 3 (Tm 69) (Kn 100) 3, Bo 71 .sub 3 (Kn 900) (Tm 70) 3, Oo 72 (.build 91 #[(0, (Kn 40)), (1, (Tm 71))]), Oo 73 (.indexAddr 54 (Tm 4) (Kn 0)), Ld 74 5 73, Oo 75 (.convert 5 3 (Tm 74)), Bo 76 .sub 3 (Kn 600) (Tm 75) 3, Oo 77 (.build 91 #[(0, (Kn 90)), (1, (Tm 76))]), Oo 78 (.buildSlice 92 3 #[(0, (Tm 66)), (1, (Tm 72)), (2, (Tm 77))]), Sg 13 78]) (.seq (.ord (.op o6_0 (.op o6_1 (.alt (.op o6_2 (.op o6_3 (.op o6_4 (.op o6_5 (.op o6_6 (.op o6_7 (.alt (.op o6_8 (.op o6_9 (.op o6_10 .done))) (.op o6_9 (.op o6_8 (.op o6_10 .done)))))))))) (.alt (.op o6_3 (.alt (.op o6_2 (.op o6_4 (.op o6_5 (.op o6_6 (.op o6_7 (.alt (.op o6_8 (.op o6_9 (.op o6_10 .done))) (.op o6_9 (.op o6_8 (.op o6_10 .done))))))))) (.op o6_7 (.op o6_2 (.op o6_4 (.op o6_5 (.op o6_6 (.alt (.op o6_8 (.op o6_9 (.op o6_10 .done))) (.op o6_9 (.op o6_8 (.op o6_10 .done))))))))))) (.op o6_7 (.alt (.op o6_2 (.op o6_3 (.op o6_4 (.op o6_5 (.op o6_6 (.alt (.op o6_8 (.op o6_9 (.op o6_10 .done))) (.op o6_9 (.op o6_8 (.op o6_10 .done))))))))) (.op o6_3 (.op o6_2 (.op o6_4 (.op o6_5 (.op o6_6 (.alt (.op o6_8 (.op o6_9 (.op o6_10 .done))) (.op o6_9 (.op o6_8 (.op o6_10 .done)))))))))))))))) (.seq (R0 [Ld 87 84 7, Ld 88 25 8, Mv 89 9, Mv 90 2, Cl 91 29 #[Tm 87, Tm 88, Tm 89, Tm 90] #[84, 25, 85, 82], Sg 16 91]) (.seq (R0 [Mv 93 13, Mv 94 16, Mv 95 16, Cl 96 8 #[Tm 94, Tm 95] #[3, 3], Cl 97 28 #[Tm 93, Tm 96] #[92, 25], Mv 92 97, Xt 98 92 0, Xt 99 92 1, Oo 17 (.alloc 25), Sr 25 (Tm 17) (Tm 98), Sg 18 99]) (.seq (.seq (R0 [Mv 100 15, Bo 101 .neq 35 (Tm 100) (Kn 0) 35, Mv 102 101, Gm 103 18 102 false, Gb 104 .neq 35 (Tm 103) (Kn 0) 35 102 false, Pk 105 102 (Kb true) (Tm 104), Mv 106 105, Gm 107 16 106 false, Gl 108 25 12 106 false, Gc 109 30 #[Tm 107, Tm 108] #[3, 25] 106 false, Og 110 (.unOp .not 4 (Tm 109)) 106 false, Pk 111 106 (Kb true) (Tm 110), Mv 112 111, Gf 113 25 17 0 112 false, Gl 114 3 113 112 false, Gf 115 25 17 1 112 false, Gl 116 3 115 112 false, Gb 117 .neq 3 (Tm 114) (Tm 116) 3 112 false, Pk 118 112 (Kb true) (Tm 117), Mv 119 118, Gf 120 25 17 0 119 false, Gl 121 3 120 119 false, Gl 122 25 14 119 false, Gc 123 30 #[Tm 121, Tm 122] #[3, 25] 119 false, Og 124 (.unOp .not 4 (Tm 123)) 119 false, Pk 125 119 (Kb true) (Tm 124), Mv 126 125, Gf 127 25 14 0 126 false, Gl 128 3 127 126 false, Gb 129 .lss 3 (Tm 128) (Kn 0) 3 126 false, Pk 130 126 (Kb true) (Tm 129), Mv 131 130, Gf 132 25 14 1 131 false, Gl 133 3 132 131 false, Gb 134 .gtr 3 (Tm 133) (Kn 1000) 3 131 false, Pk 135 131 (Kb true) (Tm 134)]) (.cond (Tm 135) (.seq (R0 [Sk 6 (Kb false)]) .ret) .skip)) (.seq (R1 [Oo 136 (.indexAddr 54 (Tm 4) (Kn 1)), Ld 137 5 136, Oo 138 (.convert 5 3 (Tm 137)), Bo 139 .mul 3 (Kn 100) (Tm 138) 3, Oo 140 (.indexAddr 54 (Tm 4) (Kn 1)), Ld 141 5 140, Oo 142 (.convert 5 3 (Tm 141)), Bo 143 .mul 3 (Kn 100) (Tm 142) 3, Bo 144 .add 3 (Tm 143) (Kn 50) 3, Cl 145 8 #[Tm 139, Tm 144] #[3, 3], Oo 146 (.indexAddr 54 (Tm 4) (Kn 2)), Ld 147 5 146, Oo 148 (.convert 5 3 (Tm 147)), Bo 149 .mul 3 (Kn 5) (Tm 148) 3, Oo 150 (.indexAddr 54 (Tm 4) (Kn 2)), Ld 151 5 150, Oo 152 (.convert 5 3 (Tm 151)), Bo 153 .mul 3 (Kn 5) (Tm 152) 3, Bo 154 .add 3 (Tm 153) (Kn 9) 3, Cl 155 8 #[Tm 149, Tm 154] #[3, 3], Oo 156 (.build 28 #[(0, (Kn 40)), (1, (Kn 30)), (2, (Kn 10)), (3, (Tm 145)), (4, (Tm 155))]), Oo 19 (.alloc 28), Sr 28 (Tm 19) (Tm 156)]) (.seq (R1 [Fa 157 28 19 4, Ld 158 25 157, Oo 159 (.indexAddr 54 (Tm 4) (Kn 1)), Ld 160 5 159, Oo 161 (.convert 5 3 (Tm 160)), Oo 162 (.indexAddr 54 (Tm 4) (Kn 1)), Ld 163 5 162, Oo 164 (.convert 5 3 (Tm 163)), Bo 165 .add 3 (Tm 164) (Kn 1) 3, Cl 166 8 #[Tm 161, Tm 165] #[3, 3], Oo 167 (.build 45 #[(0, (Tm 158)), (1, (Tm 166))]), Oo 20 (.alloc 45), Sr 45 (Tm 20) (Tm 167)]) (.seq (R0 [Ld 169 45 20, Fa 170 25 14 0, Ld 171 3 170, Oo 172 (.build 32 #[(1, (Tm 171))]), Oo 173 (.buildSlice 33 1 #[(0, (Tm 172))]), Oo 174 (.indexAddr 54 (Tm 4) (Kn 3)), Ld 175 5 174, Oo 176 (.convert 5 3 (Tm 175)), Cl 177 31 #[Tm 169, Tm 173, Tm 176] #[45, 33, 3], Mv 168 177, Xt 178 168 0, Xt 179 168 1, Sg 21 178, Sg 22 179]) (.seq (R0 [Oo 181 (.build 30 #[(0, (Kn 120)), (1, (Kn 80)), (4, (Kn 400)), (5, (Kn 5000000))]), Ld 182 28 19, Oo 183 (.build 67 #[]), Oo 184 (.build 67 #[(0, (Kn 40))]), Oo 185 (.buildSlice 34 2 #[(0, (Tm 183)), (1, (Tm 184))]), Fa 186 25 14 0, Ld 187 3 186, Oo 188 (.build 32 #[(1, (Tm 187))]), Oo 189 (.buildSlice 33 1 #[(0, (Tm 188))]), Oo 190 (.indexAddr 54 (Tm 4) (Kn 3)), Ld 191 5 190, Oo 192 (.convert 5 3 (Tm 191)), Cl 193 10 #[Tm 181, Tm 182, Tm 185, Tm 189, Tm 192] #[30, 28, 34, 33, 3], Mv 180 193, Xt 194 180 0, Xt 195 180 1, Sg 23 194, Sg 24 195]) (.seq (.seq (R0 [Mv 196 22, Bo 197 .neq 35 (Tm 196) (Kn 0) 35, Mv 198 197, Gm 199 24 198 false, Gb 200 .neq 35 (Tm 199) (Kn 0) 35 198 false, Pk 201 198 (Kb true) (Tm 200), Mv 202 201, Gm 203 21 202 false, Gb 204 .lss 3 (Tm 203) (Kn 1) 3 202 false, Pk 205 202 (Kb true) (Tm 204), Mv 206 205, Gm 207 21 206 false, Gb 208 .gtr 3 (Tm 207) (Kn 50) 3 206 false, Pk 209 206 (Kb true) (Tm 208), Mv 210 209, Gm 211 23 210 false, Gm 212 21 210 false, Gb 213 .gtr 3 (Tm 211) (Tm 212) 3 210 false, Pk 214 210 (Kb true) (Tm 213), Mv 215 214, Gm 216 23 215 false, Gb 217 .lss 3 (Tm 216) (Kn 0) 3 215 false, Pk 218 215 (Kb true) (Tm 217)]) (.cond (Tm 218) (.seq (R0 [Sk 6 (Kb false)]) .ret) .skip)) (.seq (R0 [Oo 219 (.buildSlice 43 0 #[]), Sg 25 219]) (.seq (.seq (R0 [Sk 26 (Kn 0)]) (.block 0 (.loop (.seq (.seq (R0 [Mv 220 26, Mv 221 21, Bo 222 .lss 3 (Tm 220) (Tm 221) 3]) (.cond (Tm 222) .skip (.exit 0))) (.seq (.block 1 (R0 [Mv 225 25, Ld 226 45 20, Oo 227 (.buildSlice 43 1 #[(0, (Tm 226))]), Oo 228 (.call { callee := .builtin .append, args := #[Tm 225, Tm 227], argTypes := #[43, 43] }), Sg 25 228])) (R0 [Mv 223 26, Bo 224 .add 3 (Tm 223) (Kn 1) 3, Sg 26 224])))))) (.seq (R1 [Mv 230 25, Cl 231 16 #[Tm 230] #[43], Fa 232 25 17 0, Ld 233 3 232, Oo 234 (.build 32 #[(1, (Tm 233))]), Oo 235 (.buildSlice 33 1 #[(0, (Tm 234))]), Oo 236 (.indexAddr 54 (Tm 4) (Kn 3)), Ld 237 5 236, Oo 238 (.convert 5 3 (Tm 237)), Cl 239 17 #[Tm 231, Tm 235, Tm 238] #[43, 33, 3], Mv 229 239, Xt 240 229 0, Xt 241 229 1, Xt 242 229 2, Sg 27 240, Sg 28 241, Sg 29 242]) (.seq (R1 [Mv 244 25, Mv 245 23, Mv 246 23, Oo 247 (.slice 43 (Tm 244) none (some (Tm 245)) (some (Tm 246))), Fa 248 25 17 0, Ld 249 3 248, Oo 250 (.build 32 #[(1, (Tm 249))]), Oo 251 (.buildSlice 33 1 #[(0, (Tm 250))]), Oo 252 (.indexAddr 54 (Tm 4) (Kn 3)), Ld 253 5 252, Oo 254 (.convert 5 3 (Tm 253)), Cl 255 17 #[Tm 247, Tm 251, Tm 254] #[43, 33, 3], Mv 243 255, Xt 256 243 0, Xt 257 243 1, Xt 258 243 2, Sg 30 256, Sg 31 257, Sg 32 258]) (.seq (R0 [Mv 259 29, Bo 260 .eql 35 (Tm 259) (Kn 7) 35, Mv 261 260, Gm 262 32 261 true, Gb 263 .eql 35 (Tm 262) (Kn 7) 35 261 true, Pk 264 261 (Tm 263) (Kb false), Mv 265 264, Gc 266 32 #[] #[] 265 true, Pk 267 265 (Tm 266) (Kb false), Mv 268 267, Gc 269 13 #[] #[] 268 true, Pk 270 268 (Tm 269) (Kb false), Mv 271 270, Gc 272 14 #[] #[] 271 true, Pk 273 271 (Tm 272) (Kb false), Sg 6 273]) .ret)))))))))))))))))))))⟩
theorem sf6 : sfOf Try.f6 = some s6 := by kernel_rfl
theorem hb6 : hasBody Try.prog 6 = true := by kernel_rfl
def s8 : SF := ⟨8, [.cell 4 25], (.seq (R0 [Oo 4 (.alloc 25)]) (.seq (R0 [Mv 5 0, Mv 6 1, Oo 7 (.build 25 #[(0, (Tm 5)), (1, (Tm 6))]), Sr 25 (Tm 4) (Tm 7)]) .ret))⟩
theorem sf8 : sfOf Try.f8 = some s8 := by kernel_rfl
theorem hb8 : hasBody Try.prog 8 = true := by kernel_rfl
def s10 : SF := ⟨79, [.tmp 10, .tmp 11], (.seq (R0 [Oo 5 (.box 30 (Tm 0)), Oo 6 (.box 28 (Tm 1)), Sk 10 (Kn 0), Sk 11 (Kn 0)]) (.seq (.seq (R0 [Ld 19 30 5, Ld 20 28 6, Mv 21 2, Oo 22 (.buildSlice 216 1 #[(0, (Tm 21))]), Cl 23 45 #[Tm 19, Tm 20, Tm 22] #[30, 28, 216], Mv 18 23, Xt 24 18 0, Xt 25 18 1, Oo 12 (.alloc 123), Sr 123 (Tm 12) (Tm 24), Sg 13 25]) (.seq (R0 [Mv 26 13, Bo 27 .neq 35 (Tm 26) (Kn 0) 35]) (.cond (Tm 27) (.seq (R0 [Mv 28 13, Sk 10 (Kn 0), Sg 11 28]) .ret) .skip))) (.seq (.seq (R0 [Mv 29 2, Lq 30 29 34, Bo 31 .eql 3 (Tm 30) (Kn 0) 3]) (.cond (Tm 31) (.seq (R0 [Sk 10 (Kn 0), Sk 11 (Kn 7)]) .ret) .skip)) (.seq (R1 [Fa 33 28 6 4, Ld 34 25 33, Fa 35 28 6 3, Fa 36 25 35 0, Ld 37 3 36, Cl 38 46 #[Tm 37] #[3], Fa 39 28 6 3, Fa 40 25 39 1, Ld 41 3 40, Cl 42 46 #[Tm 41] #[3], Oo 43 (.build 25 #[(0, (Tm 38)), (1, (Tm 42))]), Oo 44 (.build 45 #[(0, (Tm 34)), (1, (Tm 43))]), Mv 45 3, Mv 46 4, Cl 47 31 #[Tm 44, Tm 45, Tm 46] #[45, 33, 3], Mv 32 47, Xt 48 32 0, Xt 49 32 1, Sg 14 48, Sg 15 49]) (.seq (.seq (R0 [Mv 50 15, Bo 51 .neq 35 (Tm 50) (Kn 0) 35]) (.cond (Tm 51) (.seq (R0 [Mv 52 15, Sk 10 (Kn 0), Sg 11 52]) .ret) .skip)) (.seq (R0 [Mv 53 14, Fa 54 30 5 4, Ld 55 3 54, Fa 56 30 5 2, Ld 57 3 56, Bo 58 .sub 3 (Tm 55) (Tm 57) 3, Oo 59 (.call { callee := .builtin .max, args := #[Kn 0, Tm 58], argTypes := #[3, 3] }), Fa 60 28 6 2, Ld 61 3 60, Bo 62 .quo 3 (Tm 59) (Tm 61) 3, Oo 63 (.call { callee := .builtin .min, args := #[Kn 30, Tm 53, Tm 62], argTypes := #[3, 3, 3] }), Sg 16 63]) (.seq (.seq (R0 [Mv 64 2, Lq 65 64 34, Fa 66 28 6 3, Fa 67 25 66 1, Ld 68 3 67, Bo 69 .mul 3 (Tm 65) (Tm 68) 3, Sg 17 69]) (.seq (R0 [Mv 70 17, Bo 71 .gtr 3 (Tm 70) (Kn 0) 3]) (.cond (Tm 71) (R0 [Mv 72 16, Fa 73 30 5 5, Ld 74 3 73, Mv 75 17, Bo 76 .quo 3 (Tm 74) (Tm 75) 3, Oo 77 (.call { callee := .builtin .min, args := #[Tm 72, Tm 76], argTypes := #[3, 3] }), Sg 16 77]) .skip))) (.seq (R0 [Mv 78 16, Sg 10 78, Sk 11 (Kn 0)]) .ret))))))))⟩
theorem sf10 : sfOf Try.f10 = some s10 := by kernel_rfl
theorem hb10 : hasBody Try.prog 10 = true := by kernel_rfl
def s13 : SF := ⟨38, [.tmp 0], (.seq (R0 [Sk 0 (Kb false)]) (.seq (R0 [Cl 6 8 #[Kn 5000, Kn 6000] #[3, 3], Cl 7 8 #[Kn 4000, Kn 4200] #[3, 3], Oo 8 (.build 135 #[(0, (Tm 6)), (1, (Tm 7)), (2, (Kn 1600)), (3, (Kn 587))]), Cl 9 47 #[Tm 8] #[135], Mv 5 9, Xt 10 5 0, Xt 11 5 1, Oo 1 (.alloc 25), Sr 25 (Tm 1) (Tm 10), Sg 2 11]) (.seq (R0 [Cl 13 8 #[Kn 300, Kn 320] #[3, 3], Cl 14 8 #[Kn 100, Kn 110] #[3, 3], Oo 15 (.build 45 #[(0, (Tm 13)), (1, (Tm 14))]), Oo 16 (.build 32 #[(1, (Kn 1000))]), Oo 17 (.build 32 #[(0, (Kn 10)), (1, (Kn 800))]), Oo 18 (.build 32 #[(0, (Kn 30)), (1, (Kn 600))]), Oo 19 (.buildSlice 33 3 #[(0, (Tm 16)), (1, (Tm 17)), (2, (Tm 18))]), Cl 20 31 #[Tm 15, Tm 19, Kn 10] #[45, 33, 3], Mv 12 20, Xt 21 12 0, Xt 22 12 1, Sg 3 21, Sg 4 22]) (.seq (R1 [Mv 23 2, Bo 24 .eql 35 (Tm 23) (Kn 0) 35, Mv 25 24, Gm 26 4 25 true, Gb 27 .eql 35 (Tm 26) (Kn 0) 35 25 true, Pk 28 25 (Tm 27) (Kb false), Mv 29 28, Gl 30 25 1 29 true, Gc 31 8 #[Kn 74226, Kn 91290] #[3, 3] 29 true, Gb 32 .eql 25 (Tm 30) (Tm 31) 25 29 true, Pk 33 29 (Tm 32) (Kb false), Mv 34 33, Gm 35 3 34 true, Gb 36 .eql 3 (Tm 35) (Kn 3) 3 34 true, Pk 37 34 (Tm 36) (Kb false), Sg 0 37]) .ret))))⟩
theorem sf13 : sfOf Try.f13 = some s13 := by kernel_rfl
theorem hb13 : hasBody Try.prog 13 = true := by kernel_rfl
def s14 : SF := ⟨44, [.tmp 0], (.seq (R0 [Sk 0 (Kb false)]) (.seq (R0 [Oo 8 (.build 30 #[(0, (Kn 120)), (1, (Kn 80)), (2, (Kn 15)), (3, (Kn 5)), (4, (Kn 180)), (5, (Kn 500000))]), Oo 1 (.alloc 30), Sr 30 (Tm 1) (Tm 8)]) (.seq (R0 [Cl 9 8 #[Kn 5000, Kn 6000] #[3, 3], Cl 10 8 #[Kn 900, Kn 1000] #[3, 3], Oo 11 (.build 28 #[(0, (Kn 40)), (1, (Kn 30)), (2, (Kn 25)), (3, (Tm 9)), (4, (Tm 10))]), Oo 2 (.alloc 28), Sr 28 (Tm 2) (Tm 11)]) (.seq (R0 [Ld 13 30 1, Ld 14 28 2, Cl 15 48 #[Tm 13, Tm 14] #[30, 28], Mv 12 15, Xt 16 12 0, Xt 17 12 1, Sg 3 16, Sg 4 17]) (.seq (R0 [Oo 19 (.build 110 #[(0, (Kn 600)), (1, (Kn 100)), (2, (Kn 500)), (3, (Kn 3000000)), (4, (Kn 3000000))]), Cl 20 8 #[Kn 1000000, Kn 1000000] #[3, 3], Oo 21 (.build 108 #[(0, (Kn 120)), (1, (Tm 20))]), Cl 22 8 #[Kn 800000, Kn 900000] #[3, 3], Oo 23 (.build 108 #[(0, (Kn 120)), (1, (Tm 22))]), Oo 24 (.buildSlice 106 2 #[(0, (Tm 21)), (1, (Tm 23))]), Cl 25 38 #[Tm 19, Tm 24] #[110, 106], Mv 18 25, Xt 26 18 0, Xt 27 18 1, Xt 28 18 2, Oo 5 (.alloc 25), Oo 6 (.alloc 25), Sr 25 (Tm 5) (Tm 26), Sr 25 (Tm 6) (Tm 27), Sg 7 28]) (.seq (R1 [Mv 29 4, Bo 30 .eql 35 (Tm 29) (Kn 0) 35, Mv 31 30, Gm 32 7 31 true, Gb 33 .eql 35 (Tm 32) (Kn 0) 35 31 true, Pk 34 31 (Tm 33) (Kb false), Mv 35 34, Gm 36 3 35 true, Gb 37 .eql 3 (Tm 36) (Kn 9) 3 35 true, Pk 38 35 (Tm 37) (Kb false), Mv 39 38, Gl 40 25 6 39 true, Gc 41 8 #[Kn 60000, Kn 80000] #[3, 3] 39 true, Gb 42 .eql 25 (Tm 40) (Tm 41) 25 39 true, Pk 43 39 (Tm 42) (Kb false), Sg 0 43]) .ret))))))⟩
theorem sf14 : sfOf Try.f14 = some s14 := by kernel_rfl
theorem hb14 : hasBody Try.prog 14 = true := by kernel_rfl
def s16 : SF := ⟨6, [.tmp 2], (.seq (R0 [Oo 2 (.assign (.const (.slice none 0 0)))]) (.seq (R0 [Oo 3 (.buildSlice 43 0 #[]), Mv 4 0, Oo 5 (.call { callee := .builtin .append, args := #[Tm 3, Tm 4], argTypes := #[43, 43] }), Sg 2 5]) .ret))⟩
theorem sf16 : sfOf Try.f16 = some s16 := by kernel_rfl
theorem hb16 : hasBody Try.prog 16 = true := by kernel_rfl
end Go.Dw.Seat
end
section
namespace Go.Dw.Seat
open Go Go.Dw Go.Proofs
def s17 : SF := ⟨53, [.tmp 6, .tmp 7, .tmp 8], (.seq (R0 [Sk 6 (Kn 0), Sk 7 (Kn 0), Sk 8 (Kn 0)]) (.seq (.seq (R0 [Mv 15 0, Cl 16 49 #[Tm 15, Kn 50] #[43, 3], Sg 9 16]) (.seq (R0 [Mv 17 9, Bo 18 .neq 35 (Tm 17) (Kn 0) 35]) (.cond (Tm 18) (.seq (R0 [Mv 19 9, Sk 6 (Kn 0), Sk 7 (Kn 0), Sg 8 19]) .ret) .skip))) (.seq (R0 [Mv 21 1, Mv 22 2, Cl 23 51 #[Tm 21, Tm 22] #[33, 3], Mv 20 23, Xt 24 20 0, Xt 25 20 1, Oo 10 (.alloc 142), Sr 142 (Tm 10) (Tm 24), Sg 8 25]) (.seq (.seq (R0 [Mv 26 8, Bo 27 .neq 35 (Tm 26) (Kn 0) 35]) (.cond (Tm 27) (.seq (R0 [Mv 28 8, Sk 6 (Kn 0), Sk 7 (Kn 0), Sg 8 28]) .ret) .skip)) (.seq (.seq (R0 [Fa 29 142 10 0, Ld 30 33 29, Lq 31 30 33, Oo 32 (.move (Kn 0))]) (.block 0 (.loop (.seq (R0 [Bo 33 .lss 3 (Tm 32) (Tm 31) 3]) (.seq (.cond (Tm 33) .skip (.exit 0)) (.seq (.block 1 (.seq (R0 [Ix 34 33 30 32, Ld 35 32 34, Oo 12 (.alloc 32), Sr 32 (Tm 12) (Tm 35)]) (.seq (.seq (R0 [Fa 36 32 12 0, Ld 37 3 36, Fa 38 142 10 1, Ld 39 3 38, Bo 40 .gtr 3 (Tm 37) (Tm 39) 3]) (.cond (Tm 40) (.exit 0) .skip)) (.seq (R0 [Mv 42 0, Fa 43 32 12 1, Ld 44 3 43, Cl 45 52 #[Tm 42, Tm 44] #[43, 3], Mv 41 45, Xt 46 41 0, Xt 47 41 1, Sg 13 46, Sg 14 47]) (.seq (R0 [Mv 48 14]) (.cond (Tm 48) (.seq (R0 [Fa 49 32 12 0, Ld 50 3 49, Mv 51 13, Sg 6 50, Sg 7 51, Sk 8 (Kn 0)]) .ret) .skip)))))) (R0 [Bo 52 .add 3 (Tm 32) (Kn 1) 3, Mv 32 52]))))))) (.seq (R0 [Sk 6 (Kn 0), Sk 7 (Kn 0), Sk 8 (Kn 7)]) .ret))))))⟩
theorem sf17 : sfOf Try.f17 = some s17 := by kernel_rfl
theorem hb17 : hasBody Try.prog 17 = true := by kernel_rfl
def o25_0 : SO := (Fa 53 81 1 0)
def o25_1 : SO := (Oo 54 (.indexAddr 23 (Tm 53) (Kn 0)))
def o25_2 : SO := (Ld 55 5 54)
def o25_3 : SO := (Oo 56 (.convert 5 3 (Tm 55)))
def o25_4 : SO := (Bo 57 .rem 3 (Tm 56) (Kn 21) 3)
def o25_5 : SO := (Fa 58 81 1 0)
def o25_6 : SO := (Oo 59 (.indexAddr 23 (Tm 58) (Kn 1)))
def o25_7 : SO := (Ld 60 5 59)
def o25_8 : SO := (Oo 61 (.convert 5 3 (Tm 60)))
def o25_9 : SO := (Bo 62 .rem 3 (Tm 61) (Kn 21) 3)
def o25_10 : SO := (Oo 63 (.build 84 #[(0, (Tm 57)), (1, (Tm 62))]))
def o25_11 : SO := (Mv 64 8)
def o25_12 : SO := (Mv 65 8)
def o25_13 : SO := (Fa 66 81 1 1)
def o25_14 : SO := (Oo 67 (.indexAddr 23 (Tm 66) (Kn 1)))
def o25_15 : SO := (Ld 68 5 67)
def o25_16 : SO := (Oo 69 (.convert 5 3 (Tm 68)))
def o25_17 : SO := (Bo 70 .rem 3 (Tm 69) (Kn 20) 3)
def o25_18 : SO := (Bo 71 .add 3 (Tm 65) (Tm 70) 3)
def o25_19 : SO := (Cl 72 8 #[Tm 64, Tm 71] #[3, 3])
def o25_20 : SO := (Sr 84 (Tm 2) (Tm 63))
def o25_21 : SO := (Sr 25 (Tm 3) (Tm 72))
def o25_22 : SO := (Mv 73 5)
def o25_23 : SO := (Sg 4 73)
def s25 : SF := ⟨74, [.cell 2 84, .cell 3 25, .tmp 4], (.seq (R0 [Oo 1 (.box 81 (Tm 0)), Oo 2 (.alloc 84), Oo 3 (.alloc 25), Oo 4 (.assign (.const (.slice none 0 0)))]) (.seq (R0 [Oo 9 (.buildSlice 85 0 #[]), Sg 5 9]) (.seq (.seq (R0 [Sk 6 (Kn 0)]) (.block 0 (.loop (.seq (.seq (R0 [Mv 10 6, Fa 11 81 1 2, Ld 12 79 11, Lq 13 12 79, Bo 14 .lss 3 (Tm 10) (Tm 13) 3, Mv 15 14, Gm 16 6 15 true, Gb 17 .lss 3 (Tm 16) (Kn 5) 3 15 true, Pk 18 15 (Tm 17) (Kb false)]) (.cond (Tm 18) .skip (.exit 0))) (.seq (.block 1 (.seq (R0 [Fa 21 81 1 2, Ld 22 79 21, Mv 23 6, Ix 24 79 22 23, Ld 25 53 24, Oo 7 (.alloc 53), Sr 53 (Tm 7) (Tm 25)]) (R1 [Mv 26 5, Oo 27 (.indexAddr 53 (Tm 7) (Kn 0)), Ld 28 5 27, Oo 29 (.convert 5 3 (Tm 28)), Bo 30 .rem 3 (Tm 29) (Kn 150) 3, Oo 31 (.indexAddr 53 (Tm 7) (Kn 0)), Ld 32 5 31, Oo 33 (.convert 5 3 (Tm 32)), Bo 34 .rem 3 (Tm 33) (Kn 150) 3, Oo 35 (.indexAddr 53 (Tm 7) (Kn 1)), Ld 36 5 35, Oo 37 (.convert 5 3 (Tm 36)), Bo 38 .rem 3 (Tm 37) (Kn 30) 3, Bo 39 .add 3 (Tm 34) (Tm 38) 3, Cl 40 8 #[Tm 30, Tm 39] #[3, 3], Oo 41 (.indexAddr 53 (Tm 7) (Kn 2)), Ld 42 5 41, Oo 43 (.convert 5 3 (Tm 42)), Bo 44 .rem 3 (Tm 43) (Kn 21) 3, Oo 45 (.build 171 #[(0, (Tm 40)), (1, (Tm 44))]), Oo 46 (.buildSlice 85 1 #[(0, (Tm 45))]), Oo 47 (.call { callee := .builtin .append, args := #[Tm 26, Tm 46], argTypes := #[85, 85] }), Sg 5 47]))) (R0 [Mv 19 6, Bo 20 .add 3 (Tm 19) (Kn 1) 3, Sg 6 20])))))) (.seq (R0 [Fa 48 81 1 1, Oo 49 (.indexAddr 23 (Tm 48) (Kn 0)), Ld 50 5 49, Oo 51 (.convert 5 3 (Tm 50)), Bo 52 .rem 3 (Tm 51) (Kn 100) 3, Sg 8 52]) (.seq (.ord (.op o25_0 (.op o25_1 (.op o25_2 (.op o25_3 (.op o25_4 (.op o25_5 (.op o25_6 (.op o25_7 (.op o25_8 (.op o25_9 (.op o25_10 (.op o25_11 (.op o25_12 (.op o25_13 (.op o25_14 (.op o25_15 (.op o25_16 (.op o25_17 (.op o25_18 (.op o25_19 (.app o25_20 [5] [73] (.app o25_21 [5] [73] (.op o25_22 (.op o25_23 .done))))))))))))))))))))))))) .ret)))))⟩
theorem sf25 : sfOf Try.f25 = some s25 := by kernel_rfl
theorem hb25 : hasBody Try.prog 25 = true := by kernel_rfl
def s26 : SF := ⟨31, [.cell 6 46, .tmp 7], (.seq (R0 [Oo 3 (.box 84 (Tm 0)), Oo 4 (.box 25 (Tm 1)), Oo 6 (.alloc 46), Sk 7 (Kn 0)]) (.seq (.seq (R0 [Ld 11 84 3, Ld 12 25 4, Mv 13 2, Cl 14 65 #[Tm 11, Tm 12, Tm 13] #[84, 25, 85], Sg 8 14]) (.seq (R0 [Mv 15 8, Bo 16 .neq 35 (Tm 15) (Kn 0) 35]) (.cond (Tm 16) (.seq (R0 [Mv 17 8, Sr 46 (Tm 6) (.const (.slice none 0 0)), Sg 7 17]) .ret) .skip))) (.seq (.seq (R0 [Ld 18 25 4, Oo 19 (.build 175 #[(0, (Tm 18))]), Ld 20 84 3, Mv 21 2, Cl 22 66 #[Tm 19, Tm 20, Tm 21] #[175, 84, 85]]) (.block 0 (.rng (Tm 22) [23, 24] (R0 [Oo 10 (.alloc 175), Sr 175 (Tm 10) (Tm 24)]) (.block 1 (R0 [Ld 25 46 6, Fa 26 175 10 0, Ld 27 25 26, Oo 28 (.buildSlice 46 1 #[(0, (Tm 27))]), Oo 29 (.call { callee := .builtin .append, args := #[Tm 25, Tm 28], argTypes := #[46, 46] }), Sr 46 (Tm 6) (Tm 29)]))))) (.seq (R0 [Ld 30 46 6, Sr 46 (Tm 6) (Tm 30), Sk 7 (Kn 0)]) .ret))))⟩
theorem sf26 : sfOf Try.f26 = some s26 := by kernel_rfl
theorem hb26 : hasBody Try.prog 26 = true := by kernel_rfl
def s27 : SF := ⟨6, [.tmp 2], (.seq (R0 [Oo 2 (.assign (.const (.slice none 0 0)))]) (.seq (R0 [Oo 3 (.buildSlice 85 0 #[]), Mv 4 0, Oo 5 (.call { callee := .builtin .append, args := #[Tm 3, Tm 4], argTypes := #[85, 85] }), Sg 2 5]) .ret))⟩
theorem sf27 : sfOf Try.f27 = some s27 := by kernel_rfl
theorem hb27 : hasBody Try.prog 27 = true := by kernel_rfl
def s28 : SF := ⟨99, [.cell 4 25, .tmp 5], (.seq (R0 [Oo 3 (.box 25 (Tm 1)), Oo 4 (.alloc 25), Sk 5 (Kn 0)]) (.seq (.seq (R0 [Mv 10 0, Lq 11 10 92, Oo 12 (.buildSlice 61 1 #[(0, (Tm 11))]), Cl 13 67 #[Kn 1, Kn 10, Tm 12] #[3, 3, 61], Oo 14 (.unOp .not 4 (Tm 13)), Mv 15 14, Gm 16 0 15 false, Og 17 (.indexAddr 92 (Tm 16) (Kn 0)) 15 false, Gf 18 91 17 0 15 false, Gl 19 3 18 15 false, Gb 20 .neq 3 (Tm 19) (Kn 0) 3 15 false, Pk 21 15 (Kb true) (Tm 20)]) (.cond (Tm 21) (.seq (R0 [Ld 22 25 4, Sr 25 (Tm 4) (Tm 22), Sk 5 (Kn 4)]) .ret) .skip)) (.seq (.seq (R0 [Mv 23 0, Lq 24 23 92, Oo 25 (.move (Kn 0))]) (.block 0 (.loop (.seq (R0 [Bo 26 .lss 3 (Tm 25) (Tm 24) 3]) (.seq (.cond (Tm 26) .skip (.exit 0)) (.seq (.block 1 (.seq (R0 [Mv 27 25, Ix 28 92 23 25, Ld 29 91 28, Oo 7 (.alloc 91), Sg 6 27, Sr 91 (Tm 7) (Tm 29)]) (.seq (R1 [Fa 30 91 7 0, Ld 31 3 30, Oo 32 (.buildSlice 61 1 #[(0, (Tm 31))]), Cl 33 67 #[Kn 0, Kn 300, Tm 32] #[3, 3, 61], Oo 34 (.unOp .not 4 (Tm 33)), Mv 35 34, Gf 36 91 7 1 35 false, Gl 37 3 36 35 false, Og 38 (.buildSlice 61 1 #[(0, (Tm 37))]) 35 false, Gc 39 67 #[Kn 0, Kn 1000, Tm 38] #[3, 3, 61] 35 false, Og 40 (.unOp .not 4 (Tm 39)) 35 false, Pk 41 35 (Kb true) (Tm 40), Mv 42 41, Gm 43 6 42 false, Gb 44 .gtr 3 (Tm 43) (Kn 0) 3 42 false, Gm 45 44 42 false, Gf 46 91 7 0 45 true, Gl 47 3 46 45 true, Gm 48 0 45 true, Gm 49 6 45 true, Gb 50 .sub 3 (Tm 49) (Kn 1) 3 45 true, Gx 51 92 48 50 45 true, Gf 52 91 51 0 45 true, Gl 53 3 52 45 true, Gb 54 .leq 3 (Tm 47) (Tm 53) 3 45 true, Gm 55 54 45 true, Gf 56 91 7 1 55 false, Gl 57 3 56 55 false, Gm 58 0 55 false, Gm 59 6 55 false, Gb 60 .sub 3 (Tm 59) (Kn 1) 3 55 false, Gx 61 92 58 60 55 false, Gf 62 91 61 1 55 false, Gl 63 3 62 55 false, Gb 64 .gtr 3 (Tm 57) (Tm 63) 3 55 false, Og 65 (.pick (Tm 55) (Kb true) (Tm 64)) 45 true, Og 66 (.pick (Tm 45) (Tm 65) (Kb false)) 42 false, Pk 67 42 (Kb true) (Tm 66)]) (.cond (Tm 67) (.seq (R0 [Ld 68 25 4, Sr 25 (Tm 4) (Tm 68), Sk 5 (Kn 4)]) .ret) .skip)))) (R0 [Bo 69 .add 3 (Tm 25) (Kn 1) 3, Mv 25 69]))))))) (.seq (.seq (R0 [Ld 70 25 3, Oo 71 (.buildSlice 46 1 #[(0, (Tm 70))]), Cl 72 68 #[Tm 71] #[46], Oo 73 (.unOp .not 4 (Tm 72))]) (.cond (Tm 73) (.seq (R0 [Ld 74 25 4, Sr 25 (Tm 4) (Tm 74), Sk 5 (Kn 3)]) .ret) .skip)) (.seq (.seq (R0 [Mv 75 0, Lq 76 75 92, Oo 77 (.move (Kn 0))]) (.block 2 (.loop (.seq (R0 [Bo 78 .lss 3 (Tm 77) (Tm 76) 3]) (.seq (.cond (Tm 78) .skip (.exit 2)) (.seq (.block 3 (.seq (R0 [Ix 79 92 75 77, Ld 80 91 79, Oo 9 (.alloc 91), Sr 91 (Tm 9) (Tm 80)]) (.seq (.seq (R0 [Fa 81 91 9 0, Ld 82 3 81, Fa 83 25 3 0, Ld 84 3 83, Bo 85 .leq 3 (Tm 82) (Tm 84) 3]) (.cond (Tm 85) (R0 [Fa 86 91 9 1, Ld 87 3 86, Fa 88 25 4 1, Sr 3 (Tm 88) (Tm 87)]) .skip)) (.seq (R0 [Fa 89 91 9 0, Ld 90 3 89, Fa 91 25 3 1, Ld 92 3 91, Bo 93 .leq 3 (Tm 90) (Tm 92) 3]) (.cond (Tm 93) (R0 [Fa 94 91 9 1, Ld 95 3 94, Fa 96 25 4 0, Sr 3 (Tm 96) (Tm 95)]) .skip))))) (R0 [Bo 97 .add 3 (Tm 77) (Kn 1) 3, Mv 77 97]))))))) (.seq (R0 [Ld 98 25 4, Sr 25 (Tm 4) (Tm 98), Sk 5 (Kn 0)]) .ret))))))⟩
theorem sf28 : sfOf Try.f28 = some s28 := by kernel_rfl
theorem hb28 : hasBody Try.prog 28 = true := by kernel_rfl
def s29 : SF := ⟨60, [.tmp 8], (.seq (R0 [Oo 4 (.box 84 (Tm 0)), Oo 5 (.box 25 (Tm 1)), Sk 8 (Kn 0)]) (.seq (R1 [Ld 14 25 5, Mv 15 3, Cl 16 70 #[Tm 15, Kn 0] #[82, 3], Cl 17 69 #[Tm 14, Tm 16] #[25, 3], Sg 9 17, Sk 10 (Kn 0)]) (.seq (.seq (R0 [Sk 11 (Kn 0)]) (.block 0 (.loop (.seq (.seq (R0 [Mv 18 11, Mv 19 2, Lq 20 19 85, Bo 21 .lss 3 (Tm 18) (Tm 20) 3]) (.cond (Tm 21) .skip (.exit 0))) (.seq (.block 1 (.seq (R0 [Sk 12 (Kn 0)]) (.block 2 (.loop (.seq (.seq (R0 [Mv 24 12, Mv 25 2, Mv 26 11, Ix 27 85 25 26, Fa 28 171 27 1, Ld 29 3 28, Bo 30 .lss 3 (Tm 24) (Tm 29) 3]) (.cond (Tm 30) .skip (.exit 2))) (.seq (.block 3 (.seq (R0 [Mv 33 10, Bo 34 .add 3 (Tm 33) (Kn 1) 3, Sg 10 34]) (.seq (R1 [Mv 35 2, Mv 36 11, Ix 37 85 35 36, Fa 38 171 37 0, Ld 39 25 38, Mv 40 3, Mv 41 10, Cl 42 70 #[Tm 40, Tm 41] #[82, 3], Cl 43 69 #[Tm 39, Tm 42] #[25, 3], Sg 13 43]) (.seq (R0 [Mv 44 13, Mv 45 9, Bo 46 .gtr 3 (Tm 44) (Tm 45) 3]) (.cond (Tm 46) (R0 [Mv 47 13, Mv 48 9, Fa 49 84 4 0, Ld 50 3 49, Bo 51 .add 3 (Tm 48) (Tm 50) 3, Oo 52 (.call { callee := .builtin .min, args := #[Tm 47, Tm 51], argTypes := #[3, 3] }), Sg 9 52]) (R0 [Mv 53 13, Mv 54 9, Fa 55 84 4 1, Ld 56 3 55, Bo 57 .sub 3 (Tm 54) (Tm 56) 3, Oo 58 (.call { callee := .builtin .max, args := #[Tm 53, Tm 57], argTypes := #[3, 3] }), Sg 9 58])))))) (R0 [Mv 31 12, Bo 32 .add 3 (Tm 31) (Kn 1) 3, Sg 12 32]))))))) (R0 [Mv 22 11, Bo 23 .add 3 (Tm 22) (Kn 1) 3, Sg 11 23])))))) (.seq (R0 [Mv 59 9, Sg 8 59]) .ret))))⟩
theorem sf29 : sfOf Try.f29 = some s29 := by kernel_rfl
theorem hb29 : hasBody Try.prog 29 = true := by kernel_rfl
def s30 : SF := ⟨15, [.tmp 4], (.seq (R0 [Oo 3 (.box 25 (Tm 1)), Sk 4 (Kb false)]) (.seq (R0 [Mv 5 0, Fa 6 25 3 0, Ld 7 3 6, Bo 8 .geq 3 (Tm 5) (Tm 7) 3, Mv 9 8, Gm 10 0 9 true, Gf 11 25 3 1 9 true, Gl 12 3 11 9 true, Gb 13 .leq 3 (Tm 10) (Tm 12) 3 9 true, Pk 14 9 (Tm 13) (Kb false), Sg 4 14]) .ret))⟩
theorem sf30 : sfOf Try.f30 = some s30 := by kernel_rfl
theorem hb30 : hasBody Try.prog 30 = true := by kernel_rfl
def s31 : SF := ⟨42, [.tmp 6, .tmp 7], (.seq (R0 [Oo 3 (.box 45 (Tm 0)), Sk 6 (Kn 0), Sk 7 (Kn 0)]) (.seq (.seq (R0 [Ld 11 45 3, Oo 12 (.buildSlice 43 1 #[(0, (Tm 11))]), Cl 13 49 #[Tm 12, Kn 1] #[43, 3], Sg 8 13]) (.seq (R0 [Mv 14 8, Bo 15 .neq 35 (Tm 14) (Kn 0) 35]) (.cond (Tm 15) (.seq (R0 [Mv 16 8, Sk 6 (Kn 0), Sg 7 16]) .ret) .skip))) (.seq (R0 [Mv 18 1, Mv 19 2, Cl 20 51 #[Tm 18, Tm 19] #[33, 3], Mv 17 20, Xt 21 17 0, Xt 22 17 1, Oo 9 (.alloc 142), Sr 142 (Tm 9) (Tm 21), Sg 10 22]) (.seq (.block 0 (.seq (R0 [Mv 24 10, Bo 25 .neq 35 (Tm 24) (Kn 0) 35, Sg 23 25]) (.cond (Tm 23) (.seq (R0 [Mv 26 10, Sk 6 (Kn 0), Sg 7 26]) .ret) (.seq (R0 [Fa 28 45 3 1, Fa 29 25 28 1, Ld 30 3 29, Bo 31 .eql 3 (Tm 30) (Kn 0) 3, Sg 27 31]) (.cond (Tm 27) (.seq (R0 [Sk 6 (Kn 50), Sk 7 (Kn 0)]) .ret) .skip))))) (.seq (R1 [Ld 32 45 3, Ld 33 142 9, Cl 34 72 #[Tm 33] #[142], Cl 35 71 #[Tm 32, Tm 34] #[45, 3], Fa 36 45 3 1, Fa 37 25 36 1, Ld 38 3 37, Bo 39 .quo 3 (Tm 35) (Tm 38) 3, Bo 40 .add 3 (Kn 1) (Tm 39) 3, Oo 41 (.call { callee := .builtin .min, args := #[Kn 50, Tm 40], argTypes := #[3, 3] }), Sg 6 41, Sk 7 (Kn 0)]) .ret)))))⟩
theorem sf31 : sfOf Try.f31 = some s31 := by kernel_rfl
theorem hb31 : hasBody Try.prog 31 = true := by kernel_rfl
def s32 : SF := ⟨53, [.tmp 0], (.seq (R0 [Sk 0 (Kb false)]) (.seq (R0 [Oo 6 (.build 84 #[(0, (Kn 10)), (1, (Kn 4))]), Cl 7 8 #[Kn 60, Kn 70] #[3, 3], Cl 8 8 #[Kn 90, Kn 100] #[3, 3], Oo 9 (.build 171 #[(0, (Tm 8)), (1, (Kn 2))]), Cl 10 8 #[Kn 50, Kn 60] #[3, 3], Oo 11 (.build 171 #[(0, (Tm 10)), (1, (Kn 5))]), Oo 12 (.buildSlice 85 2 #[(0, (Tm 9)), (1, (Tm 11))]), Cl 13 26 #[Tm 6, Tm 7, Tm 12] #[84, 25, 85], Mv 5 13, Xt 14 5 0, Xt 15 5 1, Sg 1 14, Sg 2 15]) (.seq (R0 [Oo 17 (.build 84 #[(0, (Kn 10)), (1, (Kn 4))]), Cl 18 8 #[Kn 60, Kn 70] #[3, 3], Cl 19 8 #[Kn 90, Kn 100] #[3, 3], Cl 20 8 #[Kn 50, Kn 85] #[3, 3], Cl 21 73 #[Tm 17, Tm 18, Tm 19, Tm 20] #[84, 25, 25, 25], Mv 16 21, Xt 22 16 0, Xt 23 16 1, Sg 3 22, Sg 4 23]) (.seq (R1 [Mv 24 2, Bo 25 .eql 35 (Tm 24) (Kn 0) 35, Mv 26 25, Gm 27 4 26 true, Gb 28 .eql 35 (Tm 27) (Kn 0) 35 26 true, Pk 29 26 (Tm 28) (Kb false), Mv 30 29, Gm 31 1 30 true, Og 32 (.call { callee := .builtin .len, args := #[Tm 31], argTypes := #[46] }) 30 true, Gb 33 .eql 3 (Tm 32) (Kn 2) 3 30 true, Pk 34 30 (Tm 33) (Kb false), Mv 35 34, Gm 36 1 35 true, Og 37 (.indexAddr 46 (Tm 36) (Kn 0)) 35 true, Gl 38 25 37 35 true, Gc 39 8 #[Kn 80, Kn 90] #[3, 3] 35 true, Gb 40 .eql 25 (Tm 38) (Tm 39) 25 35 true, Pk 41 35 (Tm 40) (Kb false), Mv 42 41, Gm 43 1 42 true, Og 44 (.indexAddr 46 (Tm 43) (Kn 1)) 42 true, Gl 45 25 44 42 true, Gc 46 8 #[Kn 60, Kn 70] #[3, 3] 42 true, Gb 47 .eql 25 (Tm 45) (Tm 46) 25 42 true, Pk 48 42 (Tm 47) (Kb false), Mv 49 48, Gm 50 3 49 true, Gb 51 .eql 3 (Tm 50) (Kn 1) 3 49 true, Pk 52 49 (Tm 51) (Kb false), Sg 0 52]) .ret))))⟩
theorem sf32 : sfOf Try.f32 = some s32 := by kernel_rfl
theorem hb32 : hasBody Try.prog 32 = true := by kernel_rfl
def o38_0 : SO := (Ld 14 25 4)
def o38_1 : SO := (Ld 15 25 5)
def o38_2 : SO := (Mv 16 7)
def o38_3 : SO := (Sr 25 (Tm 4) (Tm 14))
def o38_4 : SO := (Sr 25 (Tm 5) (Tm 15))
def o38_5 : SO := (Sg 6 16)
def s38 : SF := ⟨33, [.cell 4 25, .cell 5 25, .tmp 6], (.seq (R0 [Oo 2 (.box 110 (Tm 0)), Oo 4 (.alloc 25), Oo 5 (.alloc 25), Sk 6 (Kn 0)]) (.seq (.seq (R0 [Ld 9 110 2, Mv 10 1, Cl 11 74 #[Tm 9, Tm 10] #[110, 106], Sg 7 11]) (.seq (R0 [Mv 12 7, Bo 13 .neq 35 (Tm 12) (Kn 0) 35]) (.cond (Tm 13) (.seq (.ord (.op o38_0 (.alt (.op o38_1 (.alt (.op o38_2 (.op o38_3 (.op o38_4 (.op o38_5 .done)))) (.op o38_3 (.alt (.op o38_2 (.op o38_4 (.op o38_5 .done))) (.op o38_4 (.op o38_2 (.op o38_5 .done))))))) (.alt (.op o38_2 (.alt (.op o38_1 (.op o38_3 (.op o38_4 (.op o38_5 .done)))) (.op o38_3 (.op o38_1 (.op o38_4 (.op o38_5 .done)))))) (.op o38_3 (.op o38_1 (.alt (.op o38_2 (.op o38_4 (.op o38_5 .done))) (.op o38_4 (.op o38_2 (.op o38_5 .done)))))))))) .ret) .skip))) (.seq (R0 [Ld 17 110 2, Mv 18 1, Oo 19 (.build 187 #[(0, (Tm 17)), (1, (Tm 18))]), Oo 8 (.alloc 187), Sr 187 (Tm 8) (Tm 19)]) (.seq (R0 [Ld 21 187 8, Cl 22 79 #[Tm 21] #[187], Mv 20 22, Xt 23 20 0, Xt 24 20 1, Sr 25 (Tm 4) (Tm 23), Sr 25 (Tm 5) (Tm 24)]) (.seq (R1 [Ld 25 25 4, Ld 26 187 8, Cl 27 81 #[Tm 26] #[187], Cl 28 80 #[Tm 25, Tm 27] #[25, 3], Ld 29 25 5, Ld 30 187 8, Cl 31 81 #[Tm 30] #[187], Cl 32 80 #[Tm 29, Tm 31] #[25, 3], Sr 25 (Tm 4) (Tm 28), Sr 25 (Tm 5) (Tm 32), Sk 6 (Kn 0)]) .ret)))))⟩
theorem sf38 : sfOf Try.f38 = some s38 := by kernel_rfl
theorem hb38 : hasBody Try.prog 38 = true := by kernel_rfl
def s41 : SF := ⟨57, [.tmp 4], (.seq (R0 [Oo 2 (.box 30 (Tm 0)), Oo 3 (.box 28 (Tm 1)), Sk 4 (Kn 0)]) (.seq (R0 [Fa 7 30 2 0, Ld 8 3 7, Fa 9 30 2 1, Ld 10 3 9, Oo 11 (.buildSlice 61 2 #[(0, (Tm 8)), (1, (Tm 10))]), Cl 12 85 #[Kn 1, Kn 120, Tm 11] #[3, 3, 61], Mv 13 12, Gf 14 30 2 2 13 true, Gl 15 3 14 13 true, Gf 16 30 2 4 13 true, Gl 17 3 16 13 true, Og 18 (.buildSlice 61 2 #[(0, (Tm 15)), (1, (Tm 17))]) 13 true, Gc 19 85 #[Kn 0, Kn 400, Tm 18] #[3, 3, 61] 13 true, Pk 20 13 (Tm 19) (Kb false), Mv 21 20, Gf 22 30 2 3 21 true, Gl 23 3 22 21 true, Og 24 (.buildSlice 61 1 #[(0, (Tm 23))]) 21 true, Gc 25 85 #[Kn 0, Kn 10, Tm 24] #[3, 3, 61] 21 true, Pk 26 21 (Tm 25) (Kb false), Mv 27 26, Gf 28 30 2 5 27 true, Gl 29 3 28 27 true, Og 30 (.buildSlice 61 1 #[(0, (Tm 29))]) 27 true, Gc 31 85 #[Kn 0, Kn 5000000, Tm 30] #[3, 3, 61] 27 true, Pk 32 27 (Tm 31) (Kb false), Sg 5 32]) (.seq (R0 [Fa 33 28 3 0, Ld 34 3 33, Fa 35 28 3 1, Ld 36 3 35, Fa 37 28 3 2, Ld 38 3 37, Oo 39 (.buildSlice 61 3 #[(0, (Tm 34)), (1, (Tm 36)), (2, (Tm 38))]), Cl 40 85 #[Kn 10, Kn 100, Tm 39] #[3, 3, 61], Mv 41 40, Gf 42 28 3 3 41 true, Gl 43 25 42 41 true, Gc 44 86 #[Tm 43, Kn 0, Kn 5000000] #[25, 3, 3] 41 true, Pk 45 41 (Tm 44) (Kb false), Mv 46 45, Gf 47 28 3 4 46 true, Gl 48 25 47 46 true, Gc 49 86 #[Tm 48, Kn 0, Kn 20000000] #[25, 3, 3] 46 true, Pk 50 46 (Tm 49) (Kb false), Sg 6 50]) (.seq (.seq (R0 [Mv 51 5, Oo 52 (.unOp .not 4 (Tm 51)), Mv 53 52, Gm 54 6 53 false, Og 55 (.unOp .not 4 (Tm 54)) 53 false, Pk 56 53 (Kb true) (Tm 55)]) (.cond (Tm 56) (.seq (R0 [Sk 4 (Kn 2)]) .ret) .skip)) (.seq (R0 [Sk 4 (Kn 0)]) .ret)))))⟩
theorem sf41 : sfOf Try.f41 = some s41 := by kernel_rfl
theorem hb41 : hasBody Try.prog 41 = true := by kernel_rfl
def s42 : SF := ⟨27, [.tmp 2], (.seq (R0 [Oo 1 (.box 123 (Tm 0)), Oo 2 (.assign (.const (.pointer none)))]) (.seq (R0 [Ld 6 123 1, Oo 7 (.makeMap 202 none), Oo 8 (.build 205 #[(0, (Tm 6)), (2, (Tm 7))]), Oo 9 (.box 205 (Tm 8)), Sg 3 9]) (.seq (.seq (R0 [Ld 10 123 1, Cl 11 44 #[Tm 10] #[123], Oo 12 (.move (Kn 0))]) (.block 0 (.loop (.seq (R0 [Bo 13 .lss 3 (Tm 12) (Kn 2) 3]) (.seq (.cond (Tm 13) .skip (.exit 0)) (.seq (.block 1 (.seq (R0 [Mv 14 12, Oo 15 (.index 128 (Tm 11) (Tm 12)), Sg 4 14, Sg 5 15]) (R1 [Mv 16 3, Mv 17 4, Fa 18 123 1 1, Ld 19 28 18, Mv 20 5, Cl 21 87 #[Tm 19, Tm 20] #[28, 3], Nk 22 16, Fa 23 205 22 1, Ix 24 203 23 17, Sr 61 (Tm 24) (Tm 21)]))) (R0 [Bo 25 .add 3 (Tm 12) (Kn 1) 3, Mv 12 25]))))))) (.seq (R0 [Mv 26 3, Sg 2 26]) .ret))))⟩
theorem sf42 : sfOf Try.f42 = some s42 := by kernel_rfl
theorem hb42 : hasBody Try.prog 42 = true := by kernel_rfl
def s44 : SF := ⟨20, [.cell 2 128], (.seq (R0 [Oo 1 (.box 123 (Tm 0)), Oo 2 (.alloc 128)]) (.seq (R0 [Fa 3 123 1 0, Fa 4 30 3 0, Ld 5 3 4, Fa 6 123 1 0, Fa 7 30 6 3, Ld 8 3 7, Bo 9 .mul 3 (Kn 2) (Tm 8) 3, Bo 10 .add 3 (Tm 5) (Tm 9) 3, Fa 11 123 1 0, Fa 12 30 11 1, Ld 13 3 12, Fa 14 123 1 0, Fa 15 30 14 3, Ld 16 3 15, Bo 17 .mul 3 (Kn 2) (Tm 16) 3, Bo 18 .add 3 (Tm 13) (Tm 17) 3, Oo 19 (.build 128 #[(0, (Tm 10)), (1, (Tm 18))]), Sr 128 (Tm 2) (Tm 19)]) .ret))⟩
theorem sf44 : sfOf Try.f44 = some s44 := by kernel_rfl
theorem hb44 : hasBody Try.prog 44 = true := by kernel_rfl
def s45 : SF := ⟨42, [.cell 6 123, .tmp 7], (.seq (R0 [Oo 3 (.box 30 (Tm 0)), Oo 4 (.box 28 (Tm 1)), Oo 6 (.alloc 123), Sk 7 (Kn 0)]) (.seq (R0 [Ld 15 30 3, Ld 16 28 4, Mv 17 2, Cl 18 91 #[Tm 15, Tm 16, Tm 17] #[30, 28, 216], Mv 14 18, Xt 19 14 0, Xt 20 14 1, Oo 8 (.alloc 123), Sr 123 (Tm 8) (Tm 19), Sg 9 20]) (.seq (.seq (R0 [Mv 21 2, Lq 22 21 216, Oo 23 (.move (Kn 0))]) (.block 0 (.loop (.seq (R0 [Bo 24 .lss 3 (Tm 23) (Tm 22) 3]) (.seq (.cond (Tm 24) .skip (.exit 0)) (.seq (.block 1 (.seq (R0 [Ix 25 216 21 23, Ld 26 34 25, Sg 11 26]) (.seq (.seq (R0 [Mv 27 9, Bo 28 .neq 35 (Tm 27) (Kn 0) 35]) (.cond (Tm 28) (.seq (R0 [Ld 29 123 8, Mv 30 9, Sr 123 (Tm 6) (Tm 29), Sg 7 30]) .ret) .skip)) (.seq (R0 [Ld 32 123 8, Mv 33 11, Cl 34 92 #[Tm 32, Tm 33] #[123, 34], Mv 31 34, Xt 35 31 0, Xt 36 31 1, Sg 12 35, Sg 13 36]) (.seq (R0 [Mv 37 13, Bo 38 .neq 217 (Tm 37) (Kn 0) 217]) (.cond (Tm 38) (R0 [Sk 9 (Kn 9)]) .skip)))))) (R0 [Bo 39 .add 3 (Tm 23) (Kn 1) 3, Mv 23 39]))))))) (.seq (R0 [Ld 40 123 8, Mv 41 9, Sr 123 (Tm 6) (Tm 40), Sg 7 41]) .ret))))⟩
theorem sf45 : sfOf Try.f45 = some s45 := by kernel_rfl
theorem hb45 : hasBody Try.prog 45 = true := by kernel_rfl
def s46 : SF := ⟨6, [.tmp 2], (.seq (R0 [Sk 2 (Kn 0)]) (.seq (R0 [Mv 3 0, Bo 4 .add 3 (Tm 3) (Kn 99) 3, Bo 5 .quo 3 (Tm 4) (Kn 100) 3, Sg 2 5]) .ret))⟩
theorem sf46 : sfOf Try.f46 = some s46 := by kernel_rfl
theorem hb46 : hasBody Try.prog 46 = true := by kernel_rfl
def s47 : SF := ⟨48, [.cell 2 25, .tmp 3], (.seq (R0 [Oo 1 (.box 135 (Tm 0)), Oo 2 (.alloc 25), Sk 3 (Kn 0)]) (.seq (.seq (R0 [Fa 5 135 1 0, Ld 6 25 5, Cl 7 93 #[Tm 6, Kn 0, Kn 100000] #[25, 3, 3], Oo 8 (.unOp .not 4 (Tm 7)), Mv 9 8, Gf 10 135 1 1 9 false, Gl 11 25 10 9 false, Gc 12 93 #[Tm 11, Kn 1, Kn 10000] #[25, 3, 3] 9 false, Og 13 (.unOp .not 4 (Tm 12)) 9 false, Pk 14 9 (Kb true) (Tm 13), Mv 15 14, Gf 16 135 1 2 15 false, Gl 17 3 16 15 false, Og 18 (.buildSlice 61 1 #[(0, (Tm 17))]) 15 false, Gc 19 94 #[Kn 1, Kn 20000, Tm 18] #[3, 3, 61] 15 false, Og 20 (.unOp .not 4 (Tm 19)) 15 false, Pk 21 15 (Kb true) (Tm 20), Mv 22 21, Gf 23 135 1 3 22 false, Gl 24 3 23 22 false, Og 25 (.buildSlice 61 1 #[(0, (Tm 24))]) 22 false, Gc 26 94 #[Kn 1, Kn 1000, Tm 25] #[3, 3, 61] 22 false, Og 27 (.unOp .not 4 (Tm 26)) 22 false, Pk 28 22 (Kb true) (Tm 27)]) (.cond (Tm 28) (.seq (R0 [Ld 29 25 2, Sr 25 (Tm 2) (Tm 29), Sk 3 (Kn 2)]) .ret) .skip)) (.seq (R0 [Oo 30 (.makeFunc (.func 95) #[] #[Tm 1]), Sg 4 30]) (.seq (R1 [Mv 31 4, Fa 32 135 1 0, Fa 33 25 32 0, Ld 34 3 33, Fa 35 135 1 1, Fa 36 25 35 0, Ld 37 3 36, Oo 38 (.call { callee := .value (Tm 31), args := #[Tm 34, Tm 37], argTypes := #[3, 3] }), Mv 39 4, Fa 40 135 1 0, Fa 41 25 40 1, Ld 42 3 41, Fa 43 135 1 1, Fa 44 25 43 1, Ld 45 3 44, Oo 46 (.call { callee := .value (Tm 39), args := #[Tm 42, Tm 45], argTypes := #[3, 3] }), Oo 47 (.build 25 #[(0, (Tm 38)), (1, (Tm 46))]), Sr 25 (Tm 2) (Tm 47), Sk 3 (Kn 0)]) .ret))))⟩
theorem sf47 : sfOf Try.f47 = some s47 := by kernel_rfl
theorem hb47 : hasBody Try.prog 47 = true := by kernel_rfl
def o48_0 : SO := (Ld 17 123 7)
def o48_1 : SO := (Ld 19 123 7)
def o48_2 : SO := (Cl 20 44 #[Tm 19] #[123])
def o48_3 : SO := (Oo 22 (.field 210 (Tm 21) 0))
def o48_4 : SO := (Sg 4 22)
def o48_5 : SO := (Sk 5 (Kn 0))
def s48 : SF := ⟨23, [.tmp 4, .tmp 5], (.seq (R0 [Oo 2 (.box 30 (Tm 0)), Oo 3 (.box 28 (Tm 1)), Sk 4 (Kn 0), Sk 5 (Kn 0)]) (.seq (.seq (R0 [Ld 8 30 2, Ld 9 28 3, Cl 10 41 #[Tm 8, Tm 9] #[30, 28], Sg 6 10]) (.seq (R0 [Mv 11 6, Bo 12 .neq 35 (Tm 11) (Kn 0) 35]) (.cond (Tm 12) (.seq (R0 [Mv 13 6, Sk 4 (Kn 0), Sg 5 13]) .ret) .skip))) (.seq (R0 [Ld 14 30 2, Ld 15 28 3, Oo 16 (.build 123 #[(0, (Tm 14)), (1, (Tm 15))]), Oo 7 (.alloc 123), Sr 123 (Tm 7) (Tm 16)]) (.seq (.ord (.op o48_0 (.alt (.lop (Cl 18 42 #[Tm 17] #[123]) (.op o48_1 (.op o48_2 (.lop (Cl 21 88 #[Tm 18, Tm 20] #[124, 128]) (.op o48_3 (.op o48_4 (.op o48_5 .done))))))) (.op o48_1 (.lop (Cl 18 42 #[Tm 17] #[123]) (.op o48_2 (.lop (Cl 21 88 #[Tm 18, Tm 20] #[124, 128]) (.op o48_3 (.op o48_4 (.op o48_5 .done)))))))))) .ret))))⟩
theorem sf48 : sfOf Try.f48 = some s48 := by kernel_rfl
theorem hb48 : hasBody Try.prog 48 = true := by kernel_rfl
def s49 : SF := ⟨15, [.tmp 4], (.seq (R0 [Sk 4 (Kn 0)]) (.seq (R0 [Oo 5 (.assign (.func 97))]) (.seq (.block 0 (.seq (R0 [Mv 7 0, Lq 8 7 43, Mv 9 1, Bo 10 .gtr 3 (Tm 8) (Tm 9) 3, Sg 6 10]) (.cond (Tm 6) (.seq (R0 [Sk 4 (Kn 5)]) .ret) (.seq (R0 [Mv 12 0, Mv 13 5, Cl 14 98 #[Tm 12, Tm 13] #[43, 221], Sg 11 14]) (.cond (Tm 11) (.seq (R0 [Sk 4 (Kn 2)]) .ret) .skip))))) (.seq (R0 [Sk 4 (Kn 0)]) .ret))))⟩
theorem sf49 : sfOf Try.f49 = some s49 := by kernel_rfl
theorem hb49 : hasBody Try.prog 49 = true := by kernel_rfl
def s50 : SF := ⟨4, [.tmp 2], (.seq (R0 [Oo 1 (.box 43 (Tm 0)), Oo 2 (.assign (.const .nilFunc))]) (.seq (R0 [Oo 3 (.makeFunc (.func 99) #[] #[Tm 1]), Sg 2 3]) .ret))⟩
theorem sf50 : sfOf Try.f50 = some s50 := by kernel_rfl
theorem hb50 : hasBody Try.prog 50 = true := by kernel_rfl
end Go.Dw.Seat
end
section
namespace Go.Dw.Seat
open Go Go.Dw Go.Proofs
def s51 : SF := ⟨76, [.cell 4 142, .tmp 5], (.seq (R0 [Oo 4 (.alloc 142), Sk 5 (Kn 0)]) (.seq (.seq (R0 [Mv 8 0, Lq 9 8 33, Oo 10 (.buildSlice 61 1 #[(0, (Tm 9))]), Cl 11 94 #[Kn 1, Kn 10, Tm 10] #[3, 3, 61], Oo 12 (.unOp .not 4 (Tm 11)), Mv 13 12, Gm 14 0 13 false, Og 15 (.indexAddr 33 (Tm 14) (Kn 0)) 13 false, Gf 16 32 15 0 13 false, Gl 17 3 16 13 false, Gb 18 .neq 3 (Tm 17) (Kn 0) 3 13 false, Pk 19 13 (Kb true) (Tm 18)]) (.cond (Tm 19) (.seq (R0 [Ld 20 142 4, Sr 142 (Tm 4) (Tm 20), Sk 5 (Kn 4)]) .ret) .skip)) (.seq (.seq (R0 [Mv 21 0, Lq 22 21 33, Oo 23 (.move (Kn 0))]) (.block 0 (.loop (.seq (R0 [Bo 24 .lss 3 (Tm 23) (Tm 22) 3]) (.seq (.cond (Tm 24) .skip (.exit 0)) (.seq (.block 1 (.seq (R0 [Mv 25 23, Ix 26 33 21 23, Ld 27 32 26, Oo 7 (.alloc 32), Sg 6 25, Sr 32 (Tm 7) (Tm 27)]) (.seq (R1 [Fa 28 32 7 0, Ld 29 3 28, Oo 30 (.buildSlice 61 1 #[(0, (Tm 29))]), Cl 31 94 #[Kn 0, Kn 10000, Tm 30] #[3, 3, 61], Oo 32 (.unOp .not 4 (Tm 31)), Mv 33 32, Gf 34 32 7 1 33 false, Gl 35 3 34 33 false, Og 36 (.buildSlice 61 1 #[(0, (Tm 35))]) 33 false, Gc 37 94 #[Kn 0, Kn 1000, Tm 36] #[3, 3, 61] 33 false, Og 38 (.unOp .not 4 (Tm 37)) 33 false, Pk 39 33 (Kb true) (Tm 38), Mv 40 39, Gm 41 6 40 false, Gb 42 .gtr 3 (Tm 41) (Kn 0) 3 40 false, Gm 43 42 40 false, Gf 44 32 7 0 43 true, Gl 45 3 44 43 true, Gm 46 0 43 true, Gm 47 6 43 true, Gb 48 .sub 3 (Tm 47) (Kn 1) 3 43 true, Gx 49 33 46 48 43 true, Gf 50 32 49 0 43 true, Gl 51 3 50 43 true, Gb 52 .leq 3 (Tm 45) (Tm 51) 3 43 true, Gm 53 52 43 true, Gf 54 32 7 1 53 false, Gl 55 3 54 53 false, Gm 56 0 53 false, Gm 57 6 53 false, Gb 58 .sub 3 (Tm 57) (Kn 1) 3 53 false, Gx 59 33 56 58 53 false, Gf 60 32 59 1 53 false, Gl 61 3 60 53 false, Gb 62 .gtr 3 (Tm 55) (Tm 61) 3 53 false, Og 63 (.pick (Tm 53) (Kb true) (Tm 62)) 43 true, Og 64 (.pick (Tm 43) (Tm 63) (Kb false)) 40 false, Pk 65 40 (Kb true) (Tm 64)]) (.cond (Tm 65) (.seq (R0 [Ld 66 142 4, Sr 142 (Tm 4) (Tm 66), Sk 5 (Kn 4)]) .ret) .skip)))) (R0 [Bo 67 .add 3 (Tm 23) (Kn 1) 3, Mv 23 67]))))))) (.seq (.seq (R0 [Mv 68 1, Oo 69 (.buildSlice 61 1 #[(0, (Tm 68))]), Cl 70 94 #[Kn 0, Kn 10000, Tm 69] #[3, 3, 61], Oo 71 (.unOp .not 4 (Tm 70))]) (.cond (Tm 71) (.seq (R0 [Ld 72 142 4, Sr 142 (Tm 4) (Tm 72), Sk 5 (Kn 3)]) .ret) .skip)) (.seq (R0 [Mv 73 0, Mv 74 1, Oo 75 (.build 142 #[(0, (Tm 73)), (1, (Tm 74))]), Sr 142 (Tm 4) (Tm 75), Sk 5 (Kn 0)]) .ret)))))⟩
theorem sf51 : sfOf Try.f51 = some s51 := by kernel_rfl
theorem hb51 : hasBody Try.prog 51 = true := by kernel_rfl
def o52_0 : SO := (Ld 22 3 4)
def o52_1 : SO := (Ld 23 4 5)
def o52_2 : SO := (Sr 3 (Tm 4) (Tm 22))
def o52_3 : SO := (Sr 4 (Tm 5) (Tm 23))
def s52 : SF := ⟨24, [.cell 4 3, .cell 5 4], (.seq (R0 [Oo 2 (.box 43 (Tm 0)), Oo 3 (.box 3 (Tm 1)), Oo 4 (.alloc 3), Oo 5 (.alloc 4)]) (.seq (.seq (R0 [Ld 8 43 2, Cl 9 50 #[Tm 8] #[43]]) (.block 0 (.rng (Tm 9) [10, 11] (.seq (R0 [Sg 6 10]) (R0 [Oo 7 (.alloc 25), Sr 25 (Tm 7) (Tm 11)])) (.block 1 (.seq (R1 [Fa 12 25 7 1, Ld 13 3 12, Ld 14 43 2, Mv 15 6, Ix 16 43 14 15, Ld 17 45 16, Ld 18 3 3, Cl 19 71 #[Tm 17, Tm 18] #[45, 3], Bo 20 .gtr 3 (Tm 13) (Tm 19) 3]) (.cond (Tm 20) (R0 [Mv 21 6, Sr 3 (Tm 4) (Tm 21), Sr 4 (Tm 5) (Kb true)]) .skip)))))) (.seq (.ord (.op o52_0 (.alt (.op o52_1 (.op o52_2 (.op o52_3 .done))) (.op o52_2 (.op o52_1 (.op o52_3 .done)))))) .ret)))⟩
theorem sf52 : sfOf Try.f52 = some s52 := by kernel_rfl
theorem hb52 : hasBody Try.prog 52 = true := by kernel_rfl
def s65 : SF := ⟨25, [.tmp 6], (.seq (R0 [Oo 3 (.box 84 (Tm 0)), Oo 4 (.box 25 (Tm 1)), Sk 6 (Kn 0)]) (.seq (R0 [Oo 7 (.assign (.func 116))]) (.seq (.block 0 (.seq (R0 [Ld 9 84 3, Cl 10 117 #[Tm 9] #[84], Oo 11 (.unOp .not 4 (Tm 10)), Sg 8 11]) (.cond (Tm 8) (.seq (R0 [Sk 6 (Kn 2)]) .ret) (.seq (R0 [Ld 13 25 4, Oo 14 (.buildSlice 46 1 #[(0, (Tm 13))]), Cl 15 68 #[Tm 14] #[46], Oo 16 (.unOp .not 4 (Tm 15)), Sg 12 16]) (.cond (Tm 12) (.seq (R0 [Sk 6 (Kn 3)]) .ret) (.seq (R0 [Mv 18 2, Lq 19 18 85, Bo 20 .gtr 3 (Tm 19) (Kn 10) 3, Sg 17 20]) (.cond (Tm 17) (.seq (R0 [Sk 6 (Kn 5)]) .ret) (.seq (R0 [Mv 22 2, Mv 23 7, Cl 24 118 #[Tm 22, Tm 23] #[85, 237], Sg 21 24]) (.cond (Tm 21) (.seq (R0 [Sk 6 (Kn 4)]) .ret) .skip))))))))) (.seq (R0 [Sk 6 (Kn 0)]) .ret))))⟩
theorem sf65 : sfOf Try.f65 = some s65 := by kernel_rfl
theorem hb65 : hasBody Try.prog 65 = true := by kernel_rfl
def s66 : SF := ⟨8, [.tmp 6], (.seq (R0 [Oo 3 (.box 175 (Tm 0)), Oo 4 (.box 84 (Tm 1)), Oo 5 (.box 85 (Tm 2)), Oo 6 (.assign (.const .nilFunc))]) (.seq (R0 [Oo 7 (.makeFunc (.func 119) #[] #[Tm 5, Tm 3, Tm 4]), Sg 6 7]) .ret))⟩
theorem sf66 : sfOf Try.f66 = some s66 := by kernel_rfl
theorem hb66 : hasBody Try.prog 66 = true := by kernel_rfl
def s67 : SF := ⟨11, [.tmp 6], (.seq (R0 [Oo 3 (.box 3 (Tm 0)), Oo 4 (.box 3 (Tm 1)), Sk 6 (Kb false)]) (.seq (R0 [Mv 7 2, Oo 8 (.makeFunc (.func 121) #[] #[Tm 3, Tm 4]), Cl 9 104 #[Tm 7, Tm 8] #[61, 228], Oo 10 (.unOp .not 4 (Tm 9)), Sg 6 10]) .ret))⟩
theorem sf67 : sfOf Try.f67 = some s67 := by kernel_rfl
theorem hb67 : hasBody Try.prog 67 = true := by kernel_rfl
def s68 : SF := ⟨6, [.tmp 2], (.seq (R0 [Sk 2 (Kb false)]) (.seq (R0 [Mv 3 0, Cl 4 122 #[Tm 3, .func 123] #[46, 243], Oo 5 (.unOp .not 4 (Tm 4)), Sg 2 5]) .ret))⟩
theorem sf68 : sfOf Try.f68 = some s68 := by kernel_rfl
theorem hb68 : hasBody Try.prog 68 = true := by kernel_rfl
def s69 : SF := ⟨16, [.tmp 4], (.seq (R0 [Oo 2 (.box 25 (Tm 0)), Sk 4 (Kn 0)]) (.seq (R0 [Fa 5 25 2 0, Ld 6 3 5, Mv 7 1, Fa 8 25 2 1, Ld 9 3 8, Fa 10 25 2 0, Ld 11 3 10, Bo 12 .sub 3 (Tm 9) (Tm 11) 3, Bo 13 .mul 3 (Tm 7) (Tm 12) 3, Bo 14 .quo 3 (Tm 13) (Kn 255) 3, Bo 15 .add 3 (Tm 6) (Tm 14) 3, Sg 4 15]) .ret))⟩
theorem sf69 : sfOf Try.f69 = some s69 := by kernel_rfl
theorem hb69 : hasBody Try.prog 69 = true := by kernel_rfl
def s70 : SF := ⟨16, [.tmp 4], (.seq (R0 [Sk 4 (Kn 0)]) (.seq (.seq (R0 [Mv 5 0, Lq 6 5 82, Bo 7 .eql 3 (Tm 6) (Kn 0) 3]) (.cond (Tm 7) (.seq (R0 [Sk 4 (Kn 0)]) .ret) .skip)) (.seq (R0 [Mv 8 0, Mv 9 1, Mv 10 0, Lq 11 10 82, Bo 12 .rem 3 (Tm 9) (Tm 11) 3, Ix 13 82 8 12, Ld 14 5 13, Oo 15 (.convert 5 3 (Tm 14)), Sg 4 15]) .ret)))⟩
theorem sf70 : sfOf Try.f70 = some s70 := by kernel_rfl
theorem hb70 : hasBody Try.prog 70 = true := by kernel_rfl
def s71 : SF := ⟨11, [.tmp 4], (.seq (R0 [Oo 2 (.box 45 (Tm 0)), Sk 4 (Kn 0)]) (.seq (R0 [Fa 5 45 2 0, Fa 6 25 5 0, Ld 7 3 6, Mv 8 1, Bo 9 .mul 3 (Tm 7) (Tm 8) 3, Bo 10 .quo 3 (Tm 9) (Kn 1000) 3, Sg 4 10]) .ret))⟩
theorem sf71 : sfOf Try.f71 = some s71 := by kernel_rfl
theorem hb71 : hasBody Try.prog 71 = true := by kernel_rfl
def s72 : SF := ⟨21, [.tmp 2], (.seq (R0 [Oo 1 (.box 142 (Tm 0)), Sk 2 (Kn 0)]) (.seq (.seq (R0 [Fa 5 142 1 0, Ld 6 33 5, Lq 7 6 33, Oo 8 (.move (Kn 0))]) (.block 0 (.loop (.seq (R0 [Bo 9 .lss 3 (Tm 8) (Tm 7) 3]) (.seq (.cond (Tm 9) .skip (.exit 0)) (.seq (.block 1 (.seq (R0 [Ix 10 33 6 8, Ld 11 32 10, Oo 4 (.alloc 32), Sr 32 (Tm 4) (Tm 11)]) (.seq (R0 [Fa 12 32 4 0, Ld 13 3 12, Fa 14 142 1 1, Ld 15 3 14, Bo 16 .leq 3 (Tm 13) (Tm 15) 3]) (.cond (Tm 16) (R0 [Fa 17 32 4 1, Ld 18 3 17, Sg 2 18]) .skip)))) (R0 [Bo 19 .add 3 (Tm 8) (Kn 1) 3, Mv 8 19]))))))) (.seq (R0 [Mv 20 2, Sg 2 20]) .ret)))⟩
theorem sf72 : sfOf Try.f72 = some s72 := by kernel_rfl
theorem hb72 : hasBody Try.prog 72 = true := by kernel_rfl
def s73 : SF := ⟨44, [.tmp 8, .tmp 9], (.seq (R0 [Oo 4 (.box 84 (Tm 0)), Oo 5 (.box 25 (Tm 1)), Oo 6 (.box 25 (Tm 2)), Oo 7 (.box 25 (Tm 3)), Sk 8 (Kn 0), Sk 9 (Kn 0)]) (.seq (.block 0 (.seq (R0 [Ld 12 84 4, Cl 13 117 #[Tm 12] #[84], Oo 14 (.unOp .not 4 (Tm 13)), Sg 11 14]) (.cond (Tm 11) (.seq (R0 [Sk 8 (Kn 0), Sk 9 (Kn 2)]) .ret) (.seq (R0 [Ld 16 25 5, Ld 17 25 6, Ld 18 25 7, Oo 19 (.buildSlice 46 3 #[(0, (Tm 16)), (1, (Tm 17)), (2, (Tm 18))]), Cl 20 68 #[Tm 19] #[46], Oo 21 (.unOp .not 4 (Tm 20)), Sg 15 21]) (.cond (Tm 15) (.seq (R0 [Sk 8 (Kn 0), Sk 9 (Kn 3)]) .ret) (.seq (R0 [Ld 23 25 5, Oo 24 (.build 175 #[(0, (Tm 23))]), Ld 25 25 7, Cl 26 125 #[Tm 24, Tm 25] #[175, 25], Oo 27 (.unOp .not 4 (Tm 26)), Sg 22 27]) (.cond (Tm 22) (.seq (R0 [Sk 8 (Kn 0), Sk 9 (Kn 9)]) .ret) .skip))))))) (.seq (R0 [Sk 10 (Kn 0)]) (.seq (.block 1 (.loop (.seq (.seq (R1 [Mv 28 10, Bo 29 .lss 3 (Tm 28) (Kn 500) 3, Mv 30 29, Gl 31 25 5 30 true, Og 32 (.build 175 #[(0, (Tm 31))]) 30 true, Gl 33 84 4 30 true, Gl 34 25 6 30 true, Gm 35 10 30 true, Gb 36 .add 3 (Tm 35) (Kn 1) 3 30 true, Gc 37 120 #[Tm 32, Tm 33, Tm 34, Tm 36] #[175, 84, 25, 3] 30 true, Gl 38 25 7 30 true, Gc 39 125 #[Tm 37, Tm 38] #[175, 25] 30 true, Pk 40 30 (Tm 39) (Kb false)]) (.cond (Tm 40) .skip (.exit 1))) (.block 2 (R0 [Mv 41 10, Bo 42 .add 3 (Tm 41) (Kn 1) 3, Sg 10 42]))))) (.seq (R0 [Mv 43 10, Sg 8 43, Sk 9 (Kn 0)]) .ret)))))⟩
theorem sf73 : sfOf Try.f73 = some s73 := by kernel_rfl
theorem hb73 : hasBody Try.prog 73 = true := by kernel_rfl
def s74 : SF := ⟨59, [.tmp 4], (.seq (R0 [Oo 2 (.box 110 (Tm 0)), Sk 4 (Kn 0)]) (.seq (R0 [Oo 5 (.assign (.func 126))]) (.seq (.block 0 (.seq (.seq (R0 [Fa 10 110 2 0, Ld 11 3 10, Oo 12 (.buildSlice 61 1 #[(0, (Tm 11))]), Cl 13 85 #[Kn 1, Kn 2000, Tm 12] #[3, 3, 61], Oo 14 (.unOp .not 4 (Tm 13)), Sg 9 14]) (.cond (Tm 9) .skip (.seq (R0 [Fa 15 110 2 0, Ld 16 3 15, Fa 17 110 2 1, Ld 18 3 17, Fa 19 110 2 2, Ld 20 3 19, Oo 21 (.buildSlice 61 2 #[(0, (Tm 18)), (1, (Tm 20))]), Cl 22 85 #[Kn 0, Tm 16, Tm 21] #[3, 3, 61], Oo 23 (.unOp .not 4 (Tm 22)), Sg 9 23]) (.cond (Tm 9) .skip (.seq (R0 [Fa 24 110 2 1, Ld 25 3 24, Fa 26 110 2 2, Ld 27 3 26, Bo 28 .geq 3 (Tm 25) (Tm 27) 3, Sg 9 28]) (.cond (Tm 9) .skip (R0 [Fa 29 110 2 3, Ld 30 3 29, Fa 31 110 2 4, Ld 32 3 31, Oo 33 (.buildSlice 61 2 #[(0, (Tm 30)), (1, (Tm 32))]), Cl 34 85 #[Kn 0, Kn 40000000, Tm 33] #[3, 3, 61], Oo 35 (.unOp .not 4 (Tm 34)), Sg 9 35]))))))) (.cond (Tm 9) (.seq (R0 [Sk 4 (Kn 2)]) .ret) (.seq (R0 [Mv 37 1, Lq 38 37 106, Bo 39 .gtr 3 (Tm 38) (Kn 7) 3, Sg 36 39]) (.cond (Tm 36) (.seq (R0 [Sk 4 (Kn 5)]) .ret) (.seq (R0 [Mv 41 1, Mv 42 5, Cl 43 127 #[Tm 41, Tm 42] #[106, 244], Sg 40 43]) (.cond (Tm 40) (.seq (R0 [Sk 4 (Kn 4)]) .ret) .skip))))))) (.seq (R0 [Sk 6 (Kn 0)]) (.seq (.seq (R0 [Mv 44 1, Lq 45 44 106, Oo 46 (.move (Kn 0))]) (.block 1 (.loop (.seq (R0 [Bo 47 .lss 3 (Tm 46) (Tm 45) 3]) (.seq (.cond (Tm 47) .skip (.exit 1)) (.seq (.block 2 (.seq (R0 [Ix 48 106 44 46, Ld 49 108 48, Oo 8 (.alloc 108), Sr 108 (Tm 8) (Tm 49)]) (R0 [Mv 50 6, Fa 51 108 8 0, Ld 52 3 51, Bo 53 .add 3 (Tm 50) (Tm 52) 3, Sg 6 53]))) (R0 [Bo 54 .add 3 (Tm 46) (Kn 1) 3, Mv 46 54]))))))) (.seq (.seq (R0 [Mv 55 6, Fa 56 110 2 0, Ld 57 3 56, Bo 58 .gtr 3 (Tm 55) (Tm 57) 3]) (.cond (Tm 58) (.seq (R0 [Sk 4 (Kn 3)]) .ret) .skip)) (.seq (R0 [Sk 4 (Kn 0)]) .ret)))))))⟩
theorem sf74 : sfOf Try.f74 = some s74 := by kernel_rfl
theorem hb74 : hasBody Try.prog 74 = true := by kernel_rfl
def o79_0 : SO := (Ld 47 25 2)
def o79_1 : SO := (Ld 48 25 3)
def o79_2 : SO := (Sr 25 (Tm 2) (Tm 47))
def o79_3 : SO := (Sr 25 (Tm 3) (Tm 48))
def s79 : SF := ⟨49, [.cell 2 25, .cell 3 25], (.seq (R0 [Oo 1 (.box 187 (Tm 0)), Oo 2 (.alloc 25), Oo 3 (.alloc 25)]) (.seq (R0 [Sk 4 (Kn 0)]) (.seq (.seq (R0 [Fa 8 187 1 1, Ld 9 106 8, Lq 10 9 106, Oo 11 (.move (Kn 0))]) (.block 0 (.loop (.seq (R0 [Bo 12 .lss 3 (Tm 11) (Tm 10) 3]) (.seq (.cond (Tm 12) .skip (.exit 0)) (.seq (.block 1 (.seq (R0 [Ix 13 106 9 11, Ld 14 108 13, Oo 6 (.alloc 108), Sr 108 (Tm 6) (Tm 14)]) (.seq (R0 [Mv 15 4, Bo 16 .mul 3 (Kn 2) (Tm 15) 3, Fa 17 108 6 0, Ld 18 3 17, Bo 19 .add 3 (Tm 16) (Tm 18) 3, Sg 7 19]) (.seq (R1 [Ld 20 25 2, Fa 21 108 6 1, Ld 22 25 21, Fa 23 187 1 0, Fa 24 110 23 2, Ld 25 3 24, Bo 26 .mul 3 (Kn 2) (Tm 25) 3, Mv 27 7, Bo 28 .sub 3 (Tm 26) (Tm 27) 3, Cl 29 140 #[Tm 22, Tm 28] #[25, 3], Cl 30 139 #[Tm 20, Tm 29] #[25, 25], Ld 31 25 3, Fa 32 108 6 1, Ld 33 25 32, Mv 34 7, Fa 35 187 1 0, Fa 36 110 35 1, Ld 37 3 36, Bo 38 .mul 3 (Kn 2) (Tm 37) 3, Bo 39 .sub 3 (Tm 34) (Tm 38) 3, Cl 40 140 #[Tm 33, Tm 39] #[25, 3], Cl 41 139 #[Tm 31, Tm 40] #[25, 25], Sr 25 (Tm 2) (Tm 30), Sr 25 (Tm 3) (Tm 41)]) (R0 [Mv 42 4, Fa 43 108 6 0, Ld 44 3 43, Bo 45 .add 3 (Tm 42) (Tm 44) 3, Sg 4 45]))))) (R0 [Bo 46 .add 3 (Tm 11) (Kn 1) 3, Mv 11 46]))))))) (.seq (.ord (.op o79_0 (.alt (.op o79_1 (.op o79_2 (.op o79_3 .done))) (.op o79_2 (.op o79_1 (.op o79_3 .done)))))) .ret))))⟩
theorem sf79 : sfOf Try.f79 = some s79 := by kernel_rfl
theorem hb79 : hasBody Try.prog 79 = true := by kernel_rfl
def s80 : SF := ⟨16, [.cell 4 25], (.seq (R0 [Oo 2 (.box 25 (Tm 0)), Oo 3 (.box 3 (Tm 1)), Oo 4 (.alloc 25)]) (.seq (R0 [Oo 6 (.makeFunc (.func 141) #[] #[Tm 3]), Sg 5 6]) (.seq (R1 [Mv 7 5, Fa 8 25 2 0, Ld 9 3 8, Oo 10 (.call { callee := .value (Tm 7), args := #[Tm 9], argTypes := #[3] }), Mv 11 5, Fa 12 25 2 1, Ld 13 3 12, Oo 14 (.call { callee := .value (Tm 11), args := #[Tm 13], argTypes := #[3] }), Oo 15 (.build 25 #[(0, (Tm 10)), (1, (Tm 14))]), Sr 25 (Tm 4) (Tm 15)]) .ret)))⟩
theorem sf80 : sfOf Try.f80 = some s80 := by kernel_rfl
theorem hb80 : hasBody Try.prog 80 = true := by kernel_rfl
def s81 : SF := ⟨11, [.tmp 2], (.seq (R0 [Oo 1 (.box 187 (Tm 0)), Sk 2 (Kn 0)]) (.seq (R0 [Fa 3 187 1 0, Fa 4 110 3 2, Ld 5 3 4, Fa 6 187 1 0, Fa 7 110 6 1, Ld 8 3 7, Bo 9 .sub 3 (Tm 5) (Tm 8) 3, Bo 10 .mul 3 (Kn 2) (Tm 9) 3, Sg 2 10]) .ret))⟩
theorem sf81 : sfOf Try.f81 = some s81 := by kernel_rfl
theorem hb81 : hasBody Try.prog 81 = true := by kernel_rfl
def s85 : SF := ⟨11, [.tmp 6], (.seq (R0 [Oo 3 (.box 3 (Tm 0)), Oo 4 (.box 3 (Tm 1)), Sk 6 (Kb false)]) (.seq (R0 [Mv 7 2, Oo 8 (.makeFunc (.func 145) #[] #[Tm 3, Tm 4]), Cl 9 104 #[Tm 7, Tm 8] #[61, 228], Oo 10 (.unOp .not 4 (Tm 9)), Sg 6 10]) .ret))⟩
theorem sf85 : sfOf Try.f85 = some s85 := by kernel_rfl
theorem hb85 : hasBody Try.prog 85 = true := by kernel_rfl
def s86 : SF := ⟨22, [.tmp 6], (.seq (R0 [Oo 3 (.box 25 (Tm 0)), Sk 6 (Kb false)]) (.seq (R0 [Mv 7 1, Mv 8 2, Fa 9 25 3 0, Ld 10 3 9, Fa 11 25 3 1, Ld 12 3 11, Oo 13 (.buildSlice 61 2 #[(0, (Tm 10)), (1, (Tm 12))]), Cl 14 85 #[Tm 7, Tm 8, Tm 13] #[3, 3, 61], Mv 15 14, Gf 16 25 3 0 15 true, Gl 17 3 16 15 true, Gf 18 25 3 1 15 true, Gl 19 3 18 15 true, Gb 20 .leq 3 (Tm 17) (Tm 19) 3 15 true, Pk 21 15 (Tm 20) (Kb false), Sg 6 21]) .ret))⟩
theorem sf86 : sfOf Try.f86 = some s86 := by kernel_rfl
theorem hb86 : hasBody Try.prog 86 = true := by kernel_rfl
def s87 : SF := ⟨29, [.tmp 4], (.seq (R0 [Oo 2 (.box 28 (Tm 0)), Oo 4 (.assign (.const (.slice none 0 0)))]) (.seq (R0 [Mv 9 1, Bo 10 .add 3 (Tm 9) (Kn 1) 3, Oo 11 (.makeSlice 61 (Tm 10) (Tm 10)), Sg 5 11, Sk 6 (Kn 0)]) (.seq (.seq (R0 [Ld 12 28 2, Mv 13 1, Cl 14 146 #[Tm 12, Tm 13] #[28, 3], Lq 15 14 255, Oo 16 (.move (Kn 0))]) (.block 0 (.loop (.seq (R0 [Bo 17 .lss 3 (Tm 16) (Tm 15) 3]) (.seq (.cond (Tm 17) .skip (.exit 0)) (.seq (.block 1 (.seq (R0 [Mv 18 16, Ix 19 255 14 16, Ld 20 4 19, Sg 7 18, Sg 8 20]) (.seq (.seq (R0 [Mv 21 8]) (.cond (Tm 21) (R0 [Mv 22 7, Sg 6 22]) .skip)) (R0 [Mv 23 5, Mv 24 7, Mv 25 6, Ix 26 61 23 24, Sr 3 (Tm 26) (Tm 25)])))) (R0 [Bo 27 .add 3 (Tm 16) (Kn 1) 3, Mv 16 27]))))))) (.seq (R0 [Mv 28 5, Sg 4 28]) .ret))))⟩
theorem sf87 : sfOf Try.f87 = some s87 := by kernel_rfl
theorem hb87 : hasBody Try.prog 87 = true := by kernel_rfl
def o88_0 : SO := (Ld 33 124 2)
def o88_1 : SO := (Nk 34 33)
def o88_2 : SO := (Fa 35 205 34 2)
def o88_3 : SO := (Ld 36 202 35)
def o88_4 : SO := (Ld 37 128 3)
def o88_5 : SO := (Oo 38 (.lookup 202 (Tm 36) (Tm 37) true))
def o88_6 : SO := (Mv 32 38)
def o88_7 : SO := (Xt 39 32 0)
def o88_8 : SO := (Oo 6 (.alloc 210))
def o88_9 : SO := (Xt 40 32 1)
def o88_10 : SO := (Sr 210 (Tm 6) (Tm 39))
def o88_11 : SO := (Sg 7 40)
def o88_12 : SO := (Ld 63 124 2)
def o88_13 : SO := (Ld 64 128 12)
def o88_14 : SO := (Ld 67 124 2)
def o88_15 : SO := (Ld 68 128 13)
def o88_16 : SO := (Oo 66 (.field 210 (Tm 65) 0))
def o88_17 : SO := (Oo 70 (.field 210 (Tm 69) 0))
def o88_18 : SO := (Bo 71 .add 3 (Tm 66) (Tm 70) 3)
def o88_19 : SO := (Sg 14 71)
def s88 : SF := ⟨86, [.cell 4 210], (.seq (R0 [Oo 2 (.box 124 (Tm 0)), Oo 3 (.box 128 (Tm 1)), Oo 4 (.alloc 210)]) (.seq (.seq (R0 [Oo 15 (.move (Kn 0))]) (.block 0 (.loop (.seq (R0 [Bo 16 .lss 3 (Tm 15) (Kn 2) 3]) (.seq (.cond (Tm 16) .skip (.exit 0)) (.seq (.block 1 (.seq (R0 [Mv 17 15, Sg 5 17]) (R1 [Mv 18 5, Ld 19 124 2, Mv 20 5, Nk 21 19, Fa 22 205 21 1, Ix 23 203 22 20, Ld 24 61 23, Mv 25 5, Ix 26 128 3 25, Ld 27 3 26, Ix 28 61 24 27, Ld 29 3 28, Ix 30 128 3 18, Sr 3 (Tm 30) (Tm 29)]))) (R0 [Bo 31 .add 3 (Tm 15) (Kn 1) 3, Mv 15 31]))))))) (.seq (.seq (.ord (.op o88_0 (.op o88_1 (.op o88_2 (.op o88_3 (.op o88_4 (.op o88_5 (.op o88_6 (.op o88_7 (.op o88_8 (.alt (.op o88_9 (.op o88_10 (.op o88_11 .done))) (.op o88_10 (.op o88_9 (.op o88_11 .done)))))))))))))) (.seq (R0 [Mv 41 7]) (.cond (Tm 41) (.seq (R0 [Ld 42 210 6, Sr 210 (Tm 4) (Tm 42)]) .ret) .skip))) (.seq (R0 [Oo 43 (.build 208 #[(0, (Kn (-1))), (1, (Kn 0))]), Oo 44 (.build 210 #[(0, (Kn 0)), (1, (Tm 43))]), Oo 8 (.alloc 210), Sr 210 (Tm 8) (Tm 44)]) (.seq (.seq (R0 [Ld 46 124 2, Ld 47 128 3, Cl 48 89 #[Tm 46, Tm 47] #[124, 128], Mv 45 48, Xt 49 45 0, Xt 50 45 1, Sg 9 49, Sg 10 50]) (.seq (R0 [Mv 51 10]) (.cond (Tm 51) (.seq (R0 [Fa 52 210 8 0, Sr 3 (Tm 52) (Kn 1)]) (.seq (R0 [Ld 53 124 2, Ld 54 128 3, Cl 55 147 #[Tm 53, Tm 54] #[124, 128]]) (.block 2 (.rng (Tm 55) [56] (R0 [Oo 11 (.alloc 208), Sr 208 (Tm 11) (Tm 56)]) (.block 3 (.seq (R0 [Ld 58 208 11, Ld 59 128 3, Cl 60 90 #[Tm 58, Tm 59] #[208, 128], Mv 57 60, Xt 61 57 0, Xt 62 57 1, Oo 12 (.alloc 128), Oo 13 (.alloc 128), Sr 128 (Tm 12) (Tm 61), Sr 128 (Tm 13) (Tm 62)]) (.seq (.ord (.op o88_12 (.op o88_13 (.alt (.lop (Cl 65 88 #[Tm 63, Tm 64] #[124, 128]) (.op o88_14 (.op o88_15 (.alt (.op o88_16 (.lop (Cl 69 88 #[Tm 67, Tm 68] #[124, 128]) (.op o88_17 (.op o88_18 (.op o88_19 .done))))) (.lop (Cl 69 88 #[Tm 67, Tm 68] #[124, 128]) (.op o88_16 (.op o88_17 (.op o88_18 (.op o88_19 .done))))))))) (.alt (.op o88_14 (.alt (.lop (Cl 65 88 #[Tm 63, Tm 64] #[124, 128]) (.op o88_15 (.alt (.op o88_16 (.lop (Cl 69 88 #[Tm 67, Tm 68] #[124, 128]) (.op o88_17 (.op o88_18 (.op o88_19 .done))))) (.lop (Cl 69 88 #[Tm 67, Tm 68] #[124, 128]) (.op o88_16 (.op o88_17 (.op o88_18 (.op o88_19 .done)))))))) (.op o88_15 (.lop (Cl 65 88 #[Tm 63, Tm 64] #[124, 128]) (.alt (.op o88_16 (.lop (Cl 69 88 #[Tm 67, Tm 68] #[124, 128]) (.op o88_17 (.op o88_18 (.op o88_19 .done))))) (.lop (Cl 69 88 #[Tm 67, Tm 68] #[124, 128]) (.op o88_16 (.op o88_17 (.op o88_18 (.op o88_19 .done)))))))))) (.op o88_15 (.alt (.lop (Cl 65 88 #[Tm 63, Tm 64] #[124, 128]) (.op o88_14 (.alt (.op o88_16 (.lop (Cl 69 88 #[Tm 67, Tm 68] #[124, 128]) (.op o88_17 (.op o88_18 (.op o88_19 .done))))) (.lop (Cl 69 88 #[Tm 67, Tm 68] #[124, 128]) (.op o88_16 (.op o88_17 (.op o88_18 (.op o88_19 .done)))))))) (.op o88_14 (.lop (Cl 65 88 #[Tm 63, Tm 64] #[124, 128]) (.alt (.op o88_16 (.lop (Cl 69 88 #[Tm 67, Tm 68] #[124, 128]) (.op o88_17 (.op o88_18 (.op o88_19 .done))))) (.lop (Cl 69 88 #[Tm 67, Tm 68] #[124, 128]) (.op o88_16 (.op o88_17 (.op o88_18 (.op o88_19 .done))))))))))))))) (.seq (R0 [Mv 72 14, Fa 73 210 8 0, Ld 74 3 73, Bo 75 .gtr 3 (Tm 72) (Tm 74) 3]) (.cond (Tm 75) (R0 [Mv 76 14, Ld 77 208 11, Oo 78 (.build 210 #[(0, (Tm 76)), (1, (Tm 77))]), Sr 210 (Tm 8) (Tm 78)]) .skip))))))))) .skip))) (.seq (R1 [Ld 79 124 2, Nk 80 79, Fa 81 205 80 2, Ld 82 202 81, Ld 83 128 3, Ld 84 210 8, ⟨none, .mapUpdate 202 (Tm 82) (Tm 83) (Tm 84), none⟩]) (.seq (R0 [Ld 85 210 8, Sr 210 (Tm 4) (Tm 85)]) .ret)))))))⟩
theorem sf88 : sfOf Try.f88 = some s88 := by kernel_rfl
theorem hb88 : hasBody Try.prog 88 = true := by kernel_rfl
def s89 : SF := ⟨35, [.tmp 4, .tmp 5], (.seq (R0 [Oo 3 (.box 128 (Tm 1)), Sk 4 (Kb false), Sk 5 (Kb false)]) (.seq (.seq (R0 [Oo 9 (.build 260 #[(0, (Kb false)), (1, (Kb true))]), Oo 10 (.move (Kn 0))]) (.block 0 (.loop (.seq (R0 [Bo 11 .lss 3 (Tm 10) (Kn 2) 3]) (.seq (.cond (Tm 11) .skip (.exit 0)) (.seq (.block 1 (.seq (R0 [Oo 12 (.index 260 (Tm 9) (Tm 10)), Sg 7 12]) (.seq (R0 [Mv 13 0, Nk 14 13, Fa 15 205 14 0, Fa 16 123 15 1, Ld 17 28 16, Cl 18 148 #[Tm 17] #[28], Mv 19 7, Oo 20 (.lookup 261 (Tm 18) (Tm 19) false), Oo 8 (.alloc 128), Sr 128 (Tm 8) (Tm 20)]) (.seq (R0 [Oo 21 (.indexAddr 128 (Tm 8) (Kn 0)), Ld 22 3 21, Oo 23 (.indexAddr 128 (Tm 3) (Kn 0)), Ld 24 3 23, Bo 25 .leq 3 (Tm 22) (Tm 24) 3, Mv 26 25, Og 27 (.indexAddr 128 (Tm 8) (Kn 1)) 26 true, Gl 28 3 27 26 true, Og 29 (.indexAddr 128 (Tm 3) (Kn 1)) 26 true, Gl 30 3 29 26 true, Gb 31 .leq 3 (Tm 28) (Tm 30) 3 26 true, Pk 32 26 (Tm 31) (Kb false)]) (.cond (Tm 32) (.seq (R0 [Mv 33 7, Sg 4 33, Sk 5 (Kb true)]) .ret) .skip))))) (R0 [Bo 34 .add 3 (Tm 10) (Kn 1) 3, Mv 10 34]))))))) (.seq (R0 [Sk 4 (Kb false), Sk 5 (Kb false)]) .ret)))⟩
theorem sf89 : sfOf Try.f89 = some s89 := by kernel_rfl
theorem hb89 : hasBody Try.prog 89 = true := by kernel_rfl
def o90_0 : SO := (Ld 6 128 3)
def o90_1 : SO := (Ld 7 128 3)
def o90_2 : SO := (Sr 128 (Tm 4) (Tm 6))
def o90_3 : SO := (Sr 128 (Tm 5) (Tm 7))
def o90_4 : SO := (Fa 8 208 2 0)
def o90_5 : SO := (Ld 9 3 8)
def o90_6 : SO := (Fa 12 208 2 1)
def o90_7 : SO := (Ld 13 3 12)
def o90_8 : SO := (Ix 21 128 4 9)
def o90_9 : SO := (Sr 3 (Tm 21) (Tm 13))
def o90_10 : SO := (Fa 10 208 2 0)
def o90_11 : SO := (Ld 11 3 10)
def o90_12 : SO := (Fa 14 208 2 0)
def o90_13 : SO := (Ld 15 3 14)
def o90_14 : SO := (Ix 16 128 3 15)
def o90_15 : SO := (Ld 17 3 16)
def o90_16 : SO := (Fa 18 208 2 1)
def o90_17 : SO := (Ld 19 3 18)
def o90_18 : SO := (Bo 20 .sub 3 (Tm 17) (Tm 19) 3)
def o90_19 : SO := (Ix 22 128 5 11)
def o90_20 : SO := (Sr 3 (Tm 22) (Tm 20))
def o90_21 : SO := (Ld 23 128 4)
def o90_22 : SO := (Ld 24 128 5)
def o90_23 : SO := (Sr 128 (Tm 4) (Tm 23))
def o90_24 : SO := (Sr 128 (Tm 5) (Tm 24))
def s90 : SF := ⟨25, [.cell 4 128, .cell 5 128], (.seq (R0 [Oo 2 (.box 208 (Tm 0)), Oo 3 (.box 128 (Tm 1)), Oo 4 (.alloc 128), Oo 5 (.alloc 128)]) (.seq (.ord (.op o90_0 (.alt (.op o90_1 (.op o90_2 (.op o90_3 .done))) (.op o90_2 (.op o90_1 (.op o90_3 .done)))))) (.seq (.ord (.op o90_4 (.op o90_5 (.op o90_6 (.op o90_7 (.op o90_8 (.app o90_9 [2, 10, 2, 14, 3, 15, 16, 2, 18, 17, 19] [10, 11, 14, 15, 16, 17, 18, 19, 20] (.op o90_10 (.op o90_11 (.op o90_12 (.op o90_13 (.op o90_14 (.op o90_15 (.op o90_16 (.op o90_17 (.op o90_18 (.op o90_19 (.op o90_20 .done)))))))))))))))))) (.seq (.ord (.op o90_21 (.alt (.op o90_22 (.op o90_23 (.op o90_24 .done))) (.op o90_23 (.op o90_22 (.op o90_24 .done)))))) .ret))))⟩
theorem sf90 : sfOf Try.f90 = some s90 := by kernel_rfl
theorem hb90 : hasBody Try.prog 90 = true := by kernel_rfl
def s91 : SF := ⟨21, [.cell 6 123, .tmp 7], (.seq (R0 [Oo 3 (.box 30 (Tm 0)), Oo 4 (.box 28 (Tm 1)), Oo 6 (.alloc 123), Sk 7 (Kn 0)]) (.seq (.seq (R0 [Ld 9 30 3, Ld 10 28 4, Cl 11 41 #[Tm 9, Tm 10] #[30, 28], Sg 8 11]) (.seq (R0 [Mv 12 8, Bo 13 .neq 35 (Tm 12) (Kn 0) 35]) (.cond (Tm 13) (.seq (R0 [Oo 14 (.build 123 #[]), Mv 15 8, Sr 123 (Tm 6) (Tm 14), Sg 7 15]) .ret) .skip))) (.seq (R1 [Ld 16 30 3, Ld 17 28 4, Oo 18 (.build 123 #[(0, (Tm 16)), (1, (Tm 17))]), Mv 19 2, Cl 20 149 #[Tm 19] #[216], Sr 123 (Tm 6) (Tm 18), Sg 7 20]) .ret)))⟩
theorem sf91 : sfOf Try.f91 = some s91 := by kernel_rfl
theorem hb91 : hasBody Try.prog 91 = true := by kernel_rfl
def s92 : SF := ⟨48, [.tmp 4, .tmp 5], (.seq (R0 [Oo 2 (.box 123 (Tm 0)), Sk 4 (Kn 0), Sk 5 (Kn 0)]) (.seq (R0 [Ld 11 123 2, Cl 12 44 #[Tm 11] #[123], Oo 13 (.buildSlice 264 0 #[]), Oo 6 (.alloc 128), Sr 128 (Tm 6) (Tm 12), Sg 7 13]) (.seq (.seq (R0 [Mv 14 1, Lq 15 14 34, Oo 16 (.move (Kn 0))]) (.block 0 (.loop (.seq (R0 [Bo 17 .lss 3 (Tm 16) (Tm 15) 3]) (.seq (.cond (Tm 17) .skip (.exit 0)) (.seq (.block 1 (.seq (R0 [Mv 18 16, Ix 19 34 14 16, Ld 20 67 19, Oo 9 (.alloc 67), Sg 8 18, Sr 67 (Tm 9) (Tm 20)]) (.seq (R0 [Ld 21 123 2, Ld 22 67 9, Cl 23 150 #[Tm 21, Tm 22] #[123, 67], Oo 10 (.alloc 266), Sr 266 (Tm 10) (Tm 23)]) (.seq (.block 2 (.seq (.seq (R0 [Fa 25 266 10 1, Oo 26 (.indexAddr 128 (Tm 25) (Kn 0)), Ld 27 3 26, Oo 28 (.indexAddr 128 (Tm 6) (Kn 0)), Ld 29 3 28, Bo 30 .gtr 3 (Tm 27) (Tm 29) 3, Sg 24 30]) (.cond (Tm 24) .skip (R0 [Fa 31 266 10 1, Oo 32 (.indexAddr 128 (Tm 31) (Kn 1)), Ld 33 3 32, Oo 34 (.indexAddr 128 (Tm 6) (Kn 1)), Ld 35 3 34, Bo 36 .gtr 3 (Tm 33) (Tm 35) 3, Sg 24 36]))) (.cond (Tm 24) (.seq (R0 [Mv 37 8, Sg 4 37, Sk 5 (Kn 1)]) .ret) (.seq (R0 [Mv 39 7, Oo 40 (.makeFunc (.func 152) #[] #[Tm 10]), Cl 41 151 #[Tm 39, Tm 40] #[264, 270], Sg 38 41]) (.cond (Tm 38) (.seq (R0 [Mv 42 8, Sg 4 42, Sk 5 (Kn 2)]) .ret) .skip))))) (R0 [Mv 43 7, Ld 44 266 10, Oo 45 (.buildSlice 264 1 #[(0, (Tm 44))]), Oo 46 (.call { callee := .builtin .append, args := #[Tm 43, Tm 45], argTypes := #[264, 264] }), Sg 7 46]))))) (R0 [Bo 47 .add 3 (Tm 16) (Kn 1) 3, Mv 16 47]))))))) (.seq (R0 [Sk 4 (Kn 0), Sk 5 (Kn 0)]) .ret))))⟩
theorem sf92 : sfOf Try.f92 = some s92 := by kernel_rfl
theorem hb92 : hasBody Try.prog 92 = true := by kernel_rfl
def s93 : SF := ⟨22, [.tmp 6], (.seq (R0 [Oo 3 (.box 25 (Tm 0)), Sk 6 (Kb false)]) (.seq (R0 [Mv 7 1, Mv 8 2, Fa 9 25 3 0, Ld 10 3 9, Fa 11 25 3 1, Ld 12 3 11, Oo 13 (.buildSlice 61 2 #[(0, (Tm 10)), (1, (Tm 12))]), Cl 14 94 #[Tm 7, Tm 8, Tm 13] #[3, 3, 61], Mv 15 14, Gf 16 25 3 0 15 true, Gl 17 3 16 15 true, Gf 18 25 3 1 15 true, Gl 19 3 18 15 true, Gb 20 .leq 3 (Tm 17) (Tm 19) 3 15 true, Pk 21 15 (Tm 20) (Kb false), Sg 6 21]) .ret))⟩
theorem sf93 : sfOf Try.f93 = some s93 := by kernel_rfl
theorem hb93 : hasBody Try.prog 93 = true := by kernel_rfl
def s94 : SF := ⟨11, [.tmp 6], (.seq (R0 [Oo 3 (.box 3 (Tm 0)), Oo 4 (.box 3 (Tm 1)), Sk 6 (Kb false)]) (.seq (R0 [Mv 7 2, Oo 8 (.makeFunc (.func 154) #[] #[Tm 3, Tm 4]), Cl 9 104 #[Tm 7, Tm 8] #[61, 228], Oo 10 (.unOp .not 4 (Tm 9)), Sg 6 10]) .ret))⟩
theorem sf94 : sfOf Try.f94 = some s94 := by kernel_rfl
theorem hb94 : hasBody Try.prog 94 = true := by kernel_rfl
def s95 : SF := ⟨17, [.tmp 5], (.seq (R0 [Sk 5 (Kn 0)]) (.seq (R1 [Mv 6 0, Mv 7 1, Fa 8 135 2 2, Ld 9 3 8, Bo 10 .mul 3 (Tm 7) (Tm 9) 3, Cl 11 96 #[Tm 10] #[3], Bo 12 .mul 3 (Tm 6) (Tm 11) 3, Fa 13 135 2 3, Ld 14 3 13, Bo 15 .mul 3 (Tm 12) (Tm 14) 3, Bo 16 .quo 3 (Tm 15) (Kn 100000) 3, Sg 5 16]) .ret))⟩
theorem sf95 : sfOf Try.f95 = some s95 := by kernel_rfl
theorem hb95 : hasBody Try.prog 95 = true := by kernel_rfl
def s96 : SF := ⟨7, [.tmp 2], (.seq (R0 [Oo 1 (.box 3 (Tm 0)), Sk 2 (Kn 0)]) (.seq (R0 [Ld 3 3 1, Bo 4 .add 3 (Tm 3) (Kn 1) 3, Oo 5 (.makeFunc (.func 156) #[] #[Tm 1]), Cl 6 155 #[Tm 4, Tm 5] #[3, 228], Sg 2 6]) .ret))⟩
theorem sf96 : sfOf Try.f96 = some s96 := by kernel_rfl
theorem hb96 : hasBody Try.prog 96 = true := by kernel_rfl
def s97 : SF := ⟨13, [.tmp 2], (.seq (R0 [Oo 1 (.box 45 (Tm 0)), Sk 2 (Kb false)]) (.seq (R0 [Fa 3 45 1 0, Ld 4 25 3, Cl 5 93 #[Tm 4, Kn 0, Kn 20000000] #[25, 3, 3], Oo 6 (.unOp .not 4 (Tm 5)), Mv 7 6, Gf 8 45 1 1 7 false, Gl 9 25 8 7 false, Gc 10 93 #[Tm 9, Kn 0, Kn 100000] #[25, 3, 3] 7 false, Og 11 (.unOp .not 4 (Tm 10)) 7 false, Pk 12 7 (Kb true) (Tm 11), Sg 2 12]) .ret))⟩
theorem sf97 : sfOf Try.f97 = some s97 := by kernel_rfl
theorem hb97 : hasBody Try.prog 97 = true := by kernel_rfl
def s98 : SF := ⟨9, [.tmp 4], (.seq (R0 [Sk 4 (Kb false)]) (.seq (R0 [Mv 5 0, Mv 6 1, Cl 7 157 #[Tm 5, Tm 6] #[43, 221], Bo 8 .geq 3 (Tm 7) (Kn 0) 3, Sg 4 8]) .ret))⟩
theorem sf98 : sfOf Try.f98 = some s98 := by kernel_rfl
theorem hb98 : hasBody Try.prog 98 = true := by kernel_rfl
def s99 : SF := ⟨28, [], (.seq (R0 [Oo 2 (.box 95 (Tm 0))]) (.seq (R0 [Oo 3 (.alloc 25)]) (.seq (R0 [Ld 6 43 1, Cl 7 100 #[Tm 6] #[43]]) (.block 0 (.rng (Tm 7) [8, 9] (.seq (R0 [Sg 4 8]) (R0 [Oo 5 (.alloc 45), Sr 45 (Tm 5) (Tm 9)])) (.block 1 (.seq (.seq (R0 [Ld 10 95 2, Mv 11 4, Ld 12 25 3, Oo 13 (.call { callee := .value (Tm 10), args := #[Tm 11, Tm 12], argTypes := #[3, 25] }), Oo 14 (.unOp .not 4 (Tm 13))]) (.cond (Tm 14) .ret .skip)) (R0 [Fa 15 25 3 0, Ld 16 3 15, Fa 17 45 5 1, Fa 18 25 17 0, Ld 19 3 18, Bo 20 .add 3 (Tm 16) (Tm 19) 3, Fa 21 25 3 1, Ld 22 3 21, Fa 23 45 5 1, Fa 24 25 23 1, Ld 25 3 24, Bo 26 .add 3 (Tm 22) (Tm 25) 3, Oo 27 (.build 25 #[(0, (Tm 20)), (1, (Tm 26))]), Sr 25 (Tm 3) (Tm 27)]))))))))⟩
theorem sf99 : sfOf Try.f99 = some s99 := by kernel_rfl
theorem hb99 : hasBody Try.prog 99 = true := by kernel_rfl
def s100 : SF := ⟨4, [.tmp 2], (.seq (R0 [Oo 1 (.box 43 (Tm 0)), Oo 2 (.assign (.const .nilFunc))]) (.seq (R0 [Oo 3 (.makeFunc (.func 158) #[] #[Tm 1]), Sg 2 3]) .ret))⟩
theorem sf100 : sfOf Try.f100 = some s100 := by kernel_rfl
theorem hb100 : hasBody Try.prog 100 = true := by kernel_rfl
def s104 : SF := ⟨9, [.tmp 4], (.seq (R0 [Sk 4 (Kb false)]) (.seq (R0 [Mv 5 0, Mv 6 1, Cl 7 159 #[Tm 5, Tm 6] #[61, 228], Bo 8 .geq 3 (Tm 7) (Kn 0) 3, Sg 4 8]) .ret))⟩
theorem sf104 : sfOf Try.f104 = some s104 := by kernel_rfl
theorem hb104 : hasBody Try.prog 104 = true := by kernel_rfl
end Go.Dw.Seat
end
section
namespace Go.Dw.Seat
open Go Go.Dw Go.Proofs
def s116 : SF := ⟨15, [.tmp 2], (.seq (R0 [Oo 1 (.box 171 (Tm 0)), Sk 2 (Kb false)]) (.seq (R0 [Fa 3 171 1 0, Ld 4 25 3, Oo 5 (.buildSlice 46 1 #[(0, (Tm 4))]), Cl 6 68 #[Tm 5] #[46], Oo 7 (.unOp .not 4 (Tm 6)), Mv 8 7, Gf 9 171 1 1 8 false, Gl 10 3 9 8 false, Og 11 (.buildSlice 61 1 #[(0, (Tm 10))]) 8 false, Gc 12 67 #[Kn 0, Kn 500, Tm 11] #[3, 3, 61] 8 false, Og 13 (.unOp .not 4 (Tm 12)) 8 false, Pk 14 8 (Kb true) (Tm 13), Sg 2 14]) .ret))⟩
theorem sf116 : sfOf Try.f116 = some s116 := by kernel_rfl
theorem hb116 : hasBody Try.prog 116 = true := by kernel_rfl
def s117 : SF := ⟨9, [.tmp 2], (.seq (R0 [Oo 1 (.box 84 (Tm 0)), Sk 2 (Kb false)]) (.seq (R0 [Fa 3 84 1 0, Ld 4 3 3, Fa 5 84 1 1, Ld 6 3 5, Oo 7 (.buildSlice 61 2 #[(0, (Tm 4)), (1, (Tm 6))]), Cl 8 67 #[Kn 0, Kn 50, Tm 7] #[3, 3, 61], Sg 2 8]) .ret))⟩
theorem sf117 : sfOf Try.f117 = some s117 := by kernel_rfl
theorem hb117 : hasBody Try.prog 117 = true := by kernel_rfl
def s118 : SF := ⟨9, [.tmp 4], (.seq (R0 [Sk 4 (Kb false)]) (.seq (R0 [Mv 5 0, Mv 6 1, Cl 7 169 #[Tm 5, Tm 6] #[85, 237], Bo 8 .geq 3 (Tm 7) (Kn 0) 3, Sg 4 8]) .ret))⟩
theorem sf118 : sfOf Try.f118 = some s118 := by kernel_rfl
theorem hb118 : hasBody Try.prog 118 = true := by kernel_rfl
def s119 : SF := ⟨26, [], (.seq (R0 [Ld 7 85 1, Lq 8 7 85, Oo 9 (.move (Kn 0))]) (.block 0 (.loop (.seq (R0 [Bo 10 .lss 3 (Tm 9) (Tm 8) 3]) (.seq (.cond (Tm 10) .skip (.exit 0)) (.seq (.block 1 (.seq (R0 [Ix 11 85 7 9, Ld 12 171 11, Oo 6 (.alloc 171), Sr 171 (Tm 6) (Tm 12)]) (.seq (R0 [Ld 13 175 2, Ld 14 84 3, Fa 15 171 6 0, Ld 16 25 15, Fa 17 171 6 1, Ld 18 3 17, Cl 19 120 #[Tm 13, Tm 14, Tm 16, Tm 18] #[175, 84, 25, 3], Sr 175 (Tm 2) (Tm 19)]) (.seq (R0 [Mv 20 0, Ld 21 171 6, Ld 22 175 2, Oo 23 (.call { callee := .value (Tm 20), args := #[Tm 21, Tm 22], argTypes := #[171, 175] }), Oo 24 (.unOp .not 4 (Tm 23))]) (.cond (Tm 24) .ret .skip))))) (R0 [Bo 25 .add 3 (Tm 9) (Kn 1) 3, Mv 9 25])))))))⟩
theorem sf119 : sfOf Try.f119 = some s119 := by kernel_rfl
theorem hb119 : hasBody Try.prog 119 = true := by kernel_rfl
def s120 : SF := ⟨27, [.cell 8 175], (.seq (R0 [Oo 4 (.box 175 (Tm 0)), Oo 5 (.box 84 (Tm 1)), Oo 6 (.box 25 (Tm 2)), Oo 8 (.alloc 175)]) (.seq (R1 [Ld 9 84 5, Fa 10 175 4 0, Fa 11 25 10 0, Ld 12 3 11, Fa 13 25 6 0, Ld 14 3 13, Mv 15 3, Cl 16 170 #[Tm 9, Tm 12, Tm 14, Tm 15] #[84, 3, 3, 3], Ld 17 84 5, Fa 18 175 4 0, Fa 19 25 18 1, Ld 20 3 19, Fa 21 25 6 1, Ld 22 3 21, Mv 23 3, Cl 24 170 #[Tm 17, Tm 20, Tm 22, Tm 23] #[84, 3, 3, 3], Oo 25 (.build 25 #[(0, (Tm 16)), (1, (Tm 24))]), Oo 26 (.build 175 #[(0, (Tm 25))]), Sr 175 (Tm 8) (Tm 26)]) .ret))⟩
theorem sf120 : sfOf Try.f120 = some s120 := by kernel_rfl
theorem hb120 : hasBody Try.prog 120 = true := by kernel_rfl
def s121 : SF := ⟨13, [.tmp 4], (.seq (R0 [Sk 4 (Kb false)]) (.seq (R0 [Mv 5 0, Ld 6 3 1, Bo 7 .lss 3 (Tm 5) (Tm 6) 3, Mv 8 7, Gm 9 0 8 false, Gl 10 3 2 8 false, Gb 11 .gtr 3 (Tm 9) (Tm 10) 3 8 false, Pk 12 8 (Kb true) (Tm 11), Sg 4 12]) .ret))⟩
theorem sf121 : sfOf Try.f121 = some s121 := by kernel_rfl
theorem hb121 : hasBody Try.prog 121 = true := by kernel_rfl
def s122 : SF := ⟨9, [.tmp 4], (.seq (R0 [Sk 4 (Kb false)]) (.seq (R0 [Mv 5 0, Mv 6 1, Cl 7 171 #[Tm 5, Tm 6] #[46, 243], Bo 8 .geq 3 (Tm 7) (Kn 0) 3, Sg 4 8]) .ret))⟩
theorem sf122 : sfOf Try.f122 = some s122 := by kernel_rfl
theorem hb122 : hasBody Try.prog 122 = true := by kernel_rfl
def s123 : SF := ⟨7, [.tmp 2], (.seq (R0 [Oo 1 (.box 25 (Tm 0)), Sk 2 (Kb false)]) (.seq (R0 [Ld 3 25 1, Oo 4 (.build 175 #[(0, (Tm 3))]), Cl 5 124 #[Tm 4] #[175], Oo 6 (.unOp .not 4 (Tm 5)), Sg 2 6]) .ret))⟩
theorem sf123 : sfOf Try.f123 = some s123 := by kernel_rfl
theorem hb123 : hasBody Try.prog 123 = true := by kernel_rfl
def s124 : SF := ⟨20, [.tmp 2], (.seq (R0 [Oo 1 (.box 175 (Tm 0)), Sk 2 (Kb false)]) (.seq (R0 [Fa 3 175 1 0, Fa 4 25 3 0, Ld 5 3 4, Fa 6 175 1 0, Fa 7 25 6 1, Ld 8 3 7, Oo 9 (.buildSlice 61 2 #[(0, (Tm 5)), (1, (Tm 8))]), Cl 10 67 #[Kn 0, Kn 300, Tm 9] #[3, 3, 61], Mv 11 10, Gf 12 175 1 0 11 true, Gf 13 25 12 0 11 true, Gl 14 3 13 11 true, Gf 15 175 1 0 11 true, Gf 16 25 15 1 11 true, Gl 17 3 16 11 true, Gb 18 .leq 3 (Tm 14) (Tm 17) 3 11 true, Pk 19 11 (Tm 18) (Kb false), Sg 2 19]) .ret))⟩
theorem sf124 : sfOf Try.f124 = some s124 := by kernel_rfl
theorem hb124 : hasBody Try.prog 124 = true := by kernel_rfl
def s125 : SF := ⟨19, [.tmp 4], (.seq (R0 [Oo 2 (.box 175 (Tm 0)), Oo 3 (.box 25 (Tm 1)), Sk 4 (Kb false)]) (.seq (R0 [Fa 5 175 2 0, Fa 6 25 5 0, Ld 7 3 6, Fa 8 25 3 0, Ld 9 3 8, Bo 10 .geq 3 (Tm 7) (Tm 9) 3, Mv 11 10, Gf 12 175 2 0 11 true, Gf 13 25 12 1 11 true, Gl 14 3 13 11 true, Gf 15 25 3 1 11 true, Gl 16 3 15 11 true, Gb 17 .leq 3 (Tm 14) (Tm 16) 3 11 true, Pk 18 11 (Tm 17) (Kb false), Sg 4 18]) .ret))⟩
theorem sf125 : sfOf Try.f125 = some s125 := by kernel_rfl
theorem hb125 : hasBody Try.prog 125 = true := by kernel_rfl
def s126 : SF := ⟨14, [.tmp 2], (.seq (R0 [Oo 1 (.box 108 (Tm 0)), Sk 2 (Kb false)]) (.seq (R0 [Fa 3 108 1 0, Ld 4 3 3, Oo 5 (.buildSlice 61 1 #[(0, (Tm 4))]), Cl 6 85 #[Kn 1, Kn 2000, Tm 5] #[3, 3, 61], Oo 7 (.unOp .not 4 (Tm 6)), Mv 8 7, Gf 9 108 1 1 8 false, Gl 10 25 9 8 false, Gc 11 86 #[Tm 10, Kn 0, Kn 5000000] #[25, 3, 3] 8 false, Og 12 (.unOp .not 4 (Tm 11)) 8 false, Pk 13 8 (Kb true) (Tm 12), Sg 2 13]) .ret))⟩
theorem sf126 : sfOf Try.f126 = some s126 := by kernel_rfl
theorem hb126 : hasBody Try.prog 126 = true := by kernel_rfl
def s127 : SF := ⟨9, [.tmp 4], (.seq (R0 [Sk 4 (Kb false)]) (.seq (R0 [Mv 5 0, Mv 6 1, Cl 7 172 #[Tm 5, Tm 6] #[106, 244], Bo 8 .geq 3 (Tm 7) (Kn 0) 3, Sg 4 8]) .ret))⟩
theorem sf127 : sfOf Try.f127 = some s127 := by kernel_rfl
theorem hb127 : hasBody Try.prog 127 = true := by kernel_rfl
def s139 : SF := ⟨16, [.cell 4 25], (.seq (R0 [Oo 2 (.box 25 (Tm 0)), Oo 3 (.box 25 (Tm 1)), Oo 4 (.alloc 25)]) (.seq (R0 [Fa 5 25 2 0, Ld 6 3 5, Fa 7 25 3 0, Ld 8 3 7, Bo 9 .add 3 (Tm 6) (Tm 8) 3, Fa 10 25 2 1, Ld 11 3 10, Fa 12 25 3 1, Ld 13 3 12, Bo 14 .add 3 (Tm 11) (Tm 13) 3, Oo 15 (.build 25 #[(0, (Tm 9)), (1, (Tm 14))]), Sr 25 (Tm 4) (Tm 15)]) .ret))⟩
theorem sf139 : sfOf Try.f139 = some s139 := by kernel_rfl
theorem hb139 : hasBody Try.prog 139 = true := by kernel_rfl
def s140 : SF := ⟨24, [.cell 4 25], (.seq (R0 [Oo 2 (.box 25 (Tm 0)), Oo 4 (.alloc 25)]) (.seq (R0 [Fa 5 25 2 0, Ld 6 3 5, Mv 7 1, Bo 8 .mul 3 (Tm 6) (Tm 7) 3, Fa 9 25 2 1, Ld 10 3 9, Mv 11 1, Bo 12 .mul 3 (Tm 10) (Tm 11) 3, Oo 13 (.call { callee := .builtin .min, args := #[Tm 8, Tm 12], argTypes := #[3, 3] }), Fa 14 25 2 0, Ld 15 3 14, Mv 16 1, Bo 17 .mul 3 (Tm 15) (Tm 16) 3, Fa 18 25 2 1, Ld 19 3 18, Mv 20 1, Bo 21 .mul 3 (Tm 19) (Tm 20) 3, Oo 22 (.call { callee := .builtin .max, args := #[Tm 17, Tm 21], argTypes := #[3, 3] }), Oo 23 (.build 25 #[(0, (Tm 13)), (1, (Tm 22))]), Sr 25 (Tm 4) (Tm 23)]) .ret))⟩
theorem sf140 : sfOf Try.f140 = some s140 := by kernel_rfl
theorem hb140 : hasBody Try.prog 140 = true := by kernel_rfl
def s141 : SF := ⟨15, [.tmp 3], (.seq (R0 [Sk 3 (Kn 0)]) (.seq (R1 [Mv 4 0, Mv 5 0, Ld 6 3 1, Bo 7 .rem 3 (Tm 5) (Tm 6) 3, Ld 8 3 1, Bo 9 .add 3 (Tm 7) (Tm 8) 3, Ld 10 3 1, Bo 11 .rem 3 (Tm 9) (Tm 10) 3, Bo 12 .sub 3 (Tm 4) (Tm 11) 3, Ld 13 3 1, Bo 14 .quo 3 (Tm 12) (Tm 13) 3, Sg 3 14]) .ret))⟩
theorem sf141 : sfOf Try.f141 = some s141 := by kernel_rfl
theorem hb141 : hasBody Try.prog 141 = true := by kernel_rfl
def s145 : SF := ⟨13, [.tmp 4], (.seq (R0 [Sk 4 (Kb false)]) (.seq (R0 [Mv 5 0, Ld 6 3 1, Bo 7 .lss 3 (Tm 5) (Tm 6) 3, Mv 8 7, Gm 9 0 8 false, Gl 10 3 2 8 false, Gb 11 .gtr 3 (Tm 9) (Tm 10) 3 8 false, Pk 12 8 (Kb true) (Tm 11), Sg 4 12]) .ret))⟩
theorem sf145 : sfOf Try.f145 = some s145 := by kernel_rfl
theorem hb145 : hasBody Try.prog 145 = true := by kernel_rfl
def s146 : SF := ⟨50, [.tmp 4], (.seq (R0 [Oo 2 (.box 28 (Tm 0)), Oo 4 (.assign (.const (.slice none 0 0)))]) (.seq (R0 [Mv 9 1, Bo 10 .add 3 (Tm 9) (Kn 1) 3, Oo 11 (.makeSlice 255 (Tm 10) (Tm 10)), Sg 5 11]) (.seq (R0 [Mv 12 5, Oo 13 (.indexAddr 255 (Tm 12) (Kn 0)), Sr 4 (Tm 13) (Kb true)]) (.seq (.seq (R0 [Mv 14 5, Lq 15 14 255, Oo 16 (.move (Kn 0))]) (.block 0 (.loop (.seq (R0 [Bo 17 .lss 3 (Tm 16) (Tm 15) 3]) (.seq (.cond (Tm 17) .skip (.exit 0)) (.seq (.block 1 (.seq (R0 [Mv 18 16, Sg 6 18]) (.seq (R0 [Fa 19 28 2 0, Ld 20 3 19, Fa 21 28 2 1, Ld 22 3 21, Oo 23 (.build 127 #[(0, (Tm 20)), (1, (Tm 22))]), Oo 24 (.move (Kn 0))]) (.block 2 (.loop (.seq (R0 [Bo 25 .lss 3 (Tm 24) (Kn 2) 3]) (.seq (.cond (Tm 25) .skip (.exit 2)) (.seq (.block 3 (.seq (R0 [Oo 26 (.index 127 (Tm 23) (Tm 24)), Sg 8 26]) (R0 [Mv 27 5, Mv 28 6, Mv 29 5, Mv 30 6, Ix 31 255 29 30, Ld 32 4 31, Mv 33 32, Gm 34 6 33 false, Gm 35 8 33 false, Gb 36 .geq 3 (Tm 34) (Tm 35) 3 33 false, Gm 37 36 33 false, Gm 38 5 37 true, Gm 39 6 37 true, Gm 40 8 37 true, Gb 41 .sub 3 (Tm 39) (Tm 40) 3 37 true, Gx 42 255 38 41 37 true, Gl 43 4 42 37 true, Og 44 (.pick (Tm 37) (Tm 43) (Kb false)) 33 false, Pk 45 33 (Kb true) (Tm 44), Ix 46 255 27 28, Sr 4 (Tm 46) (Tm 45)]))) (R0 [Bo 47 .add 3 (Tm 24) (Kn 1) 3, Mv 24 47]))))))))) (R0 [Bo 48 .add 3 (Tm 16) (Kn 1) 3, Mv 16 48]))))))) (.seq (R0 [Mv 49 5, Sg 4 49]) .ret)))))⟩
theorem sf146 : sfOf Try.f146 = some s146 := by kernel_rfl
theorem hb146 : hasBody Try.prog 146 = true := by kernel_rfl
def s147 : SF := ⟨6, [.tmp 4], (.seq (R0 [Oo 2 (.box 124 (Tm 0)), Oo 3 (.box 128 (Tm 1)), Oo 4 (.assign (.const .nilFunc))]) (.seq (R0 [Oo 5 (.makeFunc (.func 177) #[] #[Tm 3, Tm 2]), Sg 4 5]) .ret))⟩
theorem sf147 : sfOf Try.f147 = some s147 := by kernel_rfl
theorem hb147 : hasBody Try.prog 147 = true := by kernel_rfl
def s148 : SF := ⟨15, [.tmp 2], (.seq (R0 [Oo 1 (.box 28 (Tm 0)), Oo 2 (.assign (.const (.map none)))]) (.seq (R0 [Oo 3 (.makeMap 261 none), Fa 4 28 1 0, Ld 5 3 4, Fa 6 28 1 1, Ld 7 3 6, Oo 8 (.build 128 #[(0, (Tm 5)), (1, (Tm 7))]), ⟨none, .insert 261 (Tm 3) (Kb false) (Tm 8), none⟩, Fa 9 28 1 1, Ld 10 3 9, Fa 11 28 1 0, Ld 12 3 11, Oo 13 (.build 128 #[(0, (Tm 10)), (1, (Tm 12))]), ⟨none, .insert 261 (Tm 3) (Kb true) (Tm 13), none⟩, Mv 14 3, Sg 2 14]) .ret))⟩
theorem sf148 : sfOf Try.f148 = some s148 := by kernel_rfl
theorem hb148 : hasBody Try.prog 148 = true := by kernel_rfl
def s149 : SF := ⟨19, [.tmp 2], (.seq (R0 [Sk 2 (Kn 0)]) (.seq (.seq (R0 [Mv 5 0, Lq 6 5 216, Oo 7 (.move (Kn 0))]) (.block 0 (.loop (.seq (R0 [Bo 8 .lss 3 (Tm 7) (Tm 6) 3]) (.seq (.cond (Tm 8) .skip (.exit 0)) (.seq (.block 1 (.seq (R0 [Ix 9 216 5 7, Ld 10 34 9, Sg 4 10]) (.block 2 (.seq (R0 [Mv 12 4, Lq 13 12 34, Bo 14 .gtr 3 (Tm 13) (Kn 200) 3, Sg 11 14]) (.cond (Tm 11) (.seq (R0 [Sk 2 (Kn 5)]) .ret) (.seq (R0 [Mv 16 4, Cl 17 178 #[Tm 16, .func 179] #[34, 292], Sg 15 17]) (.cond (Tm 15) (.seq (R0 [Sk 2 (Kn 4)]) .ret) .skip))))))) (R0 [Bo 18 .add 3 (Tm 7) (Kn 1) 3, Mv 7 18]))))))) (.seq (R0 [Sk 2 (Kn 0)]) .ret)))⟩
theorem sf149 : sfOf Try.f149 = some s149 := by kernel_rfl
theorem hb149 : hasBody Try.prog 149 = true := by kernel_rfl
def s150 : SF := ⟨29, [.cell 4 266], (.seq (R0 [Oo 2 (.box 123 (Tm 0)), Oo 3 (.box 67 (Tm 1)), Oo 4 (.alloc 266)]) (.seq (R1 [Fa 6 123 2 1, Ld 7 28 6, Cl 8 148 #[Tm 7] #[28], Fa 9 67 3 2, Ld 10 4 9, Oo 11 (.lookup 261 (Tm 8) (Tm 10) false), Oo 5 (.alloc 128), Sr 128 (Tm 5) (Tm 11)]) (.seq (R0 [Fa 12 67 3 0, Ld 13 3 12, Fa 14 67 3 1, Ld 15 3 14, Oo 16 (.build 128 #[(0, (Tm 13)), (1, (Tm 15))]), Fa 17 67 3 0, Ld 18 3 17, Oo 19 (.indexAddr 128 (Tm 5) (Kn 0)), Ld 20 3 19, Bo 21 .add 3 (Tm 18) (Tm 20) 3, Fa 22 67 3 1, Ld 23 3 22, Oo 24 (.indexAddr 128 (Tm 5) (Kn 1)), Ld 25 3 24, Bo 26 .add 3 (Tm 23) (Tm 25) 3, Oo 27 (.build 128 #[(0, (Tm 21)), (1, (Tm 26))]), Oo 28 (.build 266 #[(0, (Tm 16)), (1, (Tm 27))]), Sr 266 (Tm 4) (Tm 28)]) .ret)))⟩
theorem sf150 : sfOf Try.f150 = some s150 := by kernel_rfl
theorem hb150 : hasBody Try.prog 150 = true := by kernel_rfl
def s151 : SF := ⟨9, [.tmp 4], (.seq (R0 [Sk 4 (Kb false)]) (.seq (R0 [Mv 5 0, Mv 6 1, Cl 7 180 #[Tm 5, Tm 6] #[264, 270], Bo 8 .geq 3 (Tm 7) (Kn 0) 3, Sg 4 8]) .ret))⟩
theorem sf151 : sfOf Try.f151 = some s151 := by kernel_rfl
theorem hb151 : hasBody Try.prog 151 = true := by kernel_rfl
def s152 : SF := ⟨8, [.tmp 3], (.seq (R0 [Oo 2 (.box 266 (Tm 0)), Sk 3 (Kb false)]) (.seq (R0 [Ld 4 266 1, Ld 5 266 2, Cl 6 153 #[Tm 4, Tm 5] #[266, 266], Bo 7 .gtr 3 (Tm 6) (Kn 0) 3, Sg 3 7]) .ret))⟩
theorem sf152 : sfOf Try.f152 = some s152 := by kernel_rfl
theorem hb152 : hasBody Try.prog 152 = true := by kernel_rfl
def s153 : SF := ⟨34, [.tmp 4], (.seq (R0 [Oo 2 (.box 266 (Tm 0)), Oo 3 (.box 266 (Tm 1)), Sk 4 (Kn 0)]) (.seq (R0 [Sk 5 (Kn 1)]) (.seq (.seq (R0 [Oo 7 (.move (Kn 0))]) (.block 0 (.loop (.seq (R0 [Bo 8 .lss 3 (Tm 7) (Kn 2) 3]) (.seq (.cond (Tm 8) .skip (.exit 0)) (.seq (.block 1 (.seq (R0 [Mv 9 7, Sg 6 9]) (R1 [Mv 10 5, Mv 11 6, Fa 12 266 2 1, Ix 13 128 12 11, Ld 14 3 13, Mv 15 6, Fa 16 266 3 1, Ix 17 128 16 15, Ld 18 3 17, Oo 19 (.call { callee := .builtin .min, args := #[Tm 14, Tm 18], argTypes := #[3, 3] }), Mv 20 6, Fa 21 266 2 0, Ix 22 128 21 20, Ld 23 3 22, Mv 24 6, Fa 25 266 3 0, Ix 26 128 25 24, Ld 27 3 26, Oo 28 (.call { callee := .builtin .max, args := #[Tm 23, Tm 27], argTypes := #[3, 3] }), Bo 29 .sub 3 (Tm 19) (Tm 28) 3, Oo 30 (.call { callee := .builtin .max, args := #[Kn 0, Tm 29], argTypes := #[3, 3] }), Bo 31 .mul 3 (Tm 10) (Tm 30) 3, Sg 5 31]))) (R0 [Bo 32 .add 3 (Tm 7) (Kn 1) 3, Mv 7 32]))))))) (.seq (R0 [Mv 33 5, Sg 4 33]) .ret))))⟩
theorem sf153 : sfOf Try.f153 = some s153 := by kernel_rfl
theorem hb153 : hasBody Try.prog 153 = true := by kernel_rfl
def s154 : SF := ⟨13, [.tmp 4], (.seq (R0 [Sk 4 (Kb false)]) (.seq (R0 [Mv 5 0, Ld 6 3 1, Bo 7 .lss 3 (Tm 5) (Tm 6) 3, Mv 8 7, Gm 9 0 8 false, Gl 10 3 2 8 false, Gb 11 .gtr 3 (Tm 9) (Tm 10) 3 8 false, Pk 12 8 (Kb true) (Tm 11), Sg 4 12]) .ret))⟩
theorem sf154 : sfOf Try.f154 = some s154 := by kernel_rfl
theorem hb154 : hasBody Try.prog 154 = true := by kernel_rfl
def s155 : SF := ⟨26, [.tmp 4], (.seq (R0 [Sk 4 (Kn 0)]) (.seq (R0 [Mv 8 0, Sk 5 (Kn 0), Sg 6 8]) (.seq (.block 0 (.loop (.seq (.seq (R0 [Mv 9 5, Mv 10 6, Bo 11 .lss 3 (Tm 9) (Tm 10) 3]) (.cond (Tm 11) .skip (.exit 0))) (.block 1 (.seq (R0 [Mv 12 5, Mv 13 6, Bo 14 .add 3 (Tm 12) (Tm 13) 3, Oo 15 (.convert 3 294 (Tm 14)), Bo 16 .shr 294 (Tm 15) (.const (.int .u64 1)) 294, Oo 17 (.convert 294 3 (Tm 16)), Sg 7 17]) (.seq (R0 [Mv 18 1, Mv 19 7, Oo 20 (.call { callee := .value (Tm 18), args := #[Tm 19], argTypes := #[3] }), Oo 21 (.unOp .not 4 (Tm 20))]) (.cond (Tm 21) (R0 [Mv 22 7, Bo 23 .add 3 (Tm 22) (Kn 1) 3, Sg 5 23]) (R0 [Mv 24 7, Sg 6 24])))))))) (.seq (R0 [Mv 25 5, Sg 4 25]) .ret))))⟩
theorem sf155 : sfOf Try.f155 = some s155 := by kernel_rfl
theorem hb155 : hasBody Try.prog 155 = true := by kernel_rfl
def s156 : SF := ⟨11, [.tmp 3], (.seq (R0 [Sk 3 (Kb false)]) (.seq (R0 [Mv 4 0, Bo 5 .add 3 (Tm 4) (Kn 1) 3, Mv 6 0, Bo 7 .add 3 (Tm 6) (Kn 1) 3, Bo 8 .mul 3 (Tm 5) (Tm 7) 3, Ld 9 3 1, Bo 10 .gtr 3 (Tm 8) (Tm 9) 3, Sg 3 10]) .ret))⟩
theorem sf156 : sfOf Try.f156 = some s156 := by kernel_rfl
theorem hb156 : hasBody Try.prog 156 = true := by kernel_rfl
def s157 : SF := ⟨19, [.tmp 4], (.seq (R0 [Sk 4 (Kn 0)]) (.seq (.seq (R0 [Mv 6 0, Lq 7 6 43, Oo 8 (.move (Kn 0))]) (.block 0 (.loop (.seq (R0 [Bo 9 .lss 3 (Tm 8) (Tm 7) 3]) (.seq (.cond (Tm 9) .skip (.exit 0)) (.seq (.block 1 (.seq (R0 [Mv 10 8, Sg 5 10]) (.seq (R0 [Mv 11 1, Mv 12 0, Mv 13 5, Ix 14 43 12 13, Ld 15 45 14, Oo 16 (.call { callee := .value (Tm 11), args := #[Tm 15], argTypes := #[45] })]) (.cond (Tm 16) (.seq (R0 [Mv 17 5, Sg 4 17]) .ret) .skip)))) (R0 [Bo 18 .add 3 (Tm 8) (Kn 1) 3, Mv 8 18]))))))) (.seq (R0 [Sk 4 (Kn (-1))]) .ret)))⟩
theorem sf157 : sfOf Try.f157 = some s157 := by kernel_rfl
theorem hb157 : hasBody Try.prog 157 = true := by kernel_rfl
def s158 : SF := ⟨19, [], (.seq (R0 [Ld 4 43 1, Lq 5 4 43, Bo 6 .sub 3 (Tm 5) (Kn 1) 3, Sg 3 6]) (.block 0 (.loop (.seq (.seq (R0 [Mv 7 3, Bo 8 .geq 3 (Tm 7) (Kn 0) 3]) (.cond (Tm 8) .skip (.exit 0))) (.seq (.block 1 (.seq (R0 [Mv 11 0, Mv 12 3, Ld 13 43 1, Mv 14 3, Ix 15 43 13 14, Ld 16 45 15, Oo 17 (.call { callee := .value (Tm 11), args := #[Tm 12, Tm 16], argTypes := #[3, 45] }), Oo 18 (.unOp .not 4 (Tm 17))]) (.cond (Tm 18) .ret .skip))) (R0 [Mv 9 3, Bo 10 .sub 3 (Tm 9) (Kn 1) 3, Sg 3 10]))))))⟩
theorem sf158 : sfOf Try.f158 = some s158 := by kernel_rfl
theorem hb158 : hasBody Try.prog 158 = true := by kernel_rfl
def s159 : SF := ⟨19, [.tmp 4], (.seq (R0 [Sk 4 (Kn 0)]) (.seq (.seq (R0 [Mv 6 0, Lq 7 6 61, Oo 8 (.move (Kn 0))]) (.block 0 (.loop (.seq (R0 [Bo 9 .lss 3 (Tm 8) (Tm 7) 3]) (.seq (.cond (Tm 9) .skip (.exit 0)) (.seq (.block 1 (.seq (R0 [Mv 10 8, Sg 5 10]) (.seq (R0 [Mv 11 1, Mv 12 0, Mv 13 5, Ix 14 61 12 13, Ld 15 3 14, Oo 16 (.call { callee := .value (Tm 11), args := #[Tm 15], argTypes := #[3] })]) (.cond (Tm 16) (.seq (R0 [Mv 17 5, Sg 4 17]) .ret) .skip)))) (R0 [Bo 18 .add 3 (Tm 8) (Kn 1) 3, Mv 8 18]))))))) (.seq (R0 [Sk 4 (Kn (-1))]) .ret)))⟩
theorem sf159 : sfOf Try.f159 = some s159 := by kernel_rfl
theorem hb159 : hasBody Try.prog 159 = true := by kernel_rfl
def s169 : SF := ⟨19, [.tmp 4], (.seq (R0 [Sk 4 (Kn 0)]) (.seq (.seq (R0 [Mv 6 0, Lq 7 6 85, Oo 8 (.move (Kn 0))]) (.block 0 (.loop (.seq (R0 [Bo 9 .lss 3 (Tm 8) (Tm 7) 3]) (.seq (.cond (Tm 9) .skip (.exit 0)) (.seq (.block 1 (.seq (R0 [Mv 10 8, Sg 5 10]) (.seq (R0 [Mv 11 1, Mv 12 0, Mv 13 5, Ix 14 85 12 13, Ld 15 171 14, Oo 16 (.call { callee := .value (Tm 11), args := #[Tm 15], argTypes := #[171] })]) (.cond (Tm 16) (.seq (R0 [Mv 17 5, Sg 4 17]) .ret) .skip)))) (R0 [Bo 18 .add 3 (Tm 8) (Kn 1) 3, Mv 8 18]))))))) (.seq (R0 [Sk 4 (Kn (-1))]) .ret)))⟩
theorem sf169 : sfOf Try.f169 = some s169 := by kernel_rfl
theorem hb169 : hasBody Try.prog 169 = true := by kernel_rfl
def s170 : SF := ⟨28, [.tmp 8], (.seq (R0 [Oo 4 (.box 84 (Tm 0)), Sk 8 (Kn 0)]) (.seq (.seq (R0 [Mv 9 2, Mv 10 1, Bo 11 .gtr 3 (Tm 9) (Tm 10) 3]) (.cond (Tm 11) (.seq (R0 [Mv 12 2, Mv 13 1, Fa 14 84 4 0, Ld 15 3 14, Mv 16 3, Bo 17 .mul 3 (Tm 15) (Tm 16) 3, Bo 18 .add 3 (Tm 13) (Tm 17) 3, Oo 19 (.call { callee := .builtin .min, args := #[Tm 12, Tm 18], argTypes := #[3, 3] }), Sg 8 19]) .ret) .skip)) (.seq (R0 [Mv 20 2, Mv 21 1, Fa 22 84 4 1, Ld 23 3 22, Mv 24 3, Bo 25 .mul 3 (Tm 23) (Tm 24) 3, Bo 26 .sub 3 (Tm 21) (Tm 25) 3, Oo 27 (.call { callee := .builtin .max, args := #[Tm 20, Tm 26], argTypes := #[3, 3] }), Sg 8 27]) .ret)))⟩
theorem sf170 : sfOf Try.f170 = some s170 := by kernel_rfl
theorem hb170 : hasBody Try.prog 170 = true := by kernel_rfl
def s171 : SF := ⟨19, [.tmp 4], (.seq (R0 [Sk 4 (Kn 0)]) (.seq (.seq (R0 [Mv 6 0, Lq 7 6 46, Oo 8 (.move (Kn 0))]) (.block 0 (.loop (.seq (R0 [Bo 9 .lss 3 (Tm 8) (Tm 7) 3]) (.seq (.cond (Tm 9) .skip (.exit 0)) (.seq (.block 1 (.seq (R0 [Mv 10 8, Sg 5 10]) (.seq (R0 [Mv 11 1, Mv 12 0, Mv 13 5, Ix 14 46 12 13, Ld 15 25 14, Oo 16 (.call { callee := .value (Tm 11), args := #[Tm 15], argTypes := #[25] })]) (.cond (Tm 16) (.seq (R0 [Mv 17 5, Sg 4 17]) .ret) .skip)))) (R0 [Bo 18 .add 3 (Tm 8) (Kn 1) 3, Mv 8 18]))))))) (.seq (R0 [Sk 4 (Kn (-1))]) .ret)))⟩
theorem sf171 : sfOf Try.f171 = some s171 := by kernel_rfl
theorem hb171 : hasBody Try.prog 171 = true := by kernel_rfl
def s172 : SF := ⟨19, [.tmp 4], (.seq (R0 [Sk 4 (Kn 0)]) (.seq (.seq (R0 [Mv 6 0, Lq 7 6 106, Oo 8 (.move (Kn 0))]) (.block 0 (.loop (.seq (R0 [Bo 9 .lss 3 (Tm 8) (Tm 7) 3]) (.seq (.cond (Tm 9) .skip (.exit 0)) (.seq (.block 1 (.seq (R0 [Mv 10 8, Sg 5 10]) (.seq (R0 [Mv 11 1, Mv 12 0, Mv 13 5, Ix 14 106 12 13, Ld 15 108 14, Oo 16 (.call { callee := .value (Tm 11), args := #[Tm 15], argTypes := #[108] })]) (.cond (Tm 16) (.seq (R0 [Mv 17 5, Sg 4 17]) .ret) .skip)))) (R0 [Bo 18 .add 3 (Tm 8) (Kn 1) 3, Mv 8 18]))))))) (.seq (R0 [Sk 4 (Kn (-1))]) .ret)))⟩
theorem sf172 : sfOf Try.f172 = some s172 := by kernel_rfl
theorem hb172 : hasBody Try.prog 172 = true := by kernel_rfl
def s177 : SF := ⟨37, [], (.seq (R0 [Oo 6 (.move (Kn 0))]) (.block 0 (.loop (.seq (R0 [Bo 7 .lss 3 (Tm 6) (Kn 2) 3]) (.seq (.cond (Tm 7) .skip (.exit 0)) (.seq (.block 1 (.seq (R0 [Mv 8 6, Sg 4 8]) (.seq (R0 [Sk 5 (Kn 1)]) (.block 2 (.loop (.seq (.seq (R0 [Mv 9 5, Bo 10 .mul 3 (Kn 2) (Tm 9) 3, Mv 11 4, Ix 12 128 1 11, Ld 13 3 12, Bo 14 .leq 3 (Tm 10) (Tm 13) 3]) (.cond (Tm 14) .skip (.exit 2))) (.seq (.block 3 (.seq (R0 [Ld 17 124 2, Mv 18 4, Nk 19 17, Fa 20 205 19 1, Ix 21 203 20 18, Ld 22 61 21, Mv 23 5, Ix 24 61 22 23, Ld 25 3 24, Mv 26 5, Bo 27 .eql 3 (Tm 25) (Tm 26) 3, Mv 28 27, Gm 29 0 28 true, Gm 30 4 28 true, Gm 31 5 28 true, Og 32 (.build 208 #[(0, (Tm 30)), (1, (Tm 31))]) 28 true, Og 33 (.call { callee := .value (Tm 29), args := #[Tm 32], argTypes := #[208] }) 28 true, Og 34 (.unOp .not 4 (Tm 33)) 28 true, Pk 35 28 (Tm 34) (Kb false)]) (.cond (Tm 35) .ret .skip))) (R0 [Mv 15 5, Bo 16 .add 3 (Tm 15) (Kn 1) 3, Sg 5 16])))))))) (R0 [Bo 36 .add 3 (Tm 6) (Kn 1) 3, Mv 6 36])))))))⟩
theorem sf177 : sfOf Try.f177 = some s177 := by kernel_rfl
theorem hb177 : hasBody Try.prog 177 = true := by kernel_rfl
def s178 : SF := ⟨9, [.tmp 4], (.seq (R0 [Sk 4 (Kb false)]) (.seq (R0 [Mv 5 0, Mv 6 1, Cl 7 188 #[Tm 5, Tm 6] #[34, 292], Bo 8 .geq 3 (Tm 7) (Kn 0) 3, Sg 4 8]) .ret))⟩
theorem sf178 : sfOf Try.f178 = some s178 := by kernel_rfl
theorem hb178 : hasBody Try.prog 178 = true := by kernel_rfl
def s179 : SF := ⟨10, [.tmp 2], (.seq (R0 [Oo 1 (.box 67 (Tm 0)), Sk 2 (Kb false)]) (.seq (R0 [Fa 3 67 1 0, Ld 4 3 3, Fa 5 67 1 1, Ld 6 3 5, Oo 7 (.buildSlice 61 2 #[(0, (Tm 4)), (1, (Tm 6))]), Cl 8 85 #[Kn 0, Kn 140, Tm 7] #[3, 3, 61], Oo 9 (.unOp .not 4 (Tm 8)), Sg 2 9]) .ret))⟩
theorem sf179 : sfOf Try.f179 = some s179 := by kernel_rfl
theorem hb179 : hasBody Try.prog 179 = true := by kernel_rfl
def s180 : SF := ⟨19, [.tmp 4], (.seq (R0 [Sk 4 (Kn 0)]) (.seq (.seq (R0 [Mv 6 0, Lq 7 6 264, Oo 8 (.move (Kn 0))]) (.block 0 (.loop (.seq (R0 [Bo 9 .lss 3 (Tm 8) (Tm 7) 3]) (.seq (.cond (Tm 9) .skip (.exit 0)) (.seq (.block 1 (.seq (R0 [Mv 10 8, Sg 5 10]) (.seq (R0 [Mv 11 1, Mv 12 0, Mv 13 5, Ix 14 264 12 13, Ld 15 266 14, Oo 16 (.call { callee := .value (Tm 11), args := #[Tm 15], argTypes := #[266] })]) (.cond (Tm 16) (.seq (R0 [Mv 17 5, Sg 4 17]) .ret) .skip)))) (R0 [Bo 18 .add 3 (Tm 8) (Kn 1) 3, Mv 8 18]))))))) (.seq (R0 [Sk 4 (Kn (-1))]) .ret)))⟩
theorem sf180 : sfOf Try.f180 = some s180 := by kernel_rfl
theorem hb180 : hasBody Try.prog 180 = true := by kernel_rfl
end Go.Dw.Seat
end
section
namespace Go.Dw.Seat
open Go Go.Dw Go.Proofs
def s188 : SF := ⟨19, [.tmp 4], (.seq (R0 [Sk 4 (Kn 0)]) (.seq (.seq (R0 [Mv 6 0, Lq 7 6 34, Oo 8 (.move (Kn 0))]) (.block 0 (.loop (.seq (R0 [Bo 9 .lss 3 (Tm 8) (Tm 7) 3]) (.seq (.cond (Tm 9) .skip (.exit 0)) (.seq (.block 1 (.seq (R0 [Mv 10 8, Sg 5 10]) (.seq (R0 [Mv 11 1, Mv 12 0, Mv 13 5, Ix 14 34 12 13, Ld 15 67 14, Oo 16 (.call { callee := .value (Tm 11), args := #[Tm 15], argTypes := #[67] })]) (.cond (Tm 16) (.seq (R0 [Mv 17 5, Sg 4 17]) .ret) .skip)))) (R0 [Bo 18 .add 3 (Tm 8) (Kn 1) 3, Mv 8 18]))))))) (.seq (R0 [Sk 4 (Kn (-1))]) .ret)))⟩
theorem sf188 : sfOf Try.f188 = some s188 := by kernel_rfl
theorem hb188 : hasBody Try.prog 188 = true := by kernel_rfl
end Go.Dw.Seat
end
section
namespace Go.Dw.Seat
open Go Go.Dw Go.Proofs Go.IntWalk
theorem qA : type_of% @DW.seq := @DW.seq
theorem qB : type_of% @DW.block := @DW.block
theorem qC : type_of% @DW.skip := @DW.skip
theorem qD : type_of% @DW.exit := @DW.exit
theorem qE : type_of% @DW.ret := @DW.ret
theorem qF : type_of% @DW.reg := @DW.reg
theorem qG : type_of% @DW.cond_tt := @DW.cond_tt
theorem qH : type_of% @DW.cond_ff := @DW.cond_ff
theorem qI : type_of% @DW.cond := @DW.cond
theorem qJ : type_of% @g_split := @g_split
theorem qK : type_of% @call_c := @call_c
theorem qL : type_of% @DW.dreg := @DW.dreg
theorem qM : type_of% @retS_of := @retS_of
theorem qN : type_of% @bm_box := @bm_box
theorem qO : type_of% @bm_row := @bm_row
theorem qP : type_of% @bk_box := @bk_box
theorem qQ : type_of% @bk_row := @bk_row
theorem qR : type_of% @wkT_cons := @wkT_cons
theorem qS : type_of% @wkX_cons := @wkX_cons
theorem qTw : type_of% @wkT_nil := @wkT_nil
theorem qU : type_of% @wkX_nil := @wkX_nil
theorem qV : type_of% @ex_some := @ex_some
theorem qW : type_of% @wk_self := @wk_self
theorem qX : type_of% @wk_top := @wk_top
theorem qY : type_of% @wk_nil := @wk_nil
theorem qZ : type_of% @wkB_self := @wkB_self
theorem rA : type_of% @Int.natCast_add := @Int.natCast_add
theorem rB : type_of% @Int.natCast_one := @Int.natCast_one
theorem rC : type_of% @Int.ofNat_zero := @Int.ofNat_zero
theorem rD : type_of% @Int.natCast_zero := @Int.natCast_zero
theorem rE : type_of% @IntWalk.i64_in := @IntWalk.i64_in
theorem rF : type_of% @List.map_cons := @List.map_cons
theorem rG : type_of% @List.map_nil := @List.map_nil
end Go.Dw.Seat
end
section
set_option linter.unusedSimpArgs false
set_option maxRecDepth 100000
namespace Go.Dw.Seat.Pa
open Go Go.Dw Go.Proofs Go.IntWalk
theorem plIdxI (b : Bool) (l : List (Int)) (hl : l.length ≤ 2 ^ 36) (g : FuncId) (fs caps : List C) (p : Int → Bool) (hp : ∀ x ∈ l, DCall Try.prog g (fs.map D.c ++ [dI x] ++ caps.map D.c) [] (bD (p x)) []) : DCall Try.prog 159 [.c (.sl b 1 (rows eI l)), .c (.fn (.func g) fs caps)] [] (dI (idxI p l)) [] := by
 refine DCall.of Try.func159 sf159 hb159 (Nat.le_of_ble_eq_true rfl) (okRes_nil fun _ => rfl) ?_; simp only [s159, idxs, Nat.reduceAdd]
 repeat' (first|(with_reducible first|apply qA|apply qB|apply qC|apply qD|apply qE|apply qF)|(simp (disch:=omega) only [go_sem, simprocAttr, Blk.men, Blk.keysIn])|exact qM rfl rfl rfl|(refine qG rfl ?_)|(refine qH rfl ?_)|(refine qI rfl ?_ ?_<;>intro hc<;>(try simp only [go_sem] at hc))|(refine qJ ?_ ?_<;>intro hc<;>(try simp only [hc])<;>(try simp only [go_sem] at hc)))
 refine DW.loop (ι := { i : Nat // i ≤ l.length ∧ ∀ j u, j < i → l[j]? = some u → p u = false }) (fun i => ⟨19, [(8, dI i.1), (7, dI l.length), (1, .c (.fn (.func g) fs caps)), (0, .c (.sl b 1 (rows eI l)))], []⟩) (fun i => l.length - i.1) ⟨0, Nat.zero_le _, fun j u h => by omega⟩ ?_ ?_
 ·refine Ent.to ?_ ?_ <;> simp (disch:=omega) only [qR,qS,qTw,qU,get,Nat.reduceEqDiff,↓reduceIte,qV,qW,qX,qY,qZ,and_self,dI,i64_in,and_true,true_and,rA,rB,rC,rD]
 rintro ⟨i, hi, hij⟩
 rcases at_or l i hi with ⟨v, hv, hlt, hd⟩ | ⟨he, hd⟩
 ·have hcall := hp v (List.mem_of_getElem? hv)
  repeat' (first|(with_reducible first|apply qA|apply qB|apply qC|apply qD|apply qE|apply qF)|(simp (disch:=omega) only [go_sem, simprocAttr, Blk.men, Blk.keysIn, hd, hv, closeDs_fn, rF, rG])|exact qM rfl rfl rfl|(refine qG rfl ?_)|(refine qH rfl ?_)|(refine qI rfl ?_ ?_<;>intro hc<;>(try simp only [go_sem] at hc))|(refine qJ ?_ ?_<;>intro hc<;>(try simp only [hc])<;>(try simp only [go_sem] at hc)))
  refine call_c hcall (by decide) ?_
  simp (disch:=omega) only [go_sem,simprocAttr,Blk.men,Blk.keysIn]
  refine DW.cond rfl ?_ ?_ <;> intro hc
  ·repeat' (first|(with_reducible first|apply qA|apply qB|apply qC|apply qD|apply qE|apply qF)|(simp (disch:=omega) only [go_sem, simprocAttr, Blk.men, Blk.keysIn])|exact qM rfl rfl rfl|(refine qG rfl ?_)|(refine qH rfl ?_)|(refine qI rfl ?_ ?_<;>intro hc<;>(try simp only [go_sem] at hc))|(refine qJ ?_ ?_<;>intro hc<;>(try simp only [hc])<;>(try simp only [go_sem] at hc)))
   refine retS_of rfl ?_ rfl; simp only [oneD, St.op, get, Nat.reduceEqDiff, ↓reduceIte, Option.getD_some, bD, dI]
   simp only [idxI, idxOf_some hij hv hc]
  ·repeat' (first|(with_reducible first|apply qA|apply qB|apply qC|apply qD|apply qE|apply qF)|(simp (disch:=omega) only [go_sem, simprocAttr, Blk.men, Blk.keysIn])|exact qM rfl rfl rfl|(refine qG rfl ?_)|(refine qH rfl ?_)|(refine qI rfl ?_ ?_<;>intro hc<;>(try simp only [go_sem] at hc))|(refine qJ ?_ ?_<;>intro hc<;>(try simp only [hc])<;>(try simp only [go_sem] at hc)))
   refine ⟨⟨i + 1, by omega, fun j u hj hu => by
    rcases Nat.lt_or_ge j i with h | h
    ·exact hij j u h hu
    ·have : j = i := by omega
     subst this
     rw [hv] at hu; cases hu; exact hc⟩, ?_, Ent.to ?_ ?_⟩ <;> first | (show _ < _; (try simp only); omega) | (simp (disch:=omega) only [qR,qS,qTw,qU,get,Nat.reduceEqDiff,↓reduceIte,qV,qW,qX,qY,qZ,and_self,dI,i64_in,and_true,true_and,rA,rB,rC,rD])
 ·repeat' (first|(with_reducible first|apply qA|apply qB|apply qC|apply qD|apply qE|apply qF)|(simp (disch:=omega) only [go_sem, simprocAttr, Blk.men, Blk.keysIn, hd])|exact qM rfl rfl rfl|(refine qG rfl ?_)|(refine qH rfl ?_)|(refine qI rfl ?_ ?_<;>intro hc<;>(try simp only [go_sem] at hc))|(refine qJ ?_ ?_<;>intro hc<;>(try simp only [hc])<;>(try simp only [go_sem] at hc)))
  refine retS_of rfl ?_ rfl; simp only [oneD, St.op, get, Nat.reduceEqDiff, ↓reduceIte, Option.getD_some, bD, dI]
  simp only [idxI, idxOf_none (he ▸ hij)]
theorem plAnyI (b : Bool) (l : List (Int)) (hl : l.length ≤ 2 ^ 36) (g : FuncId) (fs caps : List C) (p : Int → Bool) (hp : ∀ x ∈ l, DCall Try.prog g (fs.map D.c ++ [dI x] ++ caps.map D.c) [] (bD (p x)) []) : DCall Try.prog 104 [.c (.sl b 1 (rows eI l)), .c (.fn (.func g) fs caps)] [] (bD (l.any p)) [] := by
 refine DCall.of Try.func104 sf104 hb104 (Nat.le_of_ble_eq_true rfl) (okRes_nil fun _ => rfl) ?_; simp only [s104, idxs, Nat.reduceAdd]
 repeat' (first|(with_reducible first|apply qA|apply qB|apply qC|apply qD|apply qE|apply qF)|(simp (disch:=omega) only [go_sem, simprocAttr, Blk.men, Blk.keysIn])|exact qM rfl rfl rfl|(refine qG rfl ?_)|(refine qH rfl ?_)|(refine qI rfl ?_ ?_<;>intro hc<;>(try simp only [go_sem] at hc))|(refine qJ ?_ ?_<;>intro hc<;>(try simp only [hc])<;>(try simp only [go_sem] at hc)))
 refine call_c (plIdxI b l hl g fs caps p hp) (by decide) ?_
 repeat' (first|(with_reducible first|apply qA|apply qB|apply qC|apply qD|apply qE|apply qF)|(simp (disch:=omega) only [go_sem, simprocAttr, Blk.men, Blk.keysIn])|exact qM rfl rfl rfl|(refine qG rfl ?_)|(refine qH rfl ?_)|(refine qI rfl ?_ ?_<;>intro hc<;>(try simp only [go_sem] at hc))|(refine qJ ?_ ?_<;>intro hc<;>(try simp only [hc])<;>(try simp only [go_sem] at hc)))
 refine retS_of rfl ?_ rfl; simp only [oneD, St.op, get, Nat.reduceEqDiff, ↓reduceIte, Option.getD_some, bD, dI]
 rw [idxI_any]
def wthn (lo hi : Int) (l : List Int) : Bool := !(l.any fun n => decide (n < lo) || decide (hi < n))
theorem wthn_one {lo hi n : Int} (h : wthn lo hi [n] = true) : lo ≤ n ∧ n ≤ hi := by
 simp [wthn] at h; omega
theorem plW1 (n lo hi : Int) (p q : Bool) : DCall Try.prog 145 [dI n, .c (.ro p [.v (.int .i64 lo)] 0), .c (.ro q [.v (.int .i64 hi)] 0)] [] (bD (decide (n < lo) || decide (hi < n))) [] := by
 refine DCall.of Try.func145 sf145 hb145 (Nat.le_of_ble_eq_true rfl) (okRes_nil fun _ => rfl) ?_; simp only [s145, idxs, Nat.reduceAdd]
 repeat' (first|(with_reducible first|apply qA|apply qB|apply qC|apply qD|apply qE|apply qF)|(simp (disch:=omega) only [go_sem, simprocAttr, Blk.men, Blk.keysIn])|exact qM rfl rfl rfl|(refine qG rfl ?_)|(refine qH rfl ?_)|(refine qI rfl ?_ ?_<;>intro hc<;>(try simp only [go_sem] at hc))|(refine qJ ?_ ?_<;>intro hc<;>(try simp only [hc])<;>(try simp only [go_sem] at hc)))
theorem plWithin (b : Bool) (lo hi : Int) (l : List Int) (hl : l.length ≤ 2 ^ 36) : DCall Try.prog 85 [dI lo, dI hi, dIs b l] [] (bD (wthn lo hi l)) [] := by
 refine DCall.of Try.func85 sf85 hb85 (Nat.le_of_ble_eq_true rfl) (okRes_nil fun _ => rfl) ?_; simp only [s85, idxs, Nat.reduceAdd]
 repeat' (first|(with_reducible first|apply qA|apply qB|apply qC|apply qD|apply qE|apply qF)|(simp (disch:=omega) only [go_sem, simprocAttr, Blk.men, Blk.keysIn])|exact qM rfl rfl rfl|(refine qG rfl ?_)|(refine qH rfl ?_)|(refine qI rfl ?_ ?_<;>intro hc<;>(try simp only [go_sem] at hc))|(refine qJ ?_ ?_<;>intro hc<;>(try simp only [hc])<;>(try simp only [go_sem] at hc)))
 (refine call_c (plAnyI b l hl 145 [] [.ro true [.v (.int .i64 lo)] 0, .ro true [.v (.int .i64 hi)] 0] (fun n => decide (n < lo) || decide (hi < n)) (fun x _ => plW1 x lo hi true true)) (by decide) ?_; simp (disch:=omega) only [go_sem,simprocAttr,Blk.men,Blk.keysIn])
 repeat' (first|(with_reducible first|apply qA|apply qB|apply qC|apply qD|apply qE|apply qF)|(simp (disch:=omega) only [go_sem, simprocAttr, Blk.men, Blk.keysIn])|exact qM rfl rfl rfl|(refine qG rfl ?_)|(refine qH rfl ?_)|(refine qI rfl ?_ ?_<;>intro hc<;>(try simp only [go_sem] at hc))|(refine qJ ?_ ?_<;>intro hc<;>(try simp only [hc])<;>(try simp only [go_sem] at hc)))
theorem wthn_yes {lo hi : Int} {l : List Int} (h : ∀ v ∈ l, lo ≤ v ∧ v ≤ hi) : wthn lo hi l = true := by
 simp only [wthn, Bool.not_eq_true', List.any_eq_false, Bool.or_eq_true, decide_eq_true_eq]
 intro v hv
 have := h v hv
 omega
theorem wthn_all {lo hi : Int} {l : List Int} (h : wthn lo hi l = true) : ∀ v ∈ l, lo ≤ v ∧ v ≤ hi := by
 simp only [wthn, Bool.not_eq_true', List.any_eq_false, Bool.or_eq_true, decide_eq_true_eq] at h
 intro v hv
 have := h v hv
 omega
theorem wthn_iff {lo hi : Int} {l : List Int} : wthn lo hi l = true ↔ ∀ v ∈ l, lo ≤ v ∧ v ≤ hi := ⟨wthn_all, wthn_yes⟩
def spanOk (lo hi least most : Int) : Bool := wthn least most [lo, hi] && decide (lo ≤ hi)
theorem spanOk_iff {lo hi least most : Int} : spanOk lo hi least most = true ↔ least ≤ lo ∧ lo ≤ hi ∧ hi ≤ most := by
 simp only [spanOk, Bool.and_eq_true, decide_eq_true_eq, wthn_iff, List.mem_cons, List.not_mem_nil, or_false, forall_eq_or_imp, forall_eq]
 omega
theorem plSpan (lo hi least most : Int) : DCall Try.prog 86 [.agg [dI lo, dI hi], dI least, dI most] [] (bD (spanOk lo hi least most)) [] := by
 have h1 := plWithin true least most [lo, hi] (by simp)
 unfold spanOk
 cases h : wthn least most [lo, hi] <;> rw [h] at h1 <;> simp only [Bool.true_and, Bool.false_and]
 ·refine DCall.of Try.func86 sf86 hb86 (Nat.le_of_ble_eq_true rfl) (okRes_nil fun _ => rfl) ?_; simp only [s86, idxs, Nat.reduceAdd]
  repeat' (first|(with_reducible first|apply qA|apply qB|apply qC|apply qD|apply qE|apply qF)|(simp (disch:=omega) only [go_sem, simprocAttr, Blk.men, Blk.keysIn])|exact qM rfl rfl rfl|(refine qG rfl ?_)|(refine qK (h1) (by decide) ?_)|(refine qH rfl ?_)|(refine qI rfl ?_ ?_<;>intro hc<;>(try simp only [go_sem] at hc))|(refine qJ ?_ ?_<;>intro hc<;>(try simp only [hc])<;>(try simp only [go_sem] at hc)))
 ·refine DCall.of Try.func86 sf86 hb86 (Nat.le_of_ble_eq_true rfl) (okRes_nil fun _ => rfl) ?_; simp only [s86, idxs, Nat.reduceAdd]
  repeat' (first|(with_reducible first|apply qA|apply qB|apply qC|apply qD|apply qE|apply qF)|(simp (disch:=omega) only [go_sem, simprocAttr, Blk.men, Blk.keysIn])|exact qM rfl rfl rfl|(refine qG rfl ?_)|(refine qK (h1) (by decide) ?_)|(refine qH rfl ?_)|(refine qI rfl ?_ ?_<;>intro hc<;>(try simp only [go_sem] at hc))|(refine qJ ?_ ?_<;>intro hc<;>(try simp only [hc])<;>(try simp only [go_sem] at hc)))
end Go.Dw.Seat.Pa
end
section
set_option linter.unusedSimpArgs false
set_option maxRecDepth 100000
namespace Go.Dw.Seat.Pa
open Go Go.Dw Go.IntWalk
def sumB (a c i : Nat) : Bool := (List.range (i / a + 1)).any fun u => (i - u * a) % c == 0
theorem sumB_iff {a c i : Nat} (ha : 0 < a) : sumB a c i = true ↔ ∃ u v, i = u * a + v * c := by
 unfold sumB
 rw [List.any_eq_true]
 constructor
 ·rintro ⟨u, hu, h⟩
  have hu := List.mem_range.1 hu
  have h1 : u * a ≤ i := Nat.le_trans (Nat.mul_le_mul_right a (show u ≤ i / a by omega)) (Nat.div_mul_le_self i a)
  have h2 := Nat.div_add_mod (i - u * a) c
  rw [beq_iff_eq] at h
  refine ⟨u, (i - u * a) / c, ?_⟩
  rw [h, Nat.add_zero, Nat.mul_comm] at h2; omega
 ·rintro ⟨u, v, rfl⟩
  refine ⟨u, List.mem_range.2 ?_, ?_⟩
  ·have : u ≤ (u * a + v * c) / a := (Nat.le_div_iff_mul_le ha).2 (by omega)
   omega
  ·rw [beq_iff_eq, Nat.add_sub_cancel_left]; exact Nat.mul_mod_left v c
theorem sumB_zero (a c : Nat) : sumB a c 0 = true := by
 unfold sumB
 rw [Nat.zero_div]
 simp
theorem sumB_add {a c i j : Nat} (ha : 0 < a) (hi : sumB a c i = true) (hj : sumB a c j = true) : sumB a c (i + j) = true := by
 obtain ⟨u, v, rfl⟩ := (sumB_iff ha).1 hi
 obtain ⟨s, t, rfl⟩ := (sumB_iff ha).1 hj
 refine (sumB_iff ha).2 ⟨u + s, v + t, ?_⟩
 rw [Nat.add_mul, Nat.add_mul]; omega
theorem sumB_a {a c : Nat} (ha : 0 < a) : sumB a c a = true := (sumB_iff ha).2 ⟨1, 0, by omega⟩
theorem sumB_c {a c : Nat} (ha : 0 < a) : sumB a c c = true := (sumB_iff ha).2 ⟨0, 1, by omega⟩
theorem sumB_rec {a c : Nat} (ha : 0 < a) {i : Nat} (hi : 0 < i) : sumB a c i = ((decide (a ≤ i) && sumB a c (i - a)) || (decide (c ≤ i) && sumB a c (i - c))) := by
 rw [Bool.eq_iff_iff]
 simp only [Bool.or_eq_true, Bool.and_eq_true, decide_eq_true_eq]
 constructor
 ·intro h
  obtain ⟨u, v, h⟩ := (sumB_iff ha).1 h
  cases u with
  | succ u =>
   rw [Nat.add_mul, Nat.one_mul] at h
   exact .inl ⟨by omega, (sumB_iff ha).2 ⟨u, v, by omega⟩⟩
  | zero =>
   cases v with
   | zero => omega
   | succ v =>
    rw [Nat.add_mul v, Nat.one_mul] at h
    exact .inr ⟨by omega, (sumB_iff ha).2 ⟨0, v, by omega⟩⟩
 ·rintro (⟨h1, h2⟩ | ⟨h1, h2⟩)
  ·have := sumB_add ha h2 (sumB_a (c := c) ha)
   rwa [Nat.sub_add_cancel h1] at this
  ·have := sumB_add ha h2 (sumB_c (c := c) ha)
   rwa [Nat.sub_add_cancel h1] at this
def rchF (a c : Nat) : Nat → Nat
 | 0 => 0
 | n + 1 => if sumB a c (n + 1) then n + 1 else rchF a c n
theorem rch_le (a c : Nat) : ∀ n, rchF a c n ≤ n
 | 0 => Nat.le_refl _
 | n + 1 => by
  have := rch_le a c n
  rw [rchF]
  split <;> omega
theorem rch_sum (a c : Nat) : ∀ n, sumB a c (rchF a c n) = true
 | 0 => sumB_zero a c
 | n + 1 => by
  rw [rchF]
  split
  ·assumption
  ·exact rch_sum a c n
theorem rch_max {a c m : Nat} : ∀ {n : Nat}, m ≤ n → sumB a c m = true → m ≤ rchF a c n
 | 0, h, _ => by omega
 | n + 1, h, hm => by
  rw [rchF]
  by_cases e : m = n + 1
  ·subst e; rw [if_pos hm]; omega
  ·split
   ·omega
   ·exact rch_max (by omega) hm
theorem rch_eq {a c n : Nat} (h : sumB a c n = true) : rchF a c n = n := Nat.le_antisymm (rch_le a c n) (rch_max (Nat.le_refl _) h)
theorem rch_idem (a c n : Nat) : rchF a c (rchF a c n) = rchF a c n := rch_eq (rch_sum a c n)
end Go.Dw.Seat.Pa
end
section
set_option linter.unusedSimpArgs false
set_option maxRecDepth 100000
namespace Go.Dw.Seat.Pa
open Go Go.Dw Go.IntWalk
def fitB (a c x y : Nat) : Bool := (decide (a ≤ x) && decide (c ≤ y)) || (decide (c ≤ x) && decide (a ≤ y))
def lnX (a c x : Nat) : List Nat := (List.range (x / 2)).filterMap fun t => if sumB a c (t + 1) then some (t + 1) else none
abbrev Ln := Bool × Nat
def lnsF (a c x y : Nat) : List Ln := (lnX a c x).map (fun t => (false, t)) ++ (lnX a c y).map (fun t => (true, t))
def oneF (x y : Nat) (l : Ln) : Nat × Nat := if l.1 then (x, l.2) else (l.2, y)
def twoF (x y : Nat) (l : Ln) : Nat × Nat := if l.1 then (x, y - l.2) else (x - l.2, y)
structure Cut where
 n : Nat
 ln : Option Ln
def stepC (g : Nat → Nat → Nat) (x y : Nat) (b : Cut) (l : Ln) : Cut :=
 if b.n < g (oneF x y l).1 (oneF x y l).2 + g (twoF x y l).1 (twoF x y l).2 then ⟨g (oneF x y l).1 (oneF x y l).2 + g (twoF x y l).1 (twoF x y l).2, some l⟩ else b
def cutF (a c : Nat) : Nat → Nat → Nat → Cut
 | 0, _, _ => ⟨0, none⟩
 | f + 1, x, y => if fitB a c (rchF a c x) (rchF a c y) then (lnsF a c (rchF a c x) (rchF a c y)).foldl (stepC (fun u v => (cutF a c f u v).n) (rchF a c x) (rchF a c y)) ⟨1, none⟩ else ⟨0, none⟩
theorem lnX_mem {a c x t : Nat} : t ∈ lnX a c x ↔ 1 ≤ t ∧ 2 * t ≤ x ∧ sumB a c t = true := by
 unfold lnX
 rw [List.mem_filterMap]
 constructor
 ·rintro ⟨u, hu, h⟩
  have hu := List.mem_range.1 hu
  split at h
  ·cases h
   rename_i h1
   exact ⟨by omega, by omega, h1⟩
  ·cases h
 ·rintro ⟨h1, h2, h3⟩
  refine ⟨t - 1, List.mem_range.2 (by omega), ?_⟩
  rw [Nat.sub_add_cancel h1, if_pos h3]
structure IsLn (a c x y : Nat) (l : Ln) : Prop where
 pos : 1 ≤ l.2
 half : 2 * l.2 ≤ (if l.1 then y else x)
 sum : sumB a c l.2 = true
theorem lns_mem {a c x y : Nat} {l : Ln} : l ∈ lnsF a c x y ↔ IsLn a c x y l := by
 obtain ⟨s, t⟩ := l
 unfold lnsF
 rw [List.mem_append, List.mem_map, List.mem_map]
 constructor
 ·rintro (⟨u, hu, h⟩ | ⟨u, hu, h⟩) <;> cases h <;> obtain ⟨h1, h2, h3⟩ := lnX_mem.1 hu
  ·exact ⟨h1, h2, h3⟩
  ·exact ⟨h1, h2, h3⟩
 ·rintro ⟨h1, h2, h3⟩
  cases s
  ·exact .inl ⟨t, lnX_mem.2 ⟨h1, h2, h3⟩, rfl⟩
  ·exact .inr ⟨t, lnX_mem.2 ⟨h1, h2, h3⟩, rfl⟩
theorem ln_less {a c x y : Nat} {l : Ln} (h : IsLn a c x y l) : (oneF x y l).1 + (oneF x y l).2 < x + y ∧ (twoF x y l).1 + (twoF x y l).2 < x + y := by
 obtain ⟨s, t⟩ := l
 have h1 := h.pos
 have h2 := h.half
 cases s <;> simp [oneF, twoF] at h1 h2 ⊢ <;> omega
theorem foldC_congr {g g' : Nat → Nat → Nat} {a c x y : Nat} : ∀ (ls : List Ln) (b : Cut), (∀ l ∈ ls, IsLn a c x y l) → (∀ u v, u + v < x + y → g u v = g' u v) → ls.foldl (stepC g x y) b = ls.foldl (stepC g' x y) b
 | [], _, _, _ => rfl
 | l :: ls, b, h, hg => by
  have hl := ln_less (h l (by simp))
  rw [List.foldl_cons, List.foldl_cons, stepC, hg _ _ hl.1, hg _ _ hl.2]
  exact foldC_congr ls _ (fun t ht => h t (by simp [ht])) hg
theorem cut_fuel (a c : Nat) : ∀ (f f' x y : Nat), x + y < f → x + y < f' → cutF a c f x y = cutF a c f' x y
 | 0, _, _, _, h, _ => by omega
 | _, 0, _, _, _, h => by omega
 | f + 1, f' + 1, x, y, h, h' => by
  rw [cutF, cutF]
  have h1 := rch_le a c x
  have h2 := rch_le a c y
  rw [foldC_congr (a := a) (c := c) (lnsF a c (rchF a c x) (rchF a c y)) ⟨1, none⟩ (fun l hl => lns_mem.1 hl) (g' := fun u v => (cutF a c f' u v).n) (fun u v huv => by rw [cut_fuel a c f f' u v (by omega) (by omega)])]
def cutI (a c x y : Nat) : Cut := cutF a c (x + y + 1) x y
def mst (a c x y : Nat) : Nat := (cutI a c x y).n
theorem cutI_eq (a c x y : Nat) : cutI a c x y = if fitB a c (rchF a c x) (rchF a c y) then (lnsF a c (rchF a c x) (rchF a c y)).foldl (stepC (mst a c) (rchF a c x) (rchF a c y)) ⟨1, none⟩ else ⟨0, none⟩ := by
 have h1 := rch_le a c x
 have h2 := rch_le a c y
 rw [cutI, cutF, foldC_congr (a := a) (c := c) (lnsF a c (rchF a c x) (rchF a c y)) ⟨1, none⟩ (fun l hl => lns_mem.1 hl) (g' := mst a c) (fun u v huv => by rw [mst, cutI, cut_fuel a c (x + y) (u + v + 1) u v (by omega) (by omega)])]
theorem cutI_rch (a c x y : Nat) : cutI a c (rchF a c x) (rchF a c y) = cutI a c x y := by rw [cutI_eq, rch_idem, rch_idem, ← cutI_eq]
def okC (g : Nat → Nat → Nat) (a c x y : Nat) (b : Cut) : Prop := match b.ln with
 | none => b.n ≤ 1
 | some l => IsLn a c x y l ∧ b.n = g (oneF x y l).1 (oneF x y l).2 + g (twoF x y l).1 (twoF x y l).2
theorem fold_ok {g : Nat → Nat → Nat} {a c x y : Nat} : ∀ (ls : List Ln) (b : Cut), (∀ l ∈ ls, IsLn a c x y l) → okC g a c x y b → okC g a c x y (ls.foldl (stepC g x y) b) ∧ b.n ≤ (ls.foldl (stepC g x y) b).n ∧ ((ls.foldl (stepC g x y) b).ln = none → (ls.foldl (stepC g x y) b) = b) ∧ ∀ l ∈ ls, g (oneF x y l).1 (oneF x y l).2 + g (twoF x y l).1 (twoF x y l).2 ≤ (ls.foldl (stepC g x y) b).n
 | [], b, _, h => ⟨h, Nat.le_refl _, fun _ => rfl, fun l hl => by cases hl⟩
 | l :: ls, b, h, hb => by
  have hl := h l (by simp)
  rw [List.foldl_cons]
  by_cases hc : b.n < g (oneF x y l).1 (oneF x y l).2 + g (twoF x y l).1 (twoF x y l).2
  ·have e : stepC g x y b l = ⟨g (oneF x y l).1 (oneF x y l).2 + g (twoF x y l).1 (twoF x y l).2, some l⟩ := if_pos hc
   rw [e]
   obtain ⟨h1, h2, h3, h4⟩ := fold_ok ls ⟨g (oneF x y l).1 (oneF x y l).2 + g (twoF x y l).1 (twoF x y l).2, some l⟩ (fun t ht => h t (by simp [ht])) ⟨hl, rfl⟩
   refine ⟨h1, by dsimp only at h2; omega, fun hn => ?_, fun t ht => ?_⟩
   ·have := h3 hn
    rw [this] at hn; cases hn
   ·rcases List.mem_cons.1 ht with rfl | ht
    ·exact h2
    ·exact h4 t ht
  ·have e : stepC g x y b l = b := if_neg hc
   rw [e]
   obtain ⟨h1, h2, h3, h4⟩ := fold_ok ls b (fun t ht => h t (by simp [ht])) hb
   refine ⟨h1, h2, h3, fun t ht => ?_⟩
   rcases List.mem_cons.1 ht with rfl | ht
   ·omega
   ·exact h4 t ht
inductive CutOk (a c x y : Nat) : Prop where
 | no : fitB a c (rchF a c x) (rchF a c y) = false → cutI a c x y = ⟨0, none⟩ → CutOk a c x y
 | one : fitB a c (rchF a c x) (rchF a c y) = true → cutI a c x y = ⟨1, none⟩ → CutOk a c x y
 | two (l : Ln) : fitB a c (rchF a c x) (rchF a c y) = true → (cutI a c x y).ln = some l → IsLn a c (rchF a c x) (rchF a c y) l → 1 ≤ mst a c x y → mst a c x y = mst a c (oneF (rchF a c x) (rchF a c y) l).1 (oneF (rchF a c x) (rchF a c y) l).2 + mst a c (twoF (rchF a c x) (rchF a c y) l).1 (twoF (rchF a c x) (rchF a c y) l).2 → CutOk a c x y
theorem cut_ok (a c x y : Nat) : CutOk a c x y := by
 have h := cutI_eq a c x y
 cases hf : fitB a c (rchF a c x) (rchF a c y) with
 | false => rw [hf, if_neg Bool.false_ne_true] at h; exact .no hf h
 | true =>
  rw [hf, if_pos rfl] at h
  obtain ⟨h1, h2, h3, _⟩ := fold_ok (g := mst a c) (lnsF a c (rchF a c x) (rchF a c y)) ⟨1, none⟩ (fun l hl => lns_mem.1 hl) (show okC (mst a c) a c _ _ ⟨1, none⟩ from Nat.le_refl _)
  rw [← h] at h1 h2 h3
  cases hn : (cutI a c x y).ln with
  | none => exact .one hf (h3 hn)
  | some l =>
   unfold okC at h1
   rw [hn] at h1
   exact .two l hf hn h1.1 h2 h1.2
theorem mst_no {a c x y : Nat} (h : fitB a c (rchF a c x) (rchF a c y) = false) : mst a c x y = 0 := by
 rw [mst, cutI_eq, h, if_neg Bool.false_ne_true]
theorem mst_area {a c : Nat} : ∀ (n x y : Nat), x + y < n → mst a c x y * (a * c) ≤ rchF a c x * rchF a c y
 | 0, _, _, h => by omega
 | n + 1, x, y, h => by
  have l1 := rch_le a c x
  have l2 := rch_le a c y
  cases cut_ok a c x y with
  | no h0 e => rw [mst_no h0, Nat.zero_mul]; omega
  | one h0 e =>
   have e1 : mst a c x y = 1 := by rw [mst, e]
   rw [e1, Nat.one_mul]
   simp only [fitB, Bool.or_eq_true, Bool.and_eq_true, decide_eq_true_eq] at h0
   rcases h0 with h0 | h0
   ·exact Nat.mul_le_mul h0.1 h0.2
   ·rw [Nat.mul_comm a]; exact Nat.mul_le_mul h0.1 h0.2
  | two l h0 e hl h1' e2 =>
   have hls := ln_less hl
   rw [e2, Nat.add_mul]
   have i1 := mst_area (a := a) (c := c) n (oneF (rchF a c x) (rchF a c y) l).1 (oneF (rchF a c x) (rchF a c y) l).2 (by omega)
   have i2 := mst_area (a := a) (c := c) n (twoF (rchF a c x) (rchF a c y) l).1 (twoF (rchF a c x) (rchF a c y) l).2 (by omega)
   have j1 := Nat.mul_le_mul (rch_le a c (oneF (rchF a c x) (rchF a c y) l).1) (rch_le a c (oneF (rchF a c x) (rchF a c y) l).2)
   have j2 := Nat.mul_le_mul (rch_le a c (twoF (rchF a c x) (rchF a c y) l).1) (rch_le a c (twoF (rchF a c x) (rchF a c y) l).2)
   refine Nat.le_trans (Nat.add_le_add (Nat.le_trans i1 j1) (Nat.le_trans i2 j2)) ?_
   obtain ⟨d, v⟩ := l
   have hh := hl.half
   cases d
   ·simp only [oneF, twoF, Bool.false_eq_true, if_false] at hh ⊢
    rw [← Nat.add_mul, Nat.add_sub_cancel' (by omega)]; exact Nat.le_refl _
   ·simp only [oneF, twoF, if_true] at hh ⊢
    rw [← Nat.mul_add, Nat.add_sub_cancel' (by omega)]; exact Nat.le_refl _
def bndF (a c x y : Nat) : Nat := rchF a c x * rchF a c y / (a * c)
theorem mst_bnd {a c : Nat} (ha : 0 < a) (hc : 0 < c) (x y : Nat) : mst a c x y ≤ bndF a c x y := (Nat.le_div_iff_mul_le (Nat.mul_pos ha hc)).2 (mst_area (x + y + 1) x y (by omega))
end Go.Dw.Seat.Pa
end
section
set_option linter.unusedSimpArgs false
set_option maxRecDepth 100000
namespace Go.Dw.Seat.Pa
open Go Go.Dw Go.IntWalk
structure PBs where
 lg : Int
 wd : Int
 hi : Int
 ov : Int
 top : Int
 load : Int
structure PBx where
 lg : Int
 wd : Int
 hi : Int
 wl : Int
 wh : Int
 sl : Int
 sh : Int
structure PPl where
 x : Int
 y : Int
 t : Bool
deriving DecidableEq
structure PBs.ok (p : PBs) : Prop where
 lg : 1 ≤ p.lg ∧ p.lg ≤ 120
 wd : 1 ≤ p.wd ∧ p.wd ≤ 120
 hi : 0 ≤ p.hi ∧ p.hi ≤ 400
 top : 0 ≤ p.top ∧ p.top ≤ 400
 ov : 0 ≤ p.ov ∧ p.ov ≤ 10
 load : 0 ≤ p.load ∧ p.load ≤ 5000000
structure PBx.ok (b : PBx) : Prop where
 lg : 10 ≤ b.lg ∧ b.lg ≤ 100
 wd : 10 ≤ b.wd ∧ b.wd ≤ 100
 hi : 10 ≤ b.hi ∧ b.hi ≤ 100
 w : 0 ≤ b.wl ∧ b.wl ≤ b.wh ∧ b.wh ≤ 5000000
 s : 0 ≤ b.sl ∧ b.sl ≤ b.sh ∧ b.sh ≤ 20000000
def rmX (p : PBs) : Int := p.lg + 2 * p.ov
def rmY (p : PBs) : Int := p.wd + 2 * p.ov
def sdX (b : PBx) (q : PPl) : Int := if q.t then b.wd else b.lg
def sdY (b : PBx) (q : PPl) : Int := if q.t then b.lg else b.wd
def ovI (x a y c : Int) : Int := max 0 (min (x + a) (y + c) - max x y)
def comI (b : PBx) (q r : PPl) : Int := ovI q.x (sdX b q) r.x (sdX b r) * ovI q.y (sdY b q) r.y (sdY b r)
def outB (p : PBs) (b : PBx) (q : PPl) : Bool := decide (rmX p < q.x + sdX b q) || decide (rmY p < q.y + sdY b q)
def intoB (b : PBx) (q : PPl) (l : List PPl) : Bool := l.any fun r => decide (0 < comI b q r)
def faultF (p : PBs) (b : PBx) : List PPl → List PPl → Nat × Int
 | _, [] => (0, 0)
 | pre, q :: l => if outB p b q then (pre.length, 1) else if intoB b q pre then (pre.length, 2) else faultF p b (pre ++ [q]) l
def fltF (p : PBs) (b : PBx) (l : List PPl) : Nat × Int := faultF p b [] l
structure Lies (p : PBs) (b : PBx) (l : List PPl) : Prop where
 inn : ∀ q ∈ l, q.x + sdX b q ≤ rmX p ∧ q.y + sdY b q ≤ rmY p
 off : l.Pairwise fun q r => comI b r q ≤ 0
theorem ov_nn (x a y c : Int) : 0 ≤ ovI x a y c := by unfold ovI; omega
theorem ov_le (x a y c : Int) (ha : 0 ≤ a) : ovI x a y c ≤ a := by unfold ovI; omega
theorem flt_ok (p : PBs) (b : PBx) : ∀ (l pre : List PPl), (faultF p b pre l).2 = 0 ↔ (∀ q ∈ l, outB p b q = false) ∧ (∀ q ∈ l, intoB b q pre = false) ∧ l.Pairwise fun q r => comI b r q ≤ 0
 | [], pre => by simp [faultF]
 | q :: l, pre => by
  rw [faultF]
  have ih := flt_ok p b l (pre ++ [q])
  cases h1 : outB p b q with
  | true => simp [h1]
  | false =>
   cases h2 : intoB b q pre with
   | true => simp [h2]
   | false =>
    rw [if_neg Bool.false_ne_true, if_neg Bool.false_ne_true, ih]
    have hap : ∀ r, intoB b r (pre ++ [q]) = (intoB b r pre || decide (0 < comI b r q)) := fun r => by simp [intoB]
    simp only [List.mem_cons, forall_eq_or_imp, h1, h2, true_and, List.pairwise_cons, hap, Bool.or_eq_false_iff, decide_eq_false_iff_not, Int.not_lt]
    constructor
    ·rintro ⟨a1, a2, a3⟩
     exact ⟨a1, fun r hr => (a2 r hr).1, fun r hr => (a2 r hr).2, a3⟩
    ·rintro ⟨a1, a2, a3, a4⟩
     exact ⟨a1, fun r hr => ⟨a2 r hr, a3 r hr⟩, a4⟩
theorem out_iff {p : PBs} {b : PBx} {q : PPl} : outB p b q = false ↔ q.x + sdX b q ≤ rmX p ∧ q.y + sdY b q ≤ rmY p := by
 simp only [outB, Bool.or_eq_false_iff, decide_eq_false_iff_not, Int.not_lt]
theorem flt_lies {p : PBs} {b : PBx} {l : List PPl} : (fltF p b l).2 = 0 ↔ Lies p b l := by
 rw [fltF, flt_ok]
 constructor
 ·rintro ⟨h1, _, h3⟩; exact ⟨fun q hq => out_iff.1 (h1 q hq), h3⟩
 ·rintro ⟨h1, h3⟩; exact ⟨fun q hq => out_iff.2 (h1 q hq), fun q _ => by simp [intoB], h3⟩
theorem side_pos {b : PBx} (hb : b.ok) (q : PPl) : (10 ≤ sdX b q ∧ sdX b q ≤ 100) ∧ 10 ≤ sdY b q ∧ sdY b q ≤ 100 := by
 have := hb.lg
 have := hb.wd
 unfold sdX sdY
 cases q.t <;> simp <;> omega
end Go.Dw.Seat.Pa
end
