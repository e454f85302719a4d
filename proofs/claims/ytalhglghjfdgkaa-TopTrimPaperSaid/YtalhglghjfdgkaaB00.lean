/- Helpers of a proof. -/
import Derived.Test.YtalhglghjfdgkaaW46
import Derived.Test.YtalhglghjfdgkaaProg
set_option linter.unusedVariables false
set_option linter.unusedSimpArgs false
section
namespace Go.Dw.Seat
open Go Go.Dw Go.Proofs
instance laysI : Lays := ⟨[]⟩
theorem laid0 (W : World) : LaidA (fun _ => False) W := fun _ hp => nomatch hp
theorem el0 : elemI Try.prog 0 = none := by kernel_rfl
theorem ty1 : tyI Try.prog 1 = some ⟨false, 1, [.nilFunc], 8⟩ := by kernel_rfl
theorem el1 : elemI Try.prog 1 = none := by kernel_rfl
theorem ty2 : tyI Try.prog 2 = some ⟨false, 1, [(.int .i64 0)], 8⟩ := by kernel_rfl
theorem el2 : elemI Try.prog 2 = none := by kernel_rfl
theorem it2 : intI Try.prog 2 = some .i64 := by kernel_rfl
theorem ty3 : tyI Try.prog 3 = some ⟨false, 1, [(.int .i64 0)], 8⟩ := by kernel_rfl
theorem el3 : elemI Try.prog 3 = none := by kernel_rfl
theorem it3 : intI Try.prog 3 = some .i64 := by kernel_rfl
theorem ty4 : tyI Try.prog 4 = some ⟨false, 1, [(.bool false)], 1⟩ := by kernel_rfl
theorem el4 : elemI Try.prog 4 = none := by kernel_rfl
theorem bl4 : blI Try.prog 4 = true := by kernel_rfl
theorem ty5 : tyI Try.prog 5 = some ⟨false, 1, [(.int .u8 0)], 1⟩ := by kernel_rfl
theorem el5 : elemI Try.prog 5 = none := by kernel_rfl
theorem it5 : intI Try.prog 5 = some .u8 := by kernel_rfl
theorem ty6 : tyI Try.prog 6 = some ⟨false, 1, [(.int .u8 0)], 1⟩ := by kernel_rfl
theorem el6 : elemI Try.prog 6 = none := by kernel_rfl
theorem it6 : intI Try.prog 6 = some .u8 := by kernel_rfl
theorem ty7 : tyI Try.prog 7 = some ⟨true, 4, [(.int .i64 0), (.int .i64 0), (.bool false), (.int .u8 0)], 24⟩ := by kernel_rfl
theorem el7 : elemI Try.prog 7 = none := by kernel_rfl
theorem eq7 : eqTy Try.prog 7 = some (.st [(0, 1, .it), (1, 1, .it), (2, 1, .bl), (3, 1, .it)]) := by kernel_rfl
theorem pl7 : placesI Try.prog 7 = some [(0, 1), (1, 1), (2, 1), (3, 1)] := by kernel_rfl
theorem fi7_0 : fieldI Try.prog 7 0 = some (0, 1, false) := by kernel_rfl
theorem fi7_1 : fieldI Try.prog 7 1 = some (1, 1, false) := by kernel_rfl
theorem fi7_2 : fieldI Try.prog 7 2 = some (2, 1, false) := by kernel_rfl
theorem fi7_3 : fieldI Try.prog 7 3 = some (3, 1, false) := by kernel_rfl
theorem ty8 : tyI Try.prog 8 = some ⟨true, 4, [(.int .i64 0), (.int .i64 0), (.bool false), (.int .u8 0)], 24⟩ := by kernel_rfl
theorem el8 : elemI Try.prog 8 = none := by kernel_rfl
theorem eq8 : eqTy Try.prog 8 = some (.st [(0, 1, .it), (1, 1, .it), (2, 1, .bl), (3, 1, .it)]) := by kernel_rfl
theorem pl8 : placesI Try.prog 8 = some [(0, 1), (1, 1), (2, 1), (3, 1)] := by kernel_rfl
theorem fi8_0 : fieldI Try.prog 8 0 = some (0, 1, false) := by kernel_rfl
theorem fi8_1 : fieldI Try.prog 8 1 = some (1, 1, false) := by kernel_rfl
theorem fi8_2 : fieldI Try.prog 8 2 = some (2, 1, false) := by kernel_rfl
theorem fi8_3 : fieldI Try.prog 8 3 = some (3, 1, false) := by kernel_rfl
theorem ty9 : tyI Try.prog 9 = some ⟨false, 1, [(.string ⟨#[]⟩)], 16⟩ := by kernel_rfl
theorem el9 : elemI Try.prog 9 = none := by kernel_rfl
theorem ty10 : tyI Try.prog 10 = some ⟨false, 1, [(.string ⟨#[]⟩)], 16⟩ := by kernel_rfl
theorem el10 : elemI Try.prog 10 = none := by kernel_rfl
theorem ty11 : tyI Try.prog 11 = some ⟨false, 1, [(.string ⟨#[]⟩)], 16⟩ := by kernel_rfl
theorem el11 : elemI Try.prog 11 = none := by kernel_rfl
theorem ty12 : tyI Try.prog 12 = some ⟨false, 1, [(.int .u64 0)], 8⟩ := by kernel_rfl
theorem el12 : elemI Try.prog 12 = none := by kernel_rfl
theorem it12 : intI Try.prog 12 = some .u64 := by kernel_rfl
theorem ty13 : tyI Try.prog 13 = some ⟨true, 2, [(.string ⟨#[]⟩), (.int .u64 0)], 24⟩ := by kernel_rfl
theorem el13 : elemI Try.prog 13 = none := by kernel_rfl
theorem pl13 : placesI Try.prog 13 = some [(0, 1), (1, 1)] := by kernel_rfl
theorem fi13_0 : fieldI Try.prog 13 0 = some (0, 1, false) := by kernel_rfl
theorem fi13_1 : fieldI Try.prog 13 1 = some (1, 1, false) := by kernel_rfl
theorem ty14 : tyI Try.prog 14 = some ⟨true, 2, [(.string ⟨#[]⟩), (.int .u64 0)], 24⟩ := by kernel_rfl
theorem el14 : elemI Try.prog 14 = none := by kernel_rfl
theorem pl14 : placesI Try.prog 14 = some [(0, 1), (1, 1)] := by kernel_rfl
theorem fi14_0 : fieldI Try.prog 14 0 = some (0, 1, false) := by kernel_rfl
theorem fi14_1 : fieldI Try.prog 14 1 = some (1, 1, false) := by kernel_rfl
theorem ty15 : tyI Try.prog 15 = some ⟨false, 1, [(.pointer none)], 8⟩ := by kernel_rfl
theorem el15 : elemI Try.prog 15 = none := by kernel_rfl
theorem ty16 : tyI Try.prog 16 = some ⟨false, 1, [(.pointer none)], 8⟩ := by kernel_rfl
theorem el16 : elemI Try.prog 16 = none := by kernel_rfl
theorem ty17 : tyI Try.prog 17 = some ⟨false, 1, [(.pointer none)], 8⟩ := by kernel_rfl
theorem el17 : elemI Try.prog 17 = none := by kernel_rfl
theorem ty18 : tyI Try.prog 18 = some ⟨true, 1, [(.pointer none)], 8⟩ := by kernel_rfl
theorem el18 : elemI Try.prog 18 = none := by kernel_rfl
theorem pl18 : placesI Try.prog 18 = some [(0, 1)] := by kernel_rfl
theorem fi18_0 : fieldI Try.prog 18 0 = some (0, 1, false) := by kernel_rfl
theorem ty19 : tyI Try.prog 19 = some ⟨true, 1, [(.pointer none)], 8⟩ := by kernel_rfl
theorem el19 : elemI Try.prog 19 = none := by kernel_rfl
theorem pl19 : placesI Try.prog 19 = some [(0, 1)] := by kernel_rfl
theorem fi19_0 : fieldI Try.prog 19 0 = some (0, 1, false) := by kernel_rfl
theorem ty20 : tyI Try.prog 20 = some ⟨false, 1, [.nilIface], 16⟩ := by kernel_rfl
theorem el20 : elemI Try.prog 20 = none := by kernel_rfl
theorem ty21 : tyI Try.prog 21 = some ⟨false, 1, [(.int .i32 0)], 4⟩ := by kernel_rfl
theorem el21 : elemI Try.prog 21 = none := by kernel_rfl
theorem it21 : intI Try.prog 21 = some .i32 := by kernel_rfl
theorem ty22 : tyI Try.prog 22 = some ⟨false, 1, [(.slice none 0 0)], 24⟩ := by kernel_rfl
theorem el22 : elemI Try.prog 22 = some 113 := by kernel_rfl
theorem ty23 : tyI Try.prog 23 = some ⟨true, 2, [(.int .u8 0), (.slice none 0 0)], 32⟩ := by kernel_rfl
theorem el23 : elemI Try.prog 23 = none := by kernel_rfl
theorem pl23 : placesI Try.prog 23 = some [(0, 1), (1, 1)] := by kernel_rfl
theorem fi23_0 : fieldI Try.prog 23 0 = some (0, 1, false) := by kernel_rfl
theorem fi23_1 : fieldI Try.prog 23 1 = some (1, 1, false) := by kernel_rfl
theorem ty24 : tyI Try.prog 24 = some ⟨true, 2, [(.int .u8 0), (.slice none 0 0)], 32⟩ := by kernel_rfl
theorem el24 : elemI Try.prog 24 = none := by kernel_rfl
theorem pl24 : placesI Try.prog 24 = some [(0, 1), (1, 1)] := by kernel_rfl
theorem fi24_0 : fieldI Try.prog 24 0 = some (0, 1, false) := by kernel_rfl
theorem fi24_1 : fieldI Try.prog 24 1 = some (1, 1, false) := by kernel_rfl
theorem ty25 : tyI Try.prog 25 = some ⟨true, 4, [(.int .u8 0), (.int .u8 0), (.int .u8 0), (.int .u8 0)], 4⟩ := by kernel_rfl
theorem el25 : elemI Try.prog 25 = none := by kernel_rfl
theorem ar25 : arrI Try.prog 25 = some (4, 5) := by kernel_rfl
theorem pl25 : placesI Try.prog 25 = some [(0, 1), (1, 1), (2, 1), (3, 1)] := by kernel_rfl
theorem ty26 : tyI Try.prog 26 = some ⟨false, 1, [(.slice none 0 0)], 24⟩ := by kernel_rfl
theorem el26 : elemI Try.prog 26 = some 5 := by kernel_rfl
theorem ty27 : tyI Try.prog 27 = some ⟨true, 2, [(.int .i64 0), (.int .i64 0)], 16⟩ := by kernel_rfl
theorem el27 : elemI Try.prog 27 = none := by kernel_rfl
theorem eq27 : eqTy Try.prog 27 = some (.st [(0, 1, .it), (1, 1, .it)]) := by kernel_rfl
theorem pl27 : placesI Try.prog 27 = some [(0, 1), (1, 1)] := by kernel_rfl
theorem fi27_0 : fieldI Try.prog 27 0 = some (0, 1, false) := by kernel_rfl
theorem fi27_1 : fieldI Try.prog 27 1 = some (1, 1, false) := by kernel_rfl
theorem ty28 : tyI Try.prog 28 = some ⟨true, 2, [(.int .i64 0), (.int .i64 0)], 16⟩ := by kernel_rfl
theorem el28 : elemI Try.prog 28 = none := by kernel_rfl
theorem eq28 : eqTy Try.prog 28 = some (.st [(0, 1, .it), (1, 1, .it)]) := by kernel_rfl
theorem pl28 : placesI Try.prog 28 = some [(0, 1), (1, 1)] := by kernel_rfl
theorem fi28_0 : fieldI Try.prog 28 0 = some (0, 1, false) := by kernel_rfl
theorem fi28_1 : fieldI Try.prog 28 1 = some (1, 1, false) := by kernel_rfl
theorem ty29 : tyI Try.prog 29 = some ⟨false, 1, [(.slice none 0 0)], 24⟩ := by kernel_rfl
theorem el29 : elemI Try.prog 29 = some 35 := by kernel_rfl
theorem ty30 : tyI Try.prog 30 = some ⟨true, 4, [(.int .i64 0), (.int .i64 0), (.int .i64 0), (.slice none 0 0)], 48⟩ := by kernel_rfl
theorem el30 : elemI Try.prog 30 = none := by kernel_rfl
theorem pl30 : placesI Try.prog 30 = some [(0, 2), (2, 1), (3, 1)] := by kernel_rfl
theorem fi30_0 : fieldI Try.prog 30 0 = some (0, 2, true) := by kernel_rfl
theorem fi30_1 : fieldI Try.prog 30 1 = some (2, 1, false) := by kernel_rfl
theorem fi30_2 : fieldI Try.prog 30 2 = some (3, 1, false) := by kernel_rfl
theorem ty31 : tyI Try.prog 31 = some ⟨true, 4, [(.int .i64 0), (.int .i64 0), (.int .i64 0), (.slice none 0 0)], 48⟩ := by kernel_rfl
theorem el31 : elemI Try.prog 31 = none := by kernel_rfl
theorem pl31 : placesI Try.prog 31 = some [(0, 2), (2, 1), (3, 1)] := by kernel_rfl
theorem fi31_0 : fieldI Try.prog 31 0 = some (0, 2, true) := by kernel_rfl
theorem fi31_1 : fieldI Try.prog 31 1 = some (2, 1, false) := by kernel_rfl
theorem fi31_2 : fieldI Try.prog 31 2 = some (3, 1, false) := by kernel_rfl
theorem ty32 : tyI Try.prog 32 = some ⟨false, 1, [.nilFunc], 8⟩ := by kernel_rfl
theorem el32 : elemI Try.prog 32 = none := by kernel_rfl
theorem ty33 : tyI Try.prog 33 = some ⟨false, 1, [(.slice none 0 0)], 24⟩ := by kernel_rfl
theorem el33 : elemI Try.prog 33 = some 38 := by kernel_rfl
theorem ty34 : tyI Try.prog 34 = some ⟨true, 2, [(.int .i64 0), (.int .i64 0)], 16⟩ := by kernel_rfl
theorem el34 : elemI Try.prog 34 = none := by kernel_rfl
theorem eq34 : eqTy Try.prog 34 = some (.st [(0, 1, .it), (1, 1, .it)]) := by kernel_rfl
theorem pl34 : placesI Try.prog 34 = some [(0, 1), (1, 1)] := by kernel_rfl
theorem fi34_0 : fieldI Try.prog 34 0 = some (0, 1, false) := by kernel_rfl
theorem fi34_1 : fieldI Try.prog 34 1 = some (1, 1, false) := by kernel_rfl
theorem ty35 : tyI Try.prog 35 = some ⟨true, 2, [(.int .i64 0), (.int .i64 0)], 16⟩ := by kernel_rfl
theorem el35 : elemI Try.prog 35 = none := by kernel_rfl
theorem eq35 : eqTy Try.prog 35 = some (.st [(0, 1, .it), (1, 1, .it)]) := by kernel_rfl
theorem pl35 : placesI Try.prog 35 = some [(0, 1), (1, 1)] := by kernel_rfl
theorem fi35_0 : fieldI Try.prog 35 0 = some (0, 1, false) := by kernel_rfl
theorem fi35_1 : fieldI Try.prog 35 1 = some (1, 1, false) := by kernel_rfl
theorem ty36 : tyI Try.prog 36 = some ⟨false, 1, [.nilFunc], 8⟩ := by kernel_rfl
theorem el36 : elemI Try.prog 36 = none := by kernel_rfl
theorem ty37 : tyI Try.prog 37 = some ⟨true, 3, [(.int .i64 0), (.int .i64 0), (.int .i64 0)], 24⟩ := by kernel_rfl
theorem el37 : elemI Try.prog 37 = none := by kernel_rfl
theorem eq37 : eqTy Try.prog 37 = some (.st [(0, 1, .it), (1, 2, (.st [(0, 1, .it), (1, 1, .it)]))]) := by kernel_rfl
theorem pl37 : placesI Try.prog 37 = some [(0, 1), (1, 2)] := by kernel_rfl
theorem fi37_0 : fieldI Try.prog 37 0 = some (0, 1, false) := by kernel_rfl
theorem fi37_1 : fieldI Try.prog 37 1 = some (1, 2, true) := by kernel_rfl
theorem ty38 : tyI Try.prog 38 = some ⟨true, 3, [(.int .i64 0), (.int .i64 0), (.int .i64 0)], 24⟩ := by kernel_rfl
theorem el38 : elemI Try.prog 38 = none := by kernel_rfl
theorem eq38 : eqTy Try.prog 38 = some (.st [(0, 1, .it), (1, 2, (.st [(0, 1, .it), (1, 1, .it)]))]) := by kernel_rfl
theorem pl38 : placesI Try.prog 38 = some [(0, 1), (1, 2)] := by kernel_rfl
theorem fi38_0 : fieldI Try.prog 38 0 = some (0, 1, false) := by kernel_rfl
theorem fi38_1 : fieldI Try.prog 38 1 = some (1, 2, true) := by kernel_rfl
theorem ty39 : tyI Try.prog 39 = some ⟨true, 5, [(.int .i64 0), (.int .i64 0), (.int .i64 0), (.int .i64 0), (.int .i64 0)], 40⟩ := by kernel_rfl
theorem el39 : elemI Try.prog 39 = none := by kernel_rfl
theorem eq39 : eqTy Try.prog 39 = some (.st [(0, 1, .it), (1, 1, .it), (2, 1, .it), (3, 1, .it), (4, 1, .it)]) := by kernel_rfl
theorem pl39 : placesI Try.prog 39 = some [(0, 1), (1, 1), (2, 1), (3, 1), (4, 1)] := by kernel_rfl
theorem fi39_0 : fieldI Try.prog 39 0 = some (0, 1, false) := by kernel_rfl
theorem fi39_1 : fieldI Try.prog 39 1 = some (1, 1, false) := by kernel_rfl
theorem fi39_2 : fieldI Try.prog 39 2 = some (2, 1, false) := by kernel_rfl
theorem fi39_3 : fieldI Try.prog 39 3 = some (3, 1, false) := by kernel_rfl
theorem fi39_4 : fieldI Try.prog 39 4 = some (4, 1, false) := by kernel_rfl
theorem ty40 : tyI Try.prog 40 = some ⟨true, 5, [(.int .i64 0), (.int .i64 0), (.int .i64 0), (.int .i64 0), (.int .i64 0)], 40⟩ := by kernel_rfl
theorem el40 : elemI Try.prog 40 = none := by kernel_rfl
theorem eq40 : eqTy Try.prog 40 = some (.st [(0, 1, .it), (1, 1, .it), (2, 1, .it), (3, 1, .it), (4, 1, .it)]) := by kernel_rfl
theorem pl40 : placesI Try.prog 40 = some [(0, 1), (1, 1), (2, 1), (3, 1), (4, 1)] := by kernel_rfl
theorem fi40_0 : fieldI Try.prog 40 0 = some (0, 1, false) := by kernel_rfl
theorem fi40_1 : fieldI Try.prog 40 1 = some (1, 1, false) := by kernel_rfl
theorem fi40_2 : fieldI Try.prog 40 2 = some (2, 1, false) := by kernel_rfl
theorem fi40_3 : fieldI Try.prog 40 3 = some (3, 1, false) := by kernel_rfl
theorem fi40_4 : fieldI Try.prog 40 4 = some (4, 1, false) := by kernel_rfl
theorem ty41 : tyI Try.prog 41 = some ⟨false, 1, [(.slice none 0 0)], 24⟩ := by kernel_rfl
theorem el41 : elemI Try.prog 41 = some 3 := by kernel_rfl
theorem ty42 : tyI Try.prog 42 = some ⟨false, 1, [(.int .i64 0)], 8⟩ := by kernel_rfl
theorem el42 : elemI Try.prog 42 = none := by kernel_rfl
theorem it42 : intI Try.prog 42 = some .i64 := by kernel_rfl
theorem el43 : elemI Try.prog 43 = none := by kernel_rfl
theorem ty44 : tyI Try.prog 44 = some ⟨false, 1, [.nilFunc], 8⟩ := by kernel_rfl
theorem el44 : elemI Try.prog 44 = none := by kernel_rfl
theorem ty45 : tyI Try.prog 45 = some ⟨false, 1, [.nilFunc], 8⟩ := by kernel_rfl
theorem el45 : elemI Try.prog 45 = none := by kernel_rfl
theorem ty46 : tyI Try.prog 46 = some ⟨false, 1, [.nilFunc], 8⟩ := by kernel_rfl
theorem el46 : elemI Try.prog 46 = none := by kernel_rfl
theorem ty47 : tyI Try.prog 47 = some ⟨false, 1, [(.map none)], 8⟩ := by kernel_rfl
theorem el47 : elemI Try.prog 47 = none := by kernel_rfl
theorem mp47 : mapI Try.prog 47 = some ((.c (.v (.bool false))), (.int .i64)) := by kernel_rfl
theorem ty48 : tyI Try.prog 48 = some ⟨false, 1, [.nilFunc], 8⟩ := by kernel_rfl
theorem el48 : elemI Try.prog 48 = none := by kernel_rfl
theorem el49 : elemI Try.prog 49 = none := by kernel_rfl
theorem ty50 : tyI Try.prog 50 = some ⟨false, 1, [.nilFunc], 8⟩ := by kernel_rfl
theorem el50 : elemI Try.prog 50 = none := by kernel_rfl
theorem el51 : elemI Try.prog 51 = none := by kernel_rfl
theorem ty52 : tyI Try.prog 52 = some ⟨false, 1, [.nilFunc], 8⟩ := by kernel_rfl
theorem el52 : elemI Try.prog 52 = none := by kernel_rfl
theorem ty53 : tyI Try.prog 53 = some ⟨false, 1, [.nilFunc], 8⟩ := by kernel_rfl
theorem el53 : elemI Try.prog 53 = none := by kernel_rfl
theorem ty54 : tyI Try.prog 54 = some ⟨false, 1, [.nilFunc], 8⟩ := by kernel_rfl
theorem el54 : elemI Try.prog 54 = none := by kernel_rfl
theorem ty55 : tyI Try.prog 55 = some ⟨false, 1, [(.slice none 0 0)], 24⟩ := by kernel_rfl
theorem el55 : elemI Try.prog 55 = some 142 := by kernel_rfl
theorem ty56 : tyI Try.prog 56 = some ⟨false, 1, [(.slice none 0 0)], 24⟩ := by kernel_rfl
theorem el56 : elemI Try.prog 56 = some 93 := by kernel_rfl
theorem ty57 : tyI Try.prog 57 = some ⟨true, 3, [(.slice none 0 0), (.slice none 0 0), (.slice none 0 0)], 72⟩ := by kernel_rfl
theorem el57 : elemI Try.prog 57 = none := by kernel_rfl
theorem pl57 : placesI Try.prog 57 = some [(0, 1), (1, 1), (2, 1)] := by kernel_rfl
theorem fi57_0 : fieldI Try.prog 57 0 = some (0, 1, false) := by kernel_rfl
theorem fi57_1 : fieldI Try.prog 57 1 = some (1, 1, false) := by kernel_rfl
theorem fi57_2 : fieldI Try.prog 57 2 = some (2, 1, false) := by kernel_rfl
theorem ty58 : tyI Try.prog 58 = some ⟨true, 3, [(.slice none 0 0), (.slice none 0 0), (.slice none 0 0)], 72⟩ := by kernel_rfl
theorem el58 : elemI Try.prog 58 = none := by kernel_rfl
theorem pl58 : placesI Try.prog 58 = some [(0, 1), (1, 1), (2, 1)] := by kernel_rfl
theorem fi58_0 : fieldI Try.prog 58 0 = some (0, 1, false) := by kernel_rfl
theorem fi58_1 : fieldI Try.prog 58 1 = some (1, 1, false) := by kernel_rfl
theorem fi58_2 : fieldI Try.prog 58 2 = some (2, 1, false) := by kernel_rfl
theorem ty59 : tyI Try.prog 59 = some ⟨true, 8, [(.int .u8 0), (.int .u8 0), (.int .u8 0), (.int .u8 0), (.int .u8 0), (.int .u8 0), (.int .u8 0), (.int .u8 0)], 8⟩ := by kernel_rfl
theorem el59 : elemI Try.prog 59 = none := by kernel_rfl
theorem ar59 : arrI Try.prog 59 = some (8, 5) := by kernel_rfl
theorem pl59 : placesI Try.prog 59 = some [(0, 1), (1, 1), (2, 1), (3, 1), (4, 1), (5, 1), (6, 1), (7, 1)] := by kernel_rfl
theorem ty60 : tyI Try.prog 60 = some ⟨false, 1, [(.slice none 0 0)], 24⟩ := by kernel_rfl
theorem el60 : elemI Try.prog 60 = some 145 := by kernel_rfl
theorem ty61 : tyI Try.prog 61 = some ⟨false, 1, [(.slice none 0 0)], 24⟩ := by kernel_rfl
theorem el61 : elemI Try.prog 61 = some 109 := by kernel_rfl
theorem ty62 : tyI Try.prog 62 = some ⟨true, 2, [(.slice none 0 0), (.slice none 0 0)], 48⟩ := by kernel_rfl
theorem el62 : elemI Try.prog 62 = none := by kernel_rfl
theorem pl62 : placesI Try.prog 62 = some [(0, 1), (1, 1)] := by kernel_rfl
theorem fi62_0 : fieldI Try.prog 62 0 = some (0, 1, false) := by kernel_rfl
theorem fi62_1 : fieldI Try.prog 62 1 = some (1, 1, false) := by kernel_rfl
theorem ty63 : tyI Try.prog 63 = some ⟨true, 2, [(.slice none 0 0), (.slice none 0 0)], 48⟩ := by kernel_rfl
theorem el63 : elemI Try.prog 63 = none := by kernel_rfl
theorem pl63 : placesI Try.prog 63 = some [(0, 1), (1, 1)] := by kernel_rfl
theorem fi63_0 : fieldI Try.prog 63 0 = some (0, 1, false) := by kernel_rfl
theorem fi63_1 : fieldI Try.prog 63 1 = some (1, 1, false) := by kernel_rfl
theorem ty64 : tyI Try.prog 64 = some ⟨false, 1, [.nilFunc], 8⟩ := by kernel_rfl
theorem el64 : elemI Try.prog 64 = none := by kernel_rfl
theorem ty65 : tyI Try.prog 65 = some ⟨true, 2, [(.slice none 0 0), (.slice none 0 0)], 48⟩ := by kernel_rfl
theorem el65 : elemI Try.prog 65 = none := by kernel_rfl
theorem pl65 : placesI Try.prog 65 = some [(0, 1), (1, 1)] := by kernel_rfl
theorem fi65_0 : fieldI Try.prog 65 0 = some (0, 1, false) := by kernel_rfl
theorem fi65_1 : fieldI Try.prog 65 1 = some (1, 1, false) := by kernel_rfl
theorem ty66 : tyI Try.prog 66 = some ⟨true, 2, [(.slice none 0 0), (.slice none 0 0)], 48⟩ := by kernel_rfl
theorem el66 : elemI Try.prog 66 = none := by kernel_rfl
theorem pl66 : placesI Try.prog 66 = some [(0, 1), (1, 1)] := by kernel_rfl
theorem fi66_0 : fieldI Try.prog 66 0 = some (0, 1, false) := by kernel_rfl
theorem fi66_1 : fieldI Try.prog 66 1 = some (1, 1, false) := by kernel_rfl
theorem ty67 : tyI Try.prog 67 = some ⟨false, 1, [.nilFunc], 8⟩ := by kernel_rfl
theorem el67 : elemI Try.prog 67 = none := by kernel_rfl
theorem ty68 : tyI Try.prog 68 = some ⟨true, 4, [(.int .i64 0), (.int .i64 0), (.int .i64 0), (.int .i64 0)], 32⟩ := by kernel_rfl
theorem el68 : elemI Try.prog 68 = none := by kernel_rfl
theorem eq68 : eqTy Try.prog 68 = some (.st [(0, 1, .it), (1, 2, (.st [(0, 1, .it), (1, 1, .it)])), (3, 1, .it)]) := by kernel_rfl
theorem pl68 : placesI Try.prog 68 = some [(0, 1), (1, 2), (3, 1)] := by kernel_rfl
theorem fi68_0 : fieldI Try.prog 68 0 = some (0, 1, false) := by kernel_rfl
theorem fi68_1 : fieldI Try.prog 68 1 = some (1, 2, true) := by kernel_rfl
theorem fi68_2 : fieldI Try.prog 68 2 = some (3, 1, false) := by kernel_rfl
theorem ty69 : tyI Try.prog 69 = some ⟨true, 4, [(.int .i64 0), (.int .i64 0), (.int .i64 0), (.int .i64 0)], 32⟩ := by kernel_rfl
theorem el69 : elemI Try.prog 69 = none := by kernel_rfl
theorem eq69 : eqTy Try.prog 69 = some (.st [(0, 1, .it), (1, 2, (.st [(0, 1, .it), (1, 1, .it)])), (3, 1, .it)]) := by kernel_rfl
theorem pl69 : placesI Try.prog 69 = some [(0, 1), (1, 2), (3, 1)] := by kernel_rfl
theorem fi69_0 : fieldI Try.prog 69 0 = some (0, 1, false) := by kernel_rfl
theorem fi69_1 : fieldI Try.prog 69 1 = some (1, 2, true) := by kernel_rfl
theorem fi69_2 : fieldI Try.prog 69 2 = some (3, 1, false) := by kernel_rfl
theorem ty70 : tyI Try.prog 70 = some ⟨false, 1, [(.slice none 0 0)], 24⟩ := by kernel_rfl
theorem el70 : elemI Try.prog 70 = some 73 := by kernel_rfl
theorem ty71 : tyI Try.prog 71 = some ⟨false, 1, [(.int .u64 0)], 8⟩ := by kernel_rfl
theorem el71 : elemI Try.prog 71 = none := by kernel_rfl
theorem it71 : intI Try.prog 71 = some .u64 := by kernel_rfl
theorem ty72 : tyI Try.prog 72 = some ⟨true, 3, [(.int .i64 0), (.int .i64 0), (.int .i64 0)], 24⟩ := by kernel_rfl
theorem el72 : elemI Try.prog 72 = none := by kernel_rfl
theorem eq72 : eqTy Try.prog 72 = some (.st [(0, 1, .it), (1, 2, (.st [(0, 1, .it), (1, 1, .it)]))]) := by kernel_rfl
theorem pl72 : placesI Try.prog 72 = some [(0, 1), (1, 2)] := by kernel_rfl
theorem fi72_0 : fieldI Try.prog 72 0 = some (0, 1, false) := by kernel_rfl
theorem fi72_1 : fieldI Try.prog 72 1 = some (1, 2, true) := by kernel_rfl
theorem ty73 : tyI Try.prog 73 = some ⟨true, 3, [(.int .i64 0), (.int .i64 0), (.int .i64 0)], 24⟩ := by kernel_rfl
theorem el73 : elemI Try.prog 73 = none := by kernel_rfl
theorem eq73 : eqTy Try.prog 73 = some (.st [(0, 1, .it), (1, 2, (.st [(0, 1, .it), (1, 1, .it)]))]) := by kernel_rfl
theorem pl73 : placesI Try.prog 73 = some [(0, 1), (1, 2)] := by kernel_rfl
theorem fi73_0 : fieldI Try.prog 73 0 = some (0, 1, false) := by kernel_rfl
theorem fi73_1 : fieldI Try.prog 73 1 = some (1, 2, true) := by kernel_rfl
theorem ty74 : tyI Try.prog 74 = some ⟨false, 1, [(.slice none 0 0)], 24⟩ := by kernel_rfl
theorem el74 : elemI Try.prog 74 = some 78 := by kernel_rfl
theorem el75 : elemI Try.prog 75 = none := by kernel_rfl
theorem ty76 : tyI Try.prog 76 = some ⟨false, 1, [.nilFunc], 8⟩ := by kernel_rfl
theorem el76 : elemI Try.prog 76 = none := by kernel_rfl
theorem ty77 : tyI Try.prog 77 = some ⟨true, 2, [(.slice none 0 0), (.int .i64 0)], 32⟩ := by kernel_rfl
theorem el77 : elemI Try.prog 77 = none := by kernel_rfl
theorem pl77 : placesI Try.prog 77 = some [(0, 1), (1, 1)] := by kernel_rfl
theorem fi77_0 : fieldI Try.prog 77 0 = some (0, 1, false) := by kernel_rfl
theorem fi77_1 : fieldI Try.prog 77 1 = some (1, 1, false) := by kernel_rfl
theorem ty78 : tyI Try.prog 78 = some ⟨true, 2, [(.slice none 0 0), (.int .i64 0)], 32⟩ := by kernel_rfl
theorem el78 : elemI Try.prog 78 = none := by kernel_rfl
theorem pl78 : placesI Try.prog 78 = some [(0, 1), (1, 1)] := by kernel_rfl
theorem fi78_0 : fieldI Try.prog 78 0 = some (0, 1, false) := by kernel_rfl
theorem fi78_1 : fieldI Try.prog 78 1 = some (1, 1, false) := by kernel_rfl
theorem el79 : elemI Try.prog 79 = none := by kernel_rfl
theorem ty80 : tyI Try.prog 80 = some ⟨false, 1, [.nilFunc], 8⟩ := by kernel_rfl
theorem el80 : elemI Try.prog 80 = none := by kernel_rfl
theorem ty81 : tyI Try.prog 81 = some ⟨false, 1, [.nilFunc], 8⟩ := by kernel_rfl
theorem el81 : elemI Try.prog 81 = none := by kernel_rfl
theorem ty82 : tyI Try.prog 82 = some ⟨true, 5, [(.int .i64 0), (.int .i64 0), (.int .i64 0), (.int .i64 0), (.int .i64 0)], 40⟩ := by kernel_rfl
theorem el82 : elemI Try.prog 82 = none := by kernel_rfl
theorem ar82 : arrI Try.prog 82 = some (5, 3) := by kernel_rfl
theorem pl82 : placesI Try.prog 82 = some [(0, 1), (1, 1), (2, 1), (3, 1), (4, 1)] := by kernel_rfl
theorem ty83 : tyI Try.prog 83 = some ⟨false, 1, [.nilFunc], 8⟩ := by kernel_rfl
theorem el83 : elemI Try.prog 83 = none := by kernel_rfl
theorem ty84 : tyI Try.prog 84 = some ⟨false, 1, [(.slice none 0 0)], 24⟩ := by kernel_rfl
theorem el84 : elemI Try.prog 84 = some 28 := by kernel_rfl
theorem el85 : elemI Try.prog 85 = none := by kernel_rfl
theorem ty86 : tyI Try.prog 86 = some ⟨false, 1, [.nilFunc], 8⟩ := by kernel_rfl
theorem el86 : elemI Try.prog 86 = none := by kernel_rfl
theorem ty87 : tyI Try.prog 87 = some ⟨false, 1, [.nilFunc], 8⟩ := by kernel_rfl
theorem el87 : elemI Try.prog 87 = none := by kernel_rfl
theorem el88 : elemI Try.prog 88 = none := by kernel_rfl
theorem ty89 : tyI Try.prog 89 = some ⟨false, 1, [.nilFunc], 8⟩ := by kernel_rfl
theorem el89 : elemI Try.prog 89 = none := by kernel_rfl
theorem ty90 : tyI Try.prog 90 = some ⟨false, 1, [.nilFunc], 8⟩ := by kernel_rfl
theorem el90 : elemI Try.prog 90 = none := by kernel_rfl
theorem ty91 : tyI Try.prog 91 = some ⟨true, 7, [(.int .u8 0), (.int .u8 0), (.int .u8 0), (.int .u8 0), (.int .u8 0), (.int .u8 0), (.int .u8 0)], 7⟩ := by kernel_rfl
theorem el91 : elemI Try.prog 91 = none := by kernel_rfl
theorem ar91 : arrI Try.prog 91 = some (7, 5) := by kernel_rfl
theorem pl91 : placesI Try.prog 91 = some [(0, 1), (1, 1), (2, 1), (3, 1), (4, 1), (5, 1), (6, 1)] := by kernel_rfl
theorem ty92 : tyI Try.prog 92 = some ⟨true, 21, [(.int .u8 0), (.int .u8 0), (.int .u8 0), (.int .u8 0), (.int .u8 0), (.int .u8 0), (.int .u8 0), (.int .u8 0), (.int .u8 0), (.int .u8 0), (.int .u8 0), (.int .u8 0), (.int .u8 0), (.int .u8 0), (.int .u8 0), (.int .u8 0), (.int .u8 0), (.int .u8 0), (.int .u8 0), (.int .u8 0), (.int .u8 0)], 21⟩ := by kernel_rfl
theorem el92 : elemI Try.prog 92 = none := by kernel_rfl
theorem ar92 : arrI Try.prog 92 = some (3, 91) := by kernel_rfl
theorem pl92 : placesI Try.prog 92 = some [(0, 7), (7, 7), (14, 7)] := by kernel_rfl
theorem ty93 : tyI Try.prog 93 = some ⟨true, 3, [(.int .u8 0), (.int .u8 0), (.int .u8 0)], 3⟩ := by kernel_rfl
theorem el93 : elemI Try.prog 93 = none := by kernel_rfl
theorem ar93 : arrI Try.prog 93 = some (3, 5) := by kernel_rfl
theorem pl93 : placesI Try.prog 93 = some [(0, 1), (1, 1), (2, 1)] := by kernel_rfl
theorem ty94 : tyI Try.prog 94 = some ⟨true, 9, [(.int .u8 0), (.int .u8 0), (.int .u8 0), (.int .u8 0), (.int .u8 0), (.int .u8 0), (.int .u8 0), (.int .u8 0), (.int .u8 0)], 9⟩ := by kernel_rfl
theorem el94 : elemI Try.prog 94 = none := by kernel_rfl
theorem ar94 : arrI Try.prog 94 = some (3, 93) := by kernel_rfl
theorem pl94 : placesI Try.prog 94 = some [(0, 3), (3, 3), (6, 3)] := by kernel_rfl
theorem ty95 : tyI Try.prog 95 = some ⟨true, 31, [(.int .u8 0), (.int .u8 0), (.int .u8 0), (.int .u8 0), (.int .u8 0), (.int .u8 0), (.int .u8 0), (.int .u8 0), (.int .u8 0), (.int .u8 0), (.int .u8 0), (.int .u8 0), (.int .u8 0), (.int .u8 0), (.int .u8 0), (.int .u8 0), (.int .u8 0), (.int .u8 0), (.int .u8 0), (.int .u8 0), (.int .u8 0), (.int .u8 0), (.int .u8 0), (.int .u8 0), (.int .u8 0), (.int .u8 0), (.int .u8 0), (.int .u8 0), (.int .u8 0), (.int .u8 0), (.int .u8 0)], 31⟩ := by kernel_rfl
theorem el95 : elemI Try.prog 95 = none := by kernel_rfl
theorem pl95 : placesI Try.prog 95 = some [(0, 21), (21, 1), (22, 9)] := by kernel_rfl
theorem fi95_0 : fieldI Try.prog 95 0 = some (0, 21, true) := by kernel_rfl
theorem fi95_1 : fieldI Try.prog 95 1 = some (21, 1, false) := by kernel_rfl
theorem fi95_2 : fieldI Try.prog 95 2 = some (22, 9, true) := by kernel_rfl
theorem ty96 : tyI Try.prog 96 = some ⟨true, 31, [(.int .u8 0), (.int .u8 0), (.int .u8 0), (.int .u8 0), (.int .u8 0), (.int .u8 0), (.int .u8 0), (.int .u8 0), (.int .u8 0), (.int .u8 0), (.int .u8 0), (.int .u8 0), (.int .u8 0), (.int .u8 0), (.int .u8 0), (.int .u8 0), (.int .u8 0), (.int .u8 0), (.int .u8 0), (.int .u8 0), (.int .u8 0), (.int .u8 0), (.int .u8 0), (.int .u8 0), (.int .u8 0), (.int .u8 0), (.int .u8 0), (.int .u8 0), (.int .u8 0), (.int .u8 0), (.int .u8 0)], 31⟩ := by kernel_rfl
theorem el96 : elemI Try.prog 96 = none := by kernel_rfl
theorem pl96 : placesI Try.prog 96 = some [(0, 21), (21, 1), (22, 9)] := by kernel_rfl
theorem fi96_0 : fieldI Try.prog 96 0 = some (0, 21, true) := by kernel_rfl
theorem fi96_1 : fieldI Try.prog 96 1 = some (21, 1, false) := by kernel_rfl
theorem fi96_2 : fieldI Try.prog 96 2 = some (22, 9, true) := by kernel_rfl
theorem ty97 : tyI Try.prog 97 = some ⟨true, 12, [(.int .u8 0), (.int .u8 0), (.int .u8 0), (.int .u8 0), (.int .u8 0), (.int .u8 0), (.int .u8 0), (.int .u8 0), (.int .u8 0), (.int .u8 0), (.int .u8 0), (.int .u8 0)], 12⟩ := by kernel_rfl
theorem el97 : elemI Try.prog 97 = none := by kernel_rfl
theorem ar97 : arrI Try.prog 97 = some (3, 25) := by kernel_rfl
theorem pl97 : placesI Try.prog 97 = some [(0, 4), (4, 4), (8, 4)] := by kernel_rfl
theorem ty98 : tyI Try.prog 98 = some ⟨true, 6, [(.int .u8 0), (.int .u8 0), (.int .u8 0), (.int .u8 0), (.int .u8 0), (.int .u8 0)], 6⟩ := by kernel_rfl
theorem el98 : elemI Try.prog 98 = none := by kernel_rfl
theorem ar98 : arrI Try.prog 98 = some (2, 93) := by kernel_rfl
theorem pl98 : placesI Try.prog 98 = some [(0, 3), (3, 3)] := by kernel_rfl
theorem ty99 : tyI Try.prog 99 = some ⟨true, 25, [(.int .u8 0), (.int .u8 0), (.int .u8 0), (.int .u8 0), (.int .u8 0), (.int .u8 0), (.int .u8 0), (.int .u8 0), (.int .u8 0), (.int .u8 0), (.int .u8 0), (.int .u8 0), (.int .u8 0), (.int .u8 0), (.int .u8 0), (.int .u8 0), (.int .u8 0), (.int .u8 0), (.int .u8 0), (.int .u8 0), (.int .u8 0), (.int .u8 0), (.int .u8 0), (.int .u8 0), (.int .u8 0)], 25⟩ := by kernel_rfl
theorem el99 : elemI Try.prog 99 = none := by kernel_rfl
theorem pl99 : placesI Try.prog 99 = some [(0, 12), (12, 6), (18, 7)] := by kernel_rfl
theorem fi99_0 : fieldI Try.prog 99 0 = some (0, 12, true) := by kernel_rfl
theorem fi99_1 : fieldI Try.prog 99 1 = some (12, 6, true) := by kernel_rfl
theorem fi99_2 : fieldI Try.prog 99 2 = some (18, 7, true) := by kernel_rfl
theorem ty100 : tyI Try.prog 100 = some ⟨true, 25, [(.int .u8 0), (.int .u8 0), (.int .u8 0), (.int .u8 0), (.int .u8 0), (.int .u8 0), (.int .u8 0), (.int .u8 0), (.int .u8 0), (.int .u8 0), (.int .u8 0), (.int .u8 0), (.int .u8 0), (.int .u8 0), (.int .u8 0), (.int .u8 0), (.int .u8 0), (.int .u8 0), (.int .u8 0), (.int .u8 0), (.int .u8 0), (.int .u8 0), (.int .u8 0), (.int .u8 0), (.int .u8 0)], 25⟩ := by kernel_rfl
theorem el100 : elemI Try.prog 100 = none := by kernel_rfl
theorem pl100 : placesI Try.prog 100 = some [(0, 12), (12, 6), (18, 7)] := by kernel_rfl
theorem fi100_0 : fieldI Try.prog 100 0 = some (0, 12, true) := by kernel_rfl
theorem fi100_1 : fieldI Try.prog 100 1 = some (12, 6, true) := by kernel_rfl
theorem fi100_2 : fieldI Try.prog 100 2 = some (18, 7, true) := by kernel_rfl
theorem ty101 : tyI Try.prog 101 = some ⟨false, 1, [(.slice none 0 0)], 24⟩ := by kernel_rfl
theorem el101 : elemI Try.prog 101 = some 169 := by kernel_rfl
theorem el102 : elemI Try.prog 102 = none := by kernel_rfl
theorem ty103 : tyI Try.prog 103 = some ⟨false, 1, [.nilFunc], 8⟩ := by kernel_rfl
theorem el103 : elemI Try.prog 103 = none := by kernel_rfl
theorem el104 : elemI Try.prog 104 = none := by kernel_rfl
theorem ty105 : tyI Try.prog 105 = some ⟨false, 1, [.nilFunc], 8⟩ := by kernel_rfl
theorem el105 : elemI Try.prog 105 = none := by kernel_rfl
theorem ty106 : tyI Try.prog 106 = some ⟨false, 1, [.nilFunc], 8⟩ := by kernel_rfl
theorem el106 : elemI Try.prog 106 = none := by kernel_rfl
theorem ty107 : tyI Try.prog 107 = some ⟨false, 1, [.nilFunc], 8⟩ := by kernel_rfl
theorem el107 : elemI Try.prog 107 = none := by kernel_rfl
theorem ty108 : tyI Try.prog 108 = some ⟨true, 4, [(.int .i64 0), (.int .i64 0), (.int .i64 0), (.int .i64 0)], 32⟩ := by kernel_rfl
theorem el108 : elemI Try.prog 108 = none := by kernel_rfl
theorem eq108 : eqTy Try.prog 108 = some (.st [(0, 1, .it), (1, 1, .it), (2, 2, (.st [(0, 1, .it), (1, 1, .it)]))]) := by kernel_rfl
theorem pl108 : placesI Try.prog 108 = some [(0, 1), (1, 1), (2, 2)] := by kernel_rfl
theorem fi108_0 : fieldI Try.prog 108 0 = some (0, 1, false) := by kernel_rfl
theorem fi108_1 : fieldI Try.prog 108 1 = some (1, 1, false) := by kernel_rfl
theorem fi108_2 : fieldI Try.prog 108 2 = some (2, 2, true) := by kernel_rfl
theorem ty109 : tyI Try.prog 109 = some ⟨true, 4, [(.int .i64 0), (.int .i64 0), (.int .i64 0), (.int .i64 0)], 32⟩ := by kernel_rfl
theorem el109 : elemI Try.prog 109 = none := by kernel_rfl
theorem eq109 : eqTy Try.prog 109 = some (.st [(0, 1, .it), (1, 1, .it), (2, 2, (.st [(0, 1, .it), (1, 1, .it)]))]) := by kernel_rfl
theorem pl109 : placesI Try.prog 109 = some [(0, 1), (1, 1), (2, 2)] := by kernel_rfl
theorem fi109_0 : fieldI Try.prog 109 0 = some (0, 1, false) := by kernel_rfl
theorem fi109_1 : fieldI Try.prog 109 1 = some (1, 1, false) := by kernel_rfl
theorem fi109_2 : fieldI Try.prog 109 2 = some (2, 2, true) := by kernel_rfl
theorem ty110 : tyI Try.prog 110 = some ⟨true, 3, [(.slice none 0 0), (.slice none 0 0), (.slice none 0 0)], 72⟩ := by kernel_rfl
theorem el110 : elemI Try.prog 110 = none := by kernel_rfl
theorem ar110 : arrI Try.prog 110 = some (3, 84) := by kernel_rfl
theorem pl110 : placesI Try.prog 110 = some [(0, 1), (1, 1), (2, 1)] := by kernel_rfl
theorem ty111 : tyI Try.prog 111 = some ⟨true, 3, [(.int .i64 0), (.int .i64 0), (.int .i64 0)], 24⟩ := by kernel_rfl
theorem el111 : elemI Try.prog 111 = none := by kernel_rfl
theorem ar111 : arrI Try.prog 111 = some (3, 3) := by kernel_rfl
theorem pl111 : placesI Try.prog 111 = some [(0, 1), (1, 1), (2, 1)] := by kernel_rfl
theorem ty112 : tyI Try.prog 112 = some ⟨false, 1, [.nilFunc], 8⟩ := by kernel_rfl
theorem el112 : elemI Try.prog 112 = none := by kernel_rfl
theorem ty113 : tyI Try.prog 113 = some ⟨true, 2, [(.int .u8 0), (.int .u8 0)], 2⟩ := by kernel_rfl
theorem el113 : elemI Try.prog 113 = none := by kernel_rfl
theorem ar113 : arrI Try.prog 113 = some (2, 5) := by kernel_rfl
theorem pl113 : placesI Try.prog 113 = some [(0, 1), (1, 1)] := by kernel_rfl
theorem ty114 : tyI Try.prog 114 = some ⟨false, 1, [.nilFunc], 8⟩ := by kernel_rfl
theorem el114 : elemI Try.prog 114 = none := by kernel_rfl
theorem ty115 : tyI Try.prog 115 = some ⟨false, 1, [.nilFunc], 8⟩ := by kernel_rfl
theorem el115 : elemI Try.prog 115 = none := by kernel_rfl
theorem ty116 : tyI Try.prog 116 = some ⟨false, 1, [.nilFunc], 8⟩ := by kernel_rfl
theorem el116 : elemI Try.prog 116 = none := by kernel_rfl
theorem ty117 : tyI Try.prog 117 = some ⟨true, 6, [(.int .i64 0), (.int .i64 0), (.int .i64 0), (.int .i64 0), (.int .i64 0), (.slice none 0 0)], 64⟩ := by kernel_rfl
theorem el117 : elemI Try.prog 117 = none := by kernel_rfl
theorem pl117 : placesI Try.prog 117 = some [(0, 5), (5, 1)] := by kernel_rfl
theorem fi117_0 : fieldI Try.prog 117 0 = some (0, 5, true) := by kernel_rfl
theorem fi117_1 : fieldI Try.prog 117 1 = some (5, 1, false) := by kernel_rfl
theorem ty118 : tyI Try.prog 118 = some ⟨true, 6, [(.int .i64 0), (.int .i64 0), (.int .i64 0), (.int .i64 0), (.int .i64 0), (.slice none 0 0)], 64⟩ := by kernel_rfl
theorem el118 : elemI Try.prog 118 = none := by kernel_rfl
theorem pl118 : placesI Try.prog 118 = some [(0, 5), (5, 1)] := by kernel_rfl
theorem fi118_0 : fieldI Try.prog 118 0 = some (0, 5, true) := by kernel_rfl
theorem fi118_1 : fieldI Try.prog 118 1 = some (5, 1, false) := by kernel_rfl
theorem ty119 : tyI Try.prog 119 = some ⟨false, 1, [.nilFunc], 8⟩ := by kernel_rfl
theorem el119 : elemI Try.prog 119 = none := by kernel_rfl
theorem ty120 : tyI Try.prog 120 = some ⟨true, 6, [(.int .i64 0), (.int .i64 0), (.int .i64 0), (.int .i64 0), (.int .i64 0), (.int .i64 0)], 48⟩ := by kernel_rfl
theorem el120 : elemI Try.prog 120 = none := by kernel_rfl
theorem eq120 : eqTy Try.prog 120 = some (.st [(0, 1, .it), (1, 1, .it), (2, 1, .it), (3, 1, .it), (4, 1, .it), (5, 1, .it)]) := by kernel_rfl
theorem pl120 : placesI Try.prog 120 = some [(0, 1), (1, 1), (2, 1), (3, 1), (4, 1), (5, 1)] := by kernel_rfl
theorem fi120_0 : fieldI Try.prog 120 0 = some (0, 1, false) := by kernel_rfl
theorem fi120_1 : fieldI Try.prog 120 1 = some (1, 1, false) := by kernel_rfl
theorem fi120_2 : fieldI Try.prog 120 2 = some (2, 1, false) := by kernel_rfl
theorem fi120_3 : fieldI Try.prog 120 3 = some (3, 1, false) := by kernel_rfl
theorem fi120_4 : fieldI Try.prog 120 4 = some (4, 1, false) := by kernel_rfl
theorem fi120_5 : fieldI Try.prog 120 5 = some (5, 1, false) := by kernel_rfl
theorem ty121 : tyI Try.prog 121 = some ⟨true, 6, [(.int .i64 0), (.int .i64 0), (.int .i64 0), (.int .i64 0), (.int .i64 0), (.int .i64 0)], 48⟩ := by kernel_rfl
theorem el121 : elemI Try.prog 121 = none := by kernel_rfl
theorem eq121 : eqTy Try.prog 121 = some (.st [(0, 1, .it), (1, 1, .it), (2, 1, .it), (3, 1, .it), (4, 1, .it), (5, 1, .it)]) := by kernel_rfl
theorem pl121 : placesI Try.prog 121 = some [(0, 1), (1, 1), (2, 1), (3, 1), (4, 1), (5, 1)] := by kernel_rfl
theorem fi121_0 : fieldI Try.prog 121 0 = some (0, 1, false) := by kernel_rfl
theorem fi121_1 : fieldI Try.prog 121 1 = some (1, 1, false) := by kernel_rfl
theorem fi121_2 : fieldI Try.prog 121 2 = some (2, 1, false) := by kernel_rfl
theorem fi121_3 : fieldI Try.prog 121 3 = some (3, 1, false) := by kernel_rfl
theorem fi121_4 : fieldI Try.prog 121 4 = some (4, 1, false) := by kernel_rfl
theorem fi121_5 : fieldI Try.prog 121 5 = some (5, 1, false) := by kernel_rfl
theorem ty122 : tyI Try.prog 122 = some ⟨true, 7, [(.int .i64 0), (.int .i64 0), (.int .i64 0), (.int .i64 0), (.int .i64 0), (.int .i64 0), (.int .i64 0)], 56⟩ := by kernel_rfl
theorem el122 : elemI Try.prog 122 = none := by kernel_rfl
theorem eq122 : eqTy Try.prog 122 = some (.st [(0, 1, .it), (1, 1, .it), (2, 1, .it), (3, 2, (.st [(0, 1, .it), (1, 1, .it)])), (5, 2, (.st [(0, 1, .it), (1, 1, .it)]))]) := by kernel_rfl
theorem pl122 : placesI Try.prog 122 = some [(0, 1), (1, 1), (2, 1), (3, 2), (5, 2)] := by kernel_rfl
theorem fi122_0 : fieldI Try.prog 122 0 = some (0, 1, false) := by kernel_rfl
theorem fi122_1 : fieldI Try.prog 122 1 = some (1, 1, false) := by kernel_rfl
theorem fi122_2 : fieldI Try.prog 122 2 = some (2, 1, false) := by kernel_rfl
theorem fi122_3 : fieldI Try.prog 122 3 = some (3, 2, true) := by kernel_rfl
theorem fi122_4 : fieldI Try.prog 122 4 = some (5, 2, true) := by kernel_rfl
theorem ty123 : tyI Try.prog 123 = some ⟨true, 7, [(.int .i64 0), (.int .i64 0), (.int .i64 0), (.int .i64 0), (.int .i64 0), (.int .i64 0), (.int .i64 0)], 56⟩ := by kernel_rfl
theorem el123 : elemI Try.prog 123 = none := by kernel_rfl
theorem eq123 : eqTy Try.prog 123 = some (.st [(0, 1, .it), (1, 1, .it), (2, 1, .it), (3, 2, (.st [(0, 1, .it), (1, 1, .it)])), (5, 2, (.st [(0, 1, .it), (1, 1, .it)]))]) := by kernel_rfl
theorem pl123 : placesI Try.prog 123 = some [(0, 1), (1, 1), (2, 1), (3, 2), (5, 2)] := by kernel_rfl
theorem fi123_0 : fieldI Try.prog 123 0 = some (0, 1, false) := by kernel_rfl
theorem fi123_1 : fieldI Try.prog 123 1 = some (1, 1, false) := by kernel_rfl
theorem fi123_2 : fieldI Try.prog 123 2 = some (2, 1, false) := by kernel_rfl
theorem fi123_3 : fieldI Try.prog 123 3 = some (3, 2, true) := by kernel_rfl
theorem fi123_4 : fieldI Try.prog 123 4 = some (5, 2, true) := by kernel_rfl
theorem el124 : elemI Try.prog 124 = none := by kernel_rfl
theorem ty125 : tyI Try.prog 125 = some ⟨false, 1, [.nilFunc], 8⟩ := by kernel_rfl
theorem el125 : elemI Try.prog 125 = none := by kernel_rfl
theorem el126 : elemI Try.prog 126 = none := by kernel_rfl
theorem ty127 : tyI Try.prog 127 = some ⟨false, 1, [.nilFunc], 8⟩ := by kernel_rfl
theorem el127 : elemI Try.prog 127 = none := by kernel_rfl
theorem ty128 : tyI Try.prog 128 = some ⟨true, 3, [(.int .i64 0), (.int .i64 0), (.int .i64 0)], 24⟩ := by kernel_rfl
theorem el128 : elemI Try.prog 128 = none := by kernel_rfl
theorem eq128 : eqTy Try.prog 128 = some (.st [(0, 1, .it), (1, 2, (.st [(0, 1, .it), (1, 1, .it)]))]) := by kernel_rfl
theorem pl128 : placesI Try.prog 128 = some [(0, 1), (1, 2)] := by kernel_rfl
theorem fi128_0 : fieldI Try.prog 128 0 = some (0, 1, false) := by kernel_rfl
theorem fi128_1 : fieldI Try.prog 128 1 = some (1, 2, true) := by kernel_rfl
theorem ty129 : tyI Try.prog 129 = some ⟨true, 3, [(.int .i64 0), (.int .i64 0), (.int .i64 0)], 24⟩ := by kernel_rfl
theorem el129 : elemI Try.prog 129 = none := by kernel_rfl
theorem eq129 : eqTy Try.prog 129 = some (.st [(0, 1, .it), (1, 2, (.st [(0, 1, .it), (1, 1, .it)]))]) := by kernel_rfl
theorem pl129 : placesI Try.prog 129 = some [(0, 1), (1, 2)] := by kernel_rfl
theorem fi129_0 : fieldI Try.prog 129 0 = some (0, 1, false) := by kernel_rfl
theorem fi129_1 : fieldI Try.prog 129 1 = some (1, 2, true) := by kernel_rfl
theorem ty130 : tyI Try.prog 130 = some ⟨false, 1, [(.slice none 0 0)], 24⟩ := by kernel_rfl
theorem el130 : elemI Try.prog 130 = some 129 := by kernel_rfl
theorem ty131 : tyI Try.prog 131 = some ⟨false, 1, [.nilFunc], 8⟩ := by kernel_rfl
theorem el131 : elemI Try.prog 131 = none := by kernel_rfl
theorem ty132 : tyI Try.prog 132 = some ⟨false, 1, [.nilFunc], 8⟩ := by kernel_rfl
theorem el132 : elemI Try.prog 132 = none := by kernel_rfl
theorem el133 : elemI Try.prog 133 = none := by kernel_rfl
theorem ty134 : tyI Try.prog 134 = some ⟨false, 1, [.nilFunc], 8⟩ := by kernel_rfl
theorem el134 : elemI Try.prog 134 = none := by kernel_rfl
theorem ty135 : tyI Try.prog 135 = some ⟨false, 1, [.nilFunc], 8⟩ := by kernel_rfl
theorem el135 : elemI Try.prog 135 = none := by kernel_rfl
theorem ty136 : tyI Try.prog 136 = some ⟨false, 1, [.nilFunc], 8⟩ := by kernel_rfl
theorem el136 : elemI Try.prog 136 = none := by kernel_rfl
theorem ty137 : tyI Try.prog 137 = some ⟨false, 1, [.nilFunc], 8⟩ := by kernel_rfl
theorem el137 : elemI Try.prog 137 = none := by kernel_rfl
theorem ty138 : tyI Try.prog 138 = some ⟨true, 4, [(.int .i64 0), (.int .i64 0), (.int .i64 0), (.slice none 0 0)], 48⟩ := by kernel_rfl
theorem el138 : elemI Try.prog 138 = none := by kernel_rfl
theorem pl138 : placesI Try.prog 138 = some [(0, 4)] := by kernel_rfl
theorem fi138_0 : fieldI Try.prog 138 0 = some (0, 4, true) := by kernel_rfl
theorem ty139 : tyI Try.prog 139 = some ⟨true, 4, [(.int .i64 0), (.int .i64 0), (.int .i64 0), (.slice none 0 0)], 48⟩ := by kernel_rfl
theorem el139 : elemI Try.prog 139 = none := by kernel_rfl
theorem pl139 : placesI Try.prog 139 = some [(0, 4)] := by kernel_rfl
theorem fi139_0 : fieldI Try.prog 139 0 = some (0, 4, true) := by kernel_rfl
theorem ty140 : tyI Try.prog 140 = some ⟨false, 1, [.nilFunc], 8⟩ := by kernel_rfl
theorem el140 : elemI Try.prog 140 = none := by kernel_rfl
theorem ty141 : tyI Try.prog 141 = some ⟨false, 1, [.nilFunc], 8⟩ := by kernel_rfl
theorem el141 : elemI Try.prog 141 = none := by kernel_rfl
theorem ty142 : tyI Try.prog 142 = some ⟨true, 6, [(.int .u8 0), (.int .u8 0), (.int .u8 0), (.int .u8 0), (.int .u8 0), (.int .u8 0)], 6⟩ := by kernel_rfl
theorem el142 : elemI Try.prog 142 = none := by kernel_rfl
theorem ar142 : arrI Try.prog 142 = some (6, 5) := by kernel_rfl
theorem pl142 : placesI Try.prog 142 = some [(0, 1), (1, 1), (2, 1), (3, 1), (4, 1), (5, 1)] := by kernel_rfl
theorem ty143 : tyI Try.prog 143 = some ⟨false, 1, [(.int .i64 0)], 8⟩ := by kernel_rfl
theorem el143 : elemI Try.prog 143 = none := by kernel_rfl
theorem it143 : intI Try.prog 143 = some .i64 := by kernel_rfl
theorem ty144 : tyI Try.prog 144 = some ⟨true, 8, [(.int .i64 0), (.int .i64 0), (.int .i64 0), (.int .i64 0), (.int .i64 0), (.int .i64 0), (.int .i64 0), (.int .i64 0)], 64⟩ := by kernel_rfl
theorem el144 : elemI Try.prog 144 = none := by kernel_rfl
theorem eq144 : eqTy Try.prog 144 = some (.st [(0, 1, .it), (1, 1, .it), (2, 2, (.st [(0, 1, .it), (1, 1, .it)])), (4, 2, (.st [(0, 1, .it), (1, 1, .it)])), (6, 1, .it), (7, 1, .it)]) := by kernel_rfl
theorem pl144 : placesI Try.prog 144 = some [(0, 1), (1, 1), (2, 2), (4, 2), (6, 1), (7, 1)] := by kernel_rfl
theorem fi144_0 : fieldI Try.prog 144 0 = some (0, 1, false) := by kernel_rfl
theorem fi144_1 : fieldI Try.prog 144 1 = some (1, 1, false) := by kernel_rfl
theorem fi144_2 : fieldI Try.prog 144 2 = some (2, 2, true) := by kernel_rfl
theorem fi144_3 : fieldI Try.prog 144 3 = some (4, 2, true) := by kernel_rfl
theorem fi144_4 : fieldI Try.prog 144 4 = some (6, 1, false) := by kernel_rfl
theorem fi144_5 : fieldI Try.prog 144 5 = some (7, 1, false) := by kernel_rfl
theorem ty145 : tyI Try.prog 145 = some ⟨true, 8, [(.int .i64 0), (.int .i64 0), (.int .i64 0), (.int .i64 0), (.int .i64 0), (.int .i64 0), (.int .i64 0), (.int .i64 0)], 64⟩ := by kernel_rfl
theorem el145 : elemI Try.prog 145 = none := by kernel_rfl
theorem eq145 : eqTy Try.prog 145 = some (.st [(0, 1, .it), (1, 1, .it), (2, 2, (.st [(0, 1, .it), (1, 1, .it)])), (4, 2, (.st [(0, 1, .it), (1, 1, .it)])), (6, 1, .it), (7, 1, .it)]) := by kernel_rfl
theorem pl145 : placesI Try.prog 145 = some [(0, 1), (1, 1), (2, 2), (4, 2), (6, 1), (7, 1)] := by kernel_rfl
theorem fi145_0 : fieldI Try.prog 145 0 = some (0, 1, false) := by kernel_rfl
theorem fi145_1 : fieldI Try.prog 145 1 = some (1, 1, false) := by kernel_rfl
theorem fi145_2 : fieldI Try.prog 145 2 = some (2, 2, true) := by kernel_rfl
theorem fi145_3 : fieldI Try.prog 145 3 = some (4, 2, true) := by kernel_rfl
theorem fi145_4 : fieldI Try.prog 145 4 = some (6, 1, false) := by kernel_rfl
theorem fi145_5 : fieldI Try.prog 145 5 = some (7, 1, false) := by kernel_rfl
theorem ty146 : tyI Try.prog 146 = some ⟨true, 2, [(.slice none 0 0), (.slice none 0 0)], 48⟩ := by kernel_rfl
theorem el146 : elemI Try.prog 146 = none := by kernel_rfl
theorem ar146 : arrI Try.prog 146 = some (2, 41) := by kernel_rfl
theorem pl146 : placesI Try.prog 146 = some [(0, 1), (1, 1)] := by kernel_rfl
theorem ty147 : tyI Try.prog 147 = some ⟨true, 5, [(.int .i64 0), (.int .i64 0), (.int .i64 0), (.int .i64 0), (.slice none 0 0)], 56⟩ := by kernel_rfl
theorem el147 : elemI Try.prog 147 = none := by kernel_rfl
theorem pl147 : placesI Try.prog 147 = some [(0, 4), (4, 1)] := by kernel_rfl
theorem fi147_0 : fieldI Try.prog 147 0 = some (0, 4, true) := by kernel_rfl
theorem fi147_1 : fieldI Try.prog 147 1 = some (4, 1, false) := by kernel_rfl
theorem ty148 : tyI Try.prog 148 = some ⟨true, 5, [(.int .i64 0), (.int .i64 0), (.int .i64 0), (.int .i64 0), (.slice none 0 0)], 56⟩ := by kernel_rfl
theorem el148 : elemI Try.prog 148 = none := by kernel_rfl
theorem pl148 : placesI Try.prog 148 = some [(0, 4), (4, 1)] := by kernel_rfl
theorem fi148_0 : fieldI Try.prog 148 0 = some (0, 4, true) := by kernel_rfl
theorem fi148_1 : fieldI Try.prog 148 1 = some (4, 1, false) := by kernel_rfl
theorem el149 : elemI Try.prog 149 = none := by kernel_rfl
theorem ty150 : tyI Try.prog 150 = some ⟨false, 1, [.nilFunc], 8⟩ := by kernel_rfl
theorem el150 : elemI Try.prog 150 = none := by kernel_rfl
theorem el151 : elemI Try.prog 151 = none := by kernel_rfl
theorem ty152 : tyI Try.prog 152 = some ⟨false, 1, [.nilFunc], 8⟩ := by kernel_rfl
theorem el152 : elemI Try.prog 152 = none := by kernel_rfl
theorem ty153 : tyI Try.prog 153 = some ⟨false, 1, [.nilFunc], 8⟩ := by kernel_rfl
theorem el153 : elemI Try.prog 153 = none := by kernel_rfl
theorem ty154 : tyI Try.prog 154 = some ⟨false, 1, [.nilFunc], 8⟩ := by kernel_rfl
theorem el154 : elemI Try.prog 154 = none := by kernel_rfl
theorem ty155 : tyI Try.prog 155 = some ⟨false, 1, [(.slice none 0 0)], 24⟩ := by kernel_rfl
theorem el155 : elemI Try.prog 155 = some 41 := by kernel_rfl
theorem el156 : elemI Try.prog 156 = none := by kernel_rfl
theorem ty157 : tyI Try.prog 157 = some ⟨false, 1, [.nilFunc], 8⟩ := by kernel_rfl
theorem el157 : elemI Try.prog 157 = none := by kernel_rfl
theorem ty158 : tyI Try.prog 158 = some ⟨false, 1, [.nilFunc], 8⟩ := by kernel_rfl
theorem el158 : elemI Try.prog 158 = none := by kernel_rfl
theorem ty159 : tyI Try.prog 159 = some ⟨false, 1, [.nilFunc], 8⟩ := by kernel_rfl
theorem el159 : elemI Try.prog 159 = none := by kernel_rfl
theorem ty160 : tyI Try.prog 160 = some ⟨true, 5, [(.slice none 0 0), (.slice none 0 0), (.slice none 0 0), (.slice none 0 0), (.int .i64 0)], 104⟩ := by kernel_rfl
theorem el160 : elemI Try.prog 160 = none := by kernel_rfl
theorem pl160 : placesI Try.prog 160 = some [(0, 2), (2, 2), (4, 1)] := by kernel_rfl
theorem fi160_0 : fieldI Try.prog 160 0 = some (0, 2, true) := by kernel_rfl
theorem fi160_1 : fieldI Try.prog 160 1 = some (2, 2, true) := by kernel_rfl
theorem fi160_2 : fieldI Try.prog 160 2 = some (4, 1, false) := by kernel_rfl
theorem ty161 : tyI Try.prog 161 = some ⟨true, 5, [(.slice none 0 0), (.slice none 0 0), (.slice none 0 0), (.slice none 0 0), (.int .i64 0)], 104⟩ := by kernel_rfl
theorem el161 : elemI Try.prog 161 = none := by kernel_rfl
theorem pl161 : placesI Try.prog 161 = some [(0, 2), (2, 2), (4, 1)] := by kernel_rfl
theorem fi161_0 : fieldI Try.prog 161 0 = some (0, 2, true) := by kernel_rfl
theorem fi161_1 : fieldI Try.prog 161 1 = some (2, 2, true) := by kernel_rfl
theorem fi161_2 : fieldI Try.prog 161 2 = some (4, 1, false) := by kernel_rfl
theorem el162 : elemI Try.prog 162 = none := by kernel_rfl
theorem ty163 : tyI Try.prog 163 = some ⟨false, 1, [.nilFunc], 8⟩ := by kernel_rfl
theorem el163 : elemI Try.prog 163 = none := by kernel_rfl
theorem ty164 : tyI Try.prog 164 = some ⟨false, 1, [.nilFunc], 8⟩ := by kernel_rfl
theorem el164 : elemI Try.prog 164 = none := by kernel_rfl
theorem ty165 : tyI Try.prog 165 = some ⟨false, 1, [(.map none)], 8⟩ := by kernel_rfl
theorem el165 : elemI Try.prog 165 = none := by kernel_rfl
theorem mp165 : mapI Try.prog 165 = some ((.c (.v (.int .i64 0))), (.int .i64)) := by kernel_rfl
theorem ty166 : tyI Try.prog 166 = some ⟨false, 1, [.nilFunc], 8⟩ := by kernel_rfl
theorem el166 : elemI Try.prog 166 = none := by kernel_rfl
theorem ty167 : tyI Try.prog 167 = some ⟨false, 1, [.nilFunc], 8⟩ := by kernel_rfl
theorem el167 : elemI Try.prog 167 = none := by kernel_rfl
theorem ty168 : tyI Try.prog 168 = some ⟨true, 7, [(.int .i64 0), (.slice none 0 0), (.int .i64 0), (.slice none 0 0), (.slice none 0 0), (.int .i64 0), (.bool false)], 104⟩ := by kernel_rfl
theorem el168 : elemI Try.prog 168 = none := by kernel_rfl
theorem pl168 : placesI Try.prog 168 = some [(0, 1), (1, 1), (2, 1), (3, 1), (4, 1), (5, 1), (6, 1)] := by kernel_rfl
theorem fi168_0 : fieldI Try.prog 168 0 = some (0, 1, false) := by kernel_rfl
theorem fi168_1 : fieldI Try.prog 168 1 = some (1, 1, false) := by kernel_rfl
theorem fi168_2 : fieldI Try.prog 168 2 = some (2, 1, false) := by kernel_rfl
theorem fi168_3 : fieldI Try.prog 168 3 = some (3, 1, false) := by kernel_rfl
theorem fi168_4 : fieldI Try.prog 168 4 = some (4, 1, false) := by kernel_rfl
theorem fi168_5 : fieldI Try.prog 168 5 = some (5, 1, false) := by kernel_rfl
theorem fi168_6 : fieldI Try.prog 168 6 = some (6, 1, false) := by kernel_rfl
theorem ty169 : tyI Try.prog 169 = some ⟨true, 7, [(.int .i64 0), (.slice none 0 0), (.int .i64 0), (.slice none 0 0), (.slice none 0 0), (.int .i64 0), (.bool false)], 104⟩ := by kernel_rfl
theorem el169 : elemI Try.prog 169 = none := by kernel_rfl
theorem pl169 : placesI Try.prog 169 = some [(0, 1), (1, 1), (2, 1), (3, 1), (4, 1), (5, 1), (6, 1)] := by kernel_rfl
theorem fi169_0 : fieldI Try.prog 169 0 = some (0, 1, false) := by kernel_rfl
theorem fi169_1 : fieldI Try.prog 169 1 = some (1, 1, false) := by kernel_rfl
theorem fi169_2 : fieldI Try.prog 169 2 = some (2, 1, false) := by kernel_rfl
theorem fi169_3 : fieldI Try.prog 169 3 = some (3, 1, false) := by kernel_rfl
theorem fi169_4 : fieldI Try.prog 169 4 = some (4, 1, false) := by kernel_rfl
theorem fi169_5 : fieldI Try.prog 169 5 = some (5, 1, false) := by kernel_rfl
theorem fi169_6 : fieldI Try.prog 169 6 = some (6, 1, false) := by kernel_rfl
theorem ty170 : tyI Try.prog 170 = some ⟨false, 1, [.nilFunc], 8⟩ := by kernel_rfl
theorem el170 : elemI Try.prog 170 = none := by kernel_rfl
theorem el171 : elemI Try.prog 171 = none := by kernel_rfl
theorem ty172 : tyI Try.prog 172 = some ⟨false, 1, [.nilFunc], 8⟩ := by kernel_rfl
theorem el172 : elemI Try.prog 172 = none := by kernel_rfl
theorem ty173 : tyI Try.prog 173 = some ⟨false, 1, [.nilFunc], 8⟩ := by kernel_rfl
theorem el173 : elemI Try.prog 173 = none := by kernel_rfl
theorem el174 : elemI Try.prog 174 = none := by kernel_rfl
theorem ty175 : tyI Try.prog 175 = some ⟨false, 1, [.nilFunc], 8⟩ := by kernel_rfl
theorem el175 : elemI Try.prog 175 = none := by kernel_rfl
theorem ty176 : tyI Try.prog 176 = some ⟨false, 1, [.nilFunc], 8⟩ := by kernel_rfl
theorem el176 : elemI Try.prog 176 = none := by kernel_rfl
theorem ty177 : tyI Try.prog 177 = some ⟨false, 1, [.nilFunc], 8⟩ := by kernel_rfl
theorem el177 : elemI Try.prog 177 = none := by kernel_rfl
theorem ty178 : tyI Try.prog 178 = some ⟨false, 1, [.nilFunc], 8⟩ := by kernel_rfl
theorem el178 : elemI Try.prog 178 = none := by kernel_rfl
theorem ty179 : tyI Try.prog 179 = some ⟨false, 1, [.nilFunc], 8⟩ := by kernel_rfl
theorem el179 : elemI Try.prog 179 = none := by kernel_rfl
theorem ty180 : tyI Try.prog 180 = some ⟨false, 1, [.nilFunc], 8⟩ := by kernel_rfl
theorem el180 : elemI Try.prog 180 = none := by kernel_rfl
theorem ty181 : tyI Try.prog 181 = some ⟨false, 1, [.nilFunc], 8⟩ := by kernel_rfl
theorem el181 : elemI Try.prog 181 = none := by kernel_rfl
theorem ty182 : tyI Try.prog 182 = some ⟨false, 1, [.nilFunc], 8⟩ := by kernel_rfl
theorem el182 : elemI Try.prog 182 = none := by kernel_rfl
theorem ty183 : tyI Try.prog 183 = some ⟨true, 13, [(.int .i64 0), (.int .i64 0), (.int .i64 0), (.int .i64 0), (.int .i64 0), (.int .i64 0), (.int .i64 0), (.int .i64 0), (.int .i64 0), (.int .i64 0), (.int .i64 0), (.int .i64 0), (.int .i64 0)], 104⟩ := by kernel_rfl
theorem el183 : elemI Try.prog 183 = none := by kernel_rfl
theorem eq183 : eqTy Try.prog 183 = some (.st [(0, 6, (.st [(0, 1, .it), (1, 1, .it), (2, 1, .it), (3, 1, .it), (4, 1, .it), (5, 1, .it)])), (6, 7, (.st [(0, 1, .it), (1, 1, .it), (2, 1, .it), (3, 2, (.st [(0, 1, .it), (1, 1, .it)])), (5, 2, (.st [(0, 1, .it), (1, 1, .it)]))]))]) := by kernel_rfl
theorem pl183 : placesI Try.prog 183 = some [(0, 6), (6, 7)] := by kernel_rfl
theorem fi183_0 : fieldI Try.prog 183 0 = some (0, 6, true) := by kernel_rfl
theorem fi183_1 : fieldI Try.prog 183 1 = some (6, 7, true) := by kernel_rfl
theorem ty184 : tyI Try.prog 184 = some ⟨true, 13, [(.int .i64 0), (.int .i64 0), (.int .i64 0), (.int .i64 0), (.int .i64 0), (.int .i64 0), (.int .i64 0), (.int .i64 0), (.int .i64 0), (.int .i64 0), (.int .i64 0), (.int .i64 0), (.int .i64 0)], 104⟩ := by kernel_rfl
theorem el184 : elemI Try.prog 184 = none := by kernel_rfl
theorem eq184 : eqTy Try.prog 184 = some (.st [(0, 6, (.st [(0, 1, .it), (1, 1, .it), (2, 1, .it), (3, 1, .it), (4, 1, .it), (5, 1, .it)])), (6, 7, (.st [(0, 1, .it), (1, 1, .it), (2, 1, .it), (3, 2, (.st [(0, 1, .it), (1, 1, .it)])), (5, 2, (.st [(0, 1, .it), (1, 1, .it)]))]))]) := by kernel_rfl
theorem pl184 : placesI Try.prog 184 = some [(0, 6), (6, 7)] := by kernel_rfl
theorem fi184_0 : fieldI Try.prog 184 0 = some (0, 6, true) := by kernel_rfl
theorem fi184_1 : fieldI Try.prog 184 1 = some (6, 7, true) := by kernel_rfl
theorem ty185 : tyI Try.prog 185 = some ⟨true, 2, [(.int .i64 0), (.int .i64 0)], 16⟩ := by kernel_rfl
theorem el185 : elemI Try.prog 185 = none := by kernel_rfl
theorem eq185 : eqTy Try.prog 185 = some (.st [(0, 1, .it), (1, 1, .it)]) := by kernel_rfl
theorem pl185 : placesI Try.prog 185 = some [(0, 1), (1, 1)] := by kernel_rfl
theorem fi185_0 : fieldI Try.prog 185 0 = some (0, 1, false) := by kernel_rfl
theorem fi185_1 : fieldI Try.prog 185 1 = some (1, 1, false) := by kernel_rfl
theorem ty186 : tyI Try.prog 186 = some ⟨true, 2, [(.int .i64 0), (.int .i64 0)], 16⟩ := by kernel_rfl
theorem el186 : elemI Try.prog 186 = none := by kernel_rfl
theorem eq186 : eqTy Try.prog 186 = some (.st [(0, 1, .it), (1, 1, .it)]) := by kernel_rfl
theorem pl186 : placesI Try.prog 186 = some [(0, 1), (1, 1)] := by kernel_rfl
theorem fi186_0 : fieldI Try.prog 186 0 = some (0, 1, false) := by kernel_rfl
theorem fi186_1 : fieldI Try.prog 186 1 = some (1, 1, false) := by kernel_rfl
theorem ty187 : tyI Try.prog 187 = some ⟨true, 3, [(.int .i64 0), (.int .i64 0), (.int .i64 0)], 24⟩ := by kernel_rfl
theorem el187 : elemI Try.prog 187 = none := by kernel_rfl
theorem eq187 : eqTy Try.prog 187 = some (.st [(0, 1, .it), (1, 2, (.st [(0, 1, .it), (1, 1, .it)]))]) := by kernel_rfl
theorem pl187 : placesI Try.prog 187 = some [(0, 1), (1, 2)] := by kernel_rfl
theorem fi187_0 : fieldI Try.prog 187 0 = some (0, 1, false) := by kernel_rfl
theorem fi187_1 : fieldI Try.prog 187 1 = some (1, 2, true) := by kernel_rfl
theorem ty188 : tyI Try.prog 188 = some ⟨true, 3, [(.int .i64 0), (.int .i64 0), (.int .i64 0)], 24⟩ := by kernel_rfl
theorem el188 : elemI Try.prog 188 = none := by kernel_rfl
theorem eq188 : eqTy Try.prog 188 = some (.st [(0, 1, .it), (1, 2, (.st [(0, 1, .it), (1, 1, .it)]))]) := by kernel_rfl
theorem pl188 : placesI Try.prog 188 = some [(0, 1), (1, 2)] := by kernel_rfl
theorem fi188_0 : fieldI Try.prog 188 0 = some (0, 1, false) := by kernel_rfl
theorem fi188_1 : fieldI Try.prog 188 1 = some (1, 2, true) := by kernel_rfl
theorem ty189 : tyI Try.prog 189 = some ⟨false, 1, [(.pointer none)], 8⟩ := by kernel_rfl
theorem el189 : elemI Try.prog 189 = none := by kernel_rfl
theorem ty190 : tyI Try.prog 190 = some ⟨false, 1, [.nilFunc], 8⟩ := by kernel_rfl
theorem el190 : elemI Try.prog 190 = none := by kernel_rfl
theorem ty191 : tyI Try.prog 191 = some ⟨false, 1, [.nilFunc], 8⟩ := by kernel_rfl
theorem el191 : elemI Try.prog 191 = none := by kernel_rfl
theorem ty192 : tyI Try.prog 192 = some ⟨true, 2, [(.int .i64 0), (.int .i64 0)], 16⟩ := by kernel_rfl
theorem el192 : elemI Try.prog 192 = none := by kernel_rfl
theorem ar192 : arrI Try.prog 192 = some (2, 3) := by kernel_rfl
theorem pl192 : placesI Try.prog 192 = some [(0, 1), (1, 1)] := by kernel_rfl
theorem ty193 : tyI Try.prog 193 = some ⟨true, 2, [(.int .i64 0), (.int .i64 0)], 16⟩ := by kernel_rfl
theorem el193 : elemI Try.prog 193 = none := by kernel_rfl
theorem ar193 : arrI Try.prog 193 = some (2, 3) := by kernel_rfl
theorem pl193 : placesI Try.prog 193 = some [(0, 1), (1, 1)] := by kernel_rfl
theorem ty194 : tyI Try.prog 194 = some ⟨false, 1, [.nilFunc], 8⟩ := by kernel_rfl
theorem el194 : elemI Try.prog 194 = none := by kernel_rfl
theorem ty195 : tyI Try.prog 195 = some ⟨false, 1, [.nilFunc], 8⟩ := by kernel_rfl
theorem el195 : elemI Try.prog 195 = none := by kernel_rfl
theorem ty196 : tyI Try.prog 196 = some ⟨false, 1, [.nilFunc], 8⟩ := by kernel_rfl
theorem el196 : elemI Try.prog 196 = none := by kernel_rfl
theorem ty197 : tyI Try.prog 197 = some ⟨false, 1, [(.slice none 0 0)], 24⟩ := by kernel_rfl
theorem el197 : elemI Try.prog 197 = some 41 := by kernel_rfl
theorem ty198 : tyI Try.prog 198 = some ⟨false, 1, [.nilFunc], 8⟩ := by kernel_rfl
theorem el198 : elemI Try.prog 198 = none := by kernel_rfl
theorem ty199 : tyI Try.prog 199 = some ⟨false, 1, [.nilFunc], 8⟩ := by kernel_rfl
theorem el199 : elemI Try.prog 199 = none := by kernel_rfl
theorem ty200 : tyI Try.prog 200 = some ⟨false, 1, [.nilFunc], 8⟩ := by kernel_rfl
theorem el200 : elemI Try.prog 200 = none := by kernel_rfl
theorem ty201 : tyI Try.prog 201 = some ⟨false, 1, [.nilFunc], 8⟩ := by kernel_rfl
theorem el201 : elemI Try.prog 201 = none := by kernel_rfl
theorem ty202 : tyI Try.prog 202 = some ⟨false, 1, [.nilFunc], 8⟩ := by kernel_rfl
theorem el202 : elemI Try.prog 202 = none := by kernel_rfl
theorem ty203 : tyI Try.prog 203 = some ⟨false, 1, [.nilFunc], 8⟩ := by kernel_rfl
theorem el203 : elemI Try.prog 203 = none := by kernel_rfl
theorem ty204 : tyI Try.prog 204 = some ⟨false, 1, [.nilFunc], 8⟩ := by kernel_rfl
theorem el204 : elemI Try.prog 204 = none := by kernel_rfl
theorem ty205 : tyI Try.prog 205 = some ⟨false, 1, [.nilFunc], 8⟩ := by kernel_rfl
theorem el205 : elemI Try.prog 205 = none := by kernel_rfl
theorem ty206 : tyI Try.prog 206 = some ⟨false, 1, [.nilFunc], 8⟩ := by kernel_rfl
theorem el206 : elemI Try.prog 206 = none := by kernel_rfl
theorem ty207 : tyI Try.prog 207 = some ⟨false, 1, [(.pointer none)], 8⟩ := by kernel_rfl
theorem el207 : elemI Try.prog 207 = none := by kernel_rfl
theorem ty208 : tyI Try.prog 208 = some ⟨false, 1, [.nilFunc], 8⟩ := by kernel_rfl
theorem el208 : elemI Try.prog 208 = none := by kernel_rfl
theorem ty209 : tyI Try.prog 209 = some ⟨true, 9, [(.int .i64 0), (.int .i64 0), (.int .i64 0), (.int .i64 0), (.slice none 0 0), (.slice none 0 0), (.slice none 0 0), (.int .i64 0), (.bool false)], 120⟩ := by kernel_rfl
theorem el209 : elemI Try.prog 209 = none := by kernel_rfl
theorem pl209 : placesI Try.prog 209 = some [(0, 5), (5, 1), (6, 1), (7, 1), (8, 1)] := by kernel_rfl
theorem fi209_0 : fieldI Try.prog 209 0 = some (0, 5, true) := by kernel_rfl
theorem fi209_1 : fieldI Try.prog 209 1 = some (5, 1, false) := by kernel_rfl
theorem fi209_2 : fieldI Try.prog 209 2 = some (6, 1, false) := by kernel_rfl
theorem fi209_3 : fieldI Try.prog 209 3 = some (7, 1, false) := by kernel_rfl
theorem fi209_4 : fieldI Try.prog 209 4 = some (8, 1, false) := by kernel_rfl
theorem ty210 : tyI Try.prog 210 = some ⟨true, 9, [(.int .i64 0), (.int .i64 0), (.int .i64 0), (.int .i64 0), (.slice none 0 0), (.slice none 0 0), (.slice none 0 0), (.int .i64 0), (.bool false)], 120⟩ := by kernel_rfl
theorem el210 : elemI Try.prog 210 = none := by kernel_rfl
theorem pl210 : placesI Try.prog 210 = some [(0, 5), (5, 1), (6, 1), (7, 1), (8, 1)] := by kernel_rfl
theorem fi210_0 : fieldI Try.prog 210 0 = some (0, 5, true) := by kernel_rfl
theorem fi210_1 : fieldI Try.prog 210 1 = some (5, 1, false) := by kernel_rfl
theorem fi210_2 : fieldI Try.prog 210 2 = some (6, 1, false) := by kernel_rfl
theorem fi210_3 : fieldI Try.prog 210 3 = some (7, 1, false) := by kernel_rfl
theorem fi210_4 : fieldI Try.prog 210 4 = some (8, 1, false) := by kernel_rfl
theorem ty211 : tyI Try.prog 211 = some ⟨false, 1, [.nilFunc], 8⟩ := by kernel_rfl
theorem el211 : elemI Try.prog 211 = none := by kernel_rfl
theorem ty212 : tyI Try.prog 212 = some ⟨false, 1, [.nilFunc], 8⟩ := by kernel_rfl
theorem el212 : elemI Try.prog 212 = none := by kernel_rfl
theorem ty213 : tyI Try.prog 213 = some ⟨false, 1, [.nilFunc], 8⟩ := by kernel_rfl
theorem el213 : elemI Try.prog 213 = none := by kernel_rfl
theorem ty214 : tyI Try.prog 214 = some ⟨false, 1, [.nilFunc], 8⟩ := by kernel_rfl
theorem el214 : elemI Try.prog 214 = none := by kernel_rfl
theorem ty215 : tyI Try.prog 215 = some ⟨false, 1, [.nilFunc], 8⟩ := by kernel_rfl
theorem el215 : elemI Try.prog 215 = none := by kernel_rfl
theorem ty216 : tyI Try.prog 216 = some ⟨false, 1, [.nilFunc], 8⟩ := by kernel_rfl
theorem el216 : elemI Try.prog 216 = none := by kernel_rfl
theorem ty217 : tyI Try.prog 217 = some ⟨false, 1, [.nilFunc], 8⟩ := by kernel_rfl
theorem el217 : elemI Try.prog 217 = none := by kernel_rfl
theorem ty218 : tyI Try.prog 218 = some ⟨false, 1, [.nilFunc], 8⟩ := by kernel_rfl
theorem el218 : elemI Try.prog 218 = none := by kernel_rfl
theorem ty219 : tyI Try.prog 219 = some ⟨false, 1, [.nilFunc], 8⟩ := by kernel_rfl
theorem el219 : elemI Try.prog 219 = none := by kernel_rfl
theorem ty220 : tyI Try.prog 220 = some ⟨false, 1, [.nilFunc], 8⟩ := by kernel_rfl
theorem el220 : elemI Try.prog 220 = none := by kernel_rfl
theorem ty221 : tyI Try.prog 221 = some ⟨false, 1, [.nilFunc], 8⟩ := by kernel_rfl
theorem el221 : elemI Try.prog 221 = none := by kernel_rfl
theorem ty222 : tyI Try.prog 222 = some ⟨false, 1, [.nilFunc], 8⟩ := by kernel_rfl
theorem el222 : elemI Try.prog 222 = none := by kernel_rfl
theorem ty223 : tyI Try.prog 223 = some ⟨false, 1, [(.map none)], 8⟩ := by kernel_rfl
theorem el223 : elemI Try.prog 223 = none := by kernel_rfl
theorem mp223 : mapI Try.prog 223 = some ((.agg [.c (.v (.int .i64 0)), .c (.v (.int .i64 0)), .c (.v (.int .i64 0))]), (.arr .i64 2)) := by kernel_rfl
theorem ty224 : tyI Try.prog 224 = some ⟨true, 16, [(.int .i64 0), (.int .i64 0), (.int .i64 0), (.int .i64 0), (.int .i64 0), (.int .i64 0), (.int .i64 0), (.int .i64 0), (.int .i64 0), (.int .i64 0), (.int .i64 0), (.int .i64 0), (.int .i64 0), (.slice none 0 0), (.slice none 0 0), (.map none)], 160⟩ := by kernel_rfl
theorem el224 : elemI Try.prog 224 = none := by kernel_rfl
theorem pl224 : placesI Try.prog 224 = some [(0, 13), (13, 2), (15, 1)] := by kernel_rfl
theorem fi224_0 : fieldI Try.prog 224 0 = some (0, 13, true) := by kernel_rfl
theorem fi224_1 : fieldI Try.prog 224 1 = some (13, 2, true) := by kernel_rfl
theorem fi224_2 : fieldI Try.prog 224 2 = some (15, 1, false) := by kernel_rfl
theorem ty225 : tyI Try.prog 225 = some ⟨true, 16, [(.int .i64 0), (.int .i64 0), (.int .i64 0), (.int .i64 0), (.int .i64 0), (.int .i64 0), (.int .i64 0), (.int .i64 0), (.int .i64 0), (.int .i64 0), (.int .i64 0), (.int .i64 0), (.int .i64 0), (.slice none 0 0), (.slice none 0 0), (.map none)], 160⟩ := by kernel_rfl
theorem el225 : elemI Try.prog 225 = none := by kernel_rfl
theorem pl225 : placesI Try.prog 225 = some [(0, 13), (13, 2), (15, 1)] := by kernel_rfl
theorem fi225_0 : fieldI Try.prog 225 0 = some (0, 13, true) := by kernel_rfl
theorem fi225_1 : fieldI Try.prog 225 1 = some (13, 2, true) := by kernel_rfl
theorem fi225_2 : fieldI Try.prog 225 2 = some (15, 1, false) := by kernel_rfl
theorem ty226 : tyI Try.prog 226 = some ⟨false, 1, [.nilFunc], 8⟩ := by kernel_rfl
theorem el226 : elemI Try.prog 226 = none := by kernel_rfl
theorem el227 : elemI Try.prog 227 = none := by kernel_rfl
theorem el228 : elemI Try.prog 228 = none := by kernel_rfl
theorem ty229 : tyI Try.prog 229 = some ⟨false, 1, [.nilFunc], 8⟩ := by kernel_rfl
theorem el229 : elemI Try.prog 229 = none := by kernel_rfl
theorem ty230 : tyI Try.prog 230 = some ⟨false, 1, [.nilFunc], 8⟩ := by kernel_rfl
theorem el230 : elemI Try.prog 230 = none := by kernel_rfl
theorem ty231 : tyI Try.prog 231 = some ⟨false, 1, [.nilFunc], 8⟩ := by kernel_rfl
theorem el231 : elemI Try.prog 231 = none := by kernel_rfl
theorem el232 : elemI Try.prog 232 = none := by kernel_rfl
theorem ty233 : tyI Try.prog 233 = some ⟨false, 1, [.nilFunc], 8⟩ := by kernel_rfl
theorem el233 : elemI Try.prog 233 = none := by kernel_rfl
theorem ty234 : tyI Try.prog 234 = some ⟨false, 1, [.nilFunc], 8⟩ := by kernel_rfl
theorem el234 : elemI Try.prog 234 = none := by kernel_rfl
theorem ty235 : tyI Try.prog 235 = some ⟨false, 1, [.nilFunc], 8⟩ := by kernel_rfl
theorem el235 : elemI Try.prog 235 = none := by kernel_rfl
theorem ty236 : tyI Try.prog 236 = some ⟨false, 1, [.nilFunc], 8⟩ := by kernel_rfl
theorem el236 : elemI Try.prog 236 = none := by kernel_rfl
theorem ty237 : tyI Try.prog 237 = some ⟨false, 1, [.nilFunc], 8⟩ := by kernel_rfl
theorem el237 : elemI Try.prog 237 = none := by kernel_rfl
theorem ty238 : tyI Try.prog 238 = some ⟨false, 1, [.nilFunc], 8⟩ := by kernel_rfl
theorem el238 : elemI Try.prog 238 = none := by kernel_rfl
theorem ty239 : tyI Try.prog 239 = some ⟨false, 1, [.nilFunc], 8⟩ := by kernel_rfl
theorem el239 : elemI Try.prog 239 = none := by kernel_rfl
theorem ty240 : tyI Try.prog 240 = some ⟨false, 1, [.nilFunc], 8⟩ := by kernel_rfl
theorem el240 : elemI Try.prog 240 = none := by kernel_rfl
theorem ty241 : tyI Try.prog 241 = some ⟨false, 1, [.nilFunc], 8⟩ := by kernel_rfl
theorem el241 : elemI Try.prog 241 = none := by kernel_rfl
theorem ty242 : tyI Try.prog 242 = some ⟨false, 1, [.nilFunc], 8⟩ := by kernel_rfl
theorem el242 : elemI Try.prog 242 = none := by kernel_rfl
theorem ty243 : tyI Try.prog 243 = some ⟨false, 1, [.nilFunc], 8⟩ := by kernel_rfl
theorem el243 : elemI Try.prog 243 = none := by kernel_rfl
theorem ty244 : tyI Try.prog 244 = some ⟨false, 1, [.nilFunc], 8⟩ := by kernel_rfl
theorem el244 : elemI Try.prog 244 = none := by kernel_rfl
theorem ty245 : tyI Try.prog 245 = some ⟨false, 1, [.nilFunc], 8⟩ := by kernel_rfl
theorem el245 : elemI Try.prog 245 = none := by kernel_rfl
theorem ty246 : tyI Try.prog 246 = some ⟨false, 1, [.nilFunc], 8⟩ := by kernel_rfl
theorem el246 : elemI Try.prog 246 = none := by kernel_rfl
theorem ty247 : tyI Try.prog 247 = some ⟨false, 1, [.nilFunc], 8⟩ := by kernel_rfl
theorem el247 : elemI Try.prog 247 = none := by kernel_rfl
theorem ty248 : tyI Try.prog 248 = some ⟨false, 1, [.nilFunc], 8⟩ := by kernel_rfl
theorem el248 : elemI Try.prog 248 = none := by kernel_rfl
theorem ty249 : tyI Try.prog 249 = some ⟨false, 1, [.nilFunc], 8⟩ := by kernel_rfl
theorem el249 : elemI Try.prog 249 = none := by kernel_rfl
theorem ty250 : tyI Try.prog 250 = some ⟨false, 1, [(.slice none 0 0)], 24⟩ := by kernel_rfl
theorem el250 : elemI Try.prog 250 = some 143 := by kernel_rfl
theorem ty251 : tyI Try.prog 251 = some ⟨false, 1, [.nilFunc], 8⟩ := by kernel_rfl
theorem el251 : elemI Try.prog 251 = none := by kernel_rfl
theorem ty252 : tyI Try.prog 252 = some ⟨false, 1, [.nilFunc], 8⟩ := by kernel_rfl
theorem el252 : elemI Try.prog 252 = none := by kernel_rfl
theorem ty253 : tyI Try.prog 253 = some ⟨false, 1, [.nilFunc], 8⟩ := by kernel_rfl
theorem el253 : elemI Try.prog 253 = none := by kernel_rfl
theorem ty254 : tyI Try.prog 254 = some ⟨false, 1, [.nilFunc], 8⟩ := by kernel_rfl
theorem el254 : elemI Try.prog 254 = none := by kernel_rfl
theorem ty255 : tyI Try.prog 255 = some ⟨false, 1, [(.slice none 0 0)], 24⟩ := by kernel_rfl
theorem el255 : elemI Try.prog 255 = some 4 := by kernel_rfl
theorem ty256 : tyI Try.prog 256 = some ⟨false, 1, [.nilFunc], 8⟩ := by kernel_rfl
theorem el256 : elemI Try.prog 256 = none := by kernel_rfl
theorem ty257 : tyI Try.prog 257 = some ⟨true, 2, [(.bool false), (.bool false)], 2⟩ := by kernel_rfl
theorem el257 : elemI Try.prog 257 = none := by kernel_rfl
theorem ar257 : arrI Try.prog 257 = some (2, 4) := by kernel_rfl
theorem pl257 : placesI Try.prog 257 = some [(0, 1), (1, 1)] := by kernel_rfl
theorem ty258 : tyI Try.prog 258 = some ⟨false, 1, [(.map none)], 8⟩ := by kernel_rfl
theorem el258 : elemI Try.prog 258 = none := by kernel_rfl
theorem mp258 : mapI Try.prog 258 = some ((.agg [.c (.v (.int .i64 0)), .c (.v (.int .i64 0))]), .bool) := by kernel_rfl
theorem ty259 : tyI Try.prog 259 = some ⟨false, 1, [.nilFunc], 8⟩ := by kernel_rfl
theorem el259 : elemI Try.prog 259 = none := by kernel_rfl
theorem ty260 : tyI Try.prog 260 = some ⟨false, 1, [.nilFunc], 8⟩ := by kernel_rfl
theorem el260 : elemI Try.prog 260 = none := by kernel_rfl
theorem el261 : elemI Try.prog 261 = none := by kernel_rfl
theorem ty262 : tyI Try.prog 262 = some ⟨false, 1, [.nilFunc], 8⟩ := by kernel_rfl
theorem el262 : elemI Try.prog 262 = none := by kernel_rfl
theorem ty263 : tyI Try.prog 263 = some ⟨false, 1, [.nilFunc], 8⟩ := by kernel_rfl
theorem el263 : elemI Try.prog 263 = none := by kernel_rfl
theorem ty264 : tyI Try.prog 264 = some ⟨false, 1, [.nilFunc], 8⟩ := by kernel_rfl
theorem el264 : elemI Try.prog 264 = none := by kernel_rfl
theorem ty265 : tyI Try.prog 265 = some ⟨false, 1, [.nilFunc], 8⟩ := by kernel_rfl
theorem el265 : elemI Try.prog 265 = none := by kernel_rfl
theorem ty266 : tyI Try.prog 266 = some ⟨false, 1, [.nilFunc], 8⟩ := by kernel_rfl
theorem el266 : elemI Try.prog 266 = none := by kernel_rfl
theorem ty267 : tyI Try.prog 267 = some ⟨false, 1, [.nilFunc], 8⟩ := by kernel_rfl
theorem el267 : elemI Try.prog 267 = none := by kernel_rfl
theorem ty268 : tyI Try.prog 268 = some ⟨false, 1, [.nilFunc], 8⟩ := by kernel_rfl
theorem el268 : elemI Try.prog 268 = none := by kernel_rfl
theorem ty269 : tyI Try.prog 269 = some ⟨false, 1, [(.int .u32 0)], 4⟩ := by kernel_rfl
theorem el269 : elemI Try.prog 269 = none := by kernel_rfl
theorem it269 : intI Try.prog 269 = some .u32 := by kernel_rfl
theorem el270 : elemI Try.prog 270 = none := by kernel_rfl
theorem ty271 : tyI Try.prog 271 = some ⟨false, 1, [.nilFunc], 8⟩ := by kernel_rfl
theorem el271 : elemI Try.prog 271 = none := by kernel_rfl
theorem ty272 : tyI Try.prog 272 = some ⟨false, 1, [(.int .u64 0)], 8⟩ := by kernel_rfl
theorem el272 : elemI Try.prog 272 = none := by kernel_rfl
theorem it272 : intI Try.prog 272 = some .u64 := by kernel_rfl
theorem el273 : elemI Try.prog 273 = none := by kernel_rfl
theorem ty274 : tyI Try.prog 274 = some ⟨false, 1, [.nilFunc], 8⟩ := by kernel_rfl
theorem el274 : elemI Try.prog 274 = none := by kernel_rfl
theorem ty275 : tyI Try.prog 275 = some ⟨false, 1, [.nilFunc], 8⟩ := by kernel_rfl
theorem el275 : elemI Try.prog 275 = none := by kernel_rfl
theorem ty276 : tyI Try.prog 276 = some ⟨false, 1, [.nilFunc], 8⟩ := by kernel_rfl
theorem el276 : elemI Try.prog 276 = none := by kernel_rfl
theorem ty277 : tyI Try.prog 277 = some ⟨false, 1, [.nilFunc], 8⟩ := by kernel_rfl
theorem el277 : elemI Try.prog 277 = none := by kernel_rfl
theorem ty278 : tyI Try.prog 278 = some ⟨true, 4, [(.pointer none), (.pointer none), (.pointer none), (.string ⟨#[]⟩)], 40⟩ := by kernel_rfl
theorem el278 : elemI Try.prog 278 = none := by kernel_rfl
theorem pl278 : placesI Try.prog 278 = some [(0, 1), (1, 1), (2, 1), (3, 1)] := by kernel_rfl
theorem fi278_0 : fieldI Try.prog 278 0 = some (0, 1, false) := by kernel_rfl
theorem fi278_1 : fieldI Try.prog 278 1 = some (1, 1, false) := by kernel_rfl
theorem fi278_2 : fieldI Try.prog 278 2 = some (2, 1, false) := by kernel_rfl
theorem fi278_3 : fieldI Try.prog 278 3 = some (3, 1, false) := by kernel_rfl
theorem ty279 : tyI Try.prog 279 = some ⟨true, 4, [(.pointer none), (.pointer none), (.pointer none), (.string ⟨#[]⟩)], 40⟩ := by kernel_rfl
theorem el279 : elemI Try.prog 279 = none := by kernel_rfl
theorem pl279 : placesI Try.prog 279 = some [(0, 1), (1, 1), (2, 1), (3, 1)] := by kernel_rfl
theorem fi279_0 : fieldI Try.prog 279 0 = some (0, 1, false) := by kernel_rfl
theorem fi279_1 : fieldI Try.prog 279 1 = some (1, 1, false) := by kernel_rfl
theorem fi279_2 : fieldI Try.prog 279 2 = some (2, 1, false) := by kernel_rfl
theorem fi279_3 : fieldI Try.prog 279 3 = some (3, 1, false) := by kernel_rfl
theorem ty280 : tyI Try.prog 280 = some ⟨true, 0, [], 0⟩ := by kernel_rfl
theorem el280 : elemI Try.prog 280 = none := by kernel_rfl
theorem ar280 : arrI Try.prog 280 = some (0, 16) := by kernel_rfl
theorem pl280 : placesI Try.prog 280 = some [] := by kernel_rfl
theorem ty281 : tyI Try.prog 281 = some ⟨true, 0, [], 0⟩ := by kernel_rfl
theorem el281 : elemI Try.prog 281 = none := by kernel_rfl
theorem pl281 : placesI Try.prog 281 = some [(0, 0)] := by kernel_rfl
theorem ty282 : tyI Try.prog 282 = some ⟨true, 0, [], 0⟩ := by kernel_rfl
theorem el282 : elemI Try.prog 282 = none := by kernel_rfl
theorem pl282 : placesI Try.prog 282 = some [(0, 0)] := by kernel_rfl
theorem ty283 : tyI Try.prog 283 = some ⟨false, 1, [(.int .u8 0)], 1⟩ := by kernel_rfl
theorem el283 : elemI Try.prog 283 = none := by kernel_rfl
theorem it283 : intI Try.prog 283 = some .u8 := by kernel_rfl
theorem ty284 : tyI Try.prog 284 = some ⟨false, 1, [(.int .u8 0)], 1⟩ := by kernel_rfl
theorem el284 : elemI Try.prog 284 = none := by kernel_rfl
theorem it284 : intI Try.prog 284 = some .u8 := by kernel_rfl
theorem ty285 : tyI Try.prog 285 = some ⟨false, 1, [.nilFunc], 8⟩ := by kernel_rfl
theorem el285 : elemI Try.prog 285 = none := by kernel_rfl
theorem ty286 : tyI Try.prog 286 = some ⟨false, 1, [(.pointer none)], 8⟩ := by kernel_rfl
theorem el286 : elemI Try.prog 286 = none := by kernel_rfl
theorem ty287 : tyI Try.prog 287 = some ⟨false, 1, [(.int .i32 0)], 4⟩ := by kernel_rfl
theorem el287 : elemI Try.prog 287 = none := by kernel_rfl
theorem it287 : intI Try.prog 287 = some .i32 := by kernel_rfl
theorem ty288 : tyI Try.prog 288 = some ⟨false, 1, [(.int .i32 0)], 4⟩ := by kernel_rfl
theorem el288 : elemI Try.prog 288 = none := by kernel_rfl
theorem it288 : intI Try.prog 288 = some .i32 := by kernel_rfl
theorem ty289 : tyI Try.prog 289 = some ⟨true, 11, [(.int .u64 0), (.int .u64 0), (.int .u32 0), (.int .u8 0), (.int .u8 0), (.int .u8 0), (.int .u8 0), .nilFunc, (.pointer none), (.int .i32 0), (.int .i32 0)], 48⟩ := by kernel_rfl
theorem el289 : elemI Try.prog 289 = none := by kernel_rfl
theorem pl289 : placesI Try.prog 289 = some [(0, 1), (1, 1), (2, 1), (3, 1), (4, 1), (5, 1), (6, 1), (7, 1), (8, 1), (9, 1), (10, 1)] := by kernel_rfl
theorem fi289_0 : fieldI Try.prog 289 0 = some (0, 1, false) := by kernel_rfl
theorem fi289_1 : fieldI Try.prog 289 1 = some (1, 1, false) := by kernel_rfl
theorem fi289_2 : fieldI Try.prog 289 2 = some (2, 1, false) := by kernel_rfl
theorem fi289_3 : fieldI Try.prog 289 3 = some (3, 1, false) := by kernel_rfl
theorem fi289_4 : fieldI Try.prog 289 4 = some (4, 1, false) := by kernel_rfl
theorem fi289_5 : fieldI Try.prog 289 5 = some (5, 1, false) := by kernel_rfl
theorem fi289_6 : fieldI Try.prog 289 6 = some (6, 1, false) := by kernel_rfl
theorem fi289_7 : fieldI Try.prog 289 7 = some (7, 1, false) := by kernel_rfl
theorem fi289_8 : fieldI Try.prog 289 8 = some (8, 1, false) := by kernel_rfl
theorem fi289_9 : fieldI Try.prog 289 9 = some (9, 1, false) := by kernel_rfl
theorem fi289_10 : fieldI Try.prog 289 10 = some (10, 1, false) := by kernel_rfl
theorem ty290 : tyI Try.prog 290 = some ⟨true, 11, [(.int .u64 0), (.int .u64 0), (.int .u32 0), (.int .u8 0), (.int .u8 0), (.int .u8 0), (.int .u8 0), .nilFunc, (.pointer none), (.int .i32 0), (.int .i32 0)], 48⟩ := by kernel_rfl
theorem el290 : elemI Try.prog 290 = none := by kernel_rfl
theorem pl290 : placesI Try.prog 290 = some [(0, 1), (1, 1), (2, 1), (3, 1), (4, 1), (5, 1), (6, 1), (7, 1), (8, 1), (9, 1), (10, 1)] := by kernel_rfl
theorem fi290_0 : fieldI Try.prog 290 0 = some (0, 1, false) := by kernel_rfl
theorem fi290_1 : fieldI Try.prog 290 1 = some (1, 1, false) := by kernel_rfl
theorem fi290_2 : fieldI Try.prog 290 2 = some (2, 1, false) := by kernel_rfl
theorem fi290_3 : fieldI Try.prog 290 3 = some (3, 1, false) := by kernel_rfl
theorem fi290_4 : fieldI Try.prog 290 4 = some (4, 1, false) := by kernel_rfl
theorem fi290_5 : fieldI Try.prog 290 5 = some (5, 1, false) := by kernel_rfl
theorem fi290_6 : fieldI Try.prog 290 6 = some (6, 1, false) := by kernel_rfl
theorem fi290_7 : fieldI Try.prog 290 7 = some (7, 1, false) := by kernel_rfl
theorem fi290_8 : fieldI Try.prog 290 8 = some (8, 1, false) := by kernel_rfl
theorem fi290_9 : fieldI Try.prog 290 9 = some (9, 1, false) := by kernel_rfl
theorem fi290_10 : fieldI Try.prog 290 10 = some (10, 1, false) := by kernel_rfl
theorem ty291 : tyI Try.prog 291 = some ⟨false, 1, [.nilFunc], 8⟩ := by kernel_rfl
theorem el291 : elemI Try.prog 291 = none := by kernel_rfl
theorem ty292 : tyI Try.prog 292 = some ⟨false, 1, [(.pointer none)], 8⟩ := by kernel_rfl
theorem el292 : elemI Try.prog 292 = none := by kernel_rfl
attribute [go_sem] el0 ty1 el1 ty2 el2 it2 ty3 el3 it3 ty4 el4 bl4 ty5 el5 it5 ty6 el6 it6 ty7 el7 eq7 pl7 fi7_0 fi7_1 fi7_2 fi7_3 ty8 el8 eq8 pl8 fi8_0 fi8_1 fi8_2 fi8_3 ty9 el9 ty10 el10 ty11 el11 ty12 el12 it12 ty13 el13 pl13 fi13_0 fi13_1 ty14 el14 pl14 fi14_0 fi14_1 ty15 el15 ty16 el16 ty17 el17 ty18 el18 pl18 fi18_0 ty19 el19 pl19 fi19_0 ty20 el20 ty21 el21 it21 ty22 el22 ty23 el23 pl23 fi23_0 fi23_1 ty24 el24 pl24 fi24_0 fi24_1 ty25 el25 ar25 pl25 ty26 el26 ty27 el27 eq27 pl27 fi27_0 fi27_1 ty28 el28 eq28 pl28 fi28_0 fi28_1 ty29 el29 ty30 el30 pl30 fi30_0 fi30_1 fi30_2 ty31 el31 pl31 fi31_0 fi31_1 fi31_2 ty32 el32 ty33 el33 ty34 el34 eq34 pl34 fi34_0 fi34_1 ty35 el35 eq35 pl35 fi35_0 fi35_1 ty36 el36 ty37 el37 eq37 pl37 fi37_0 fi37_1 ty38 el38 eq38 pl38 fi38_0 fi38_1 ty39 el39 eq39 pl39 fi39_0 fi39_1 fi39_2 fi39_3 fi39_4 ty40 el40 eq40 pl40 fi40_0 fi40_1 fi40_2 fi40_3 fi40_4 ty41 el41 ty42 el42 it42 el43 ty44 el44 ty45 el45 ty46 el46 ty47 el47 mp47 ty48 el48 el49 ty50 el50 el51 ty52 el52 ty53 el53 ty54 el54 ty55 el55 ty56 el56 ty57 el57 pl57 fi57_0 fi57_1 fi57_2 ty58 el58 pl58 fi58_0 fi58_1 fi58_2 ty59 el59 ar59 pl59 ty60 el60 ty61 el61 ty62 el62 pl62 fi62_0 fi62_1 ty63 el63 pl63 fi63_0 fi63_1 ty64 el64 ty65 el65 pl65 fi65_0 fi65_1 ty66 el66 pl66 fi66_0 fi66_1 ty67 el67 ty68 el68 eq68 pl68 fi68_0 fi68_1 fi68_2 ty69 el69 eq69 pl69 fi69_0 fi69_1 fi69_2 ty70 el70 ty71 el71 it71 ty72 el72 eq72 pl72 fi72_0 fi72_1 ty73 el73 eq73 pl73 fi73_0 fi73_1 ty74 el74 el75 ty76 el76 ty77 el77 pl77 fi77_0 fi77_1 ty78 el78 pl78 fi78_0 fi78_1 el79 ty80 el80 ty81 el81 ty82 el82 ar82 pl82 ty83 el83 ty84 el84 el85 ty86 el86 ty87 el87 el88 ty89 el89 ty90 el90 ty91 el91 ar91 pl91 ty92 el92 ar92 pl92 ty93 el93 ar93 pl93 ty94 el94 ar94 pl94 ty95 el95 pl95 fi95_0 fi95_1 fi95_2 ty96 el96 pl96 fi96_0 fi96_1 fi96_2 ty97 el97 ar97 pl97 ty98 el98 ar98 pl98 ty99 el99 pl99 fi99_0 fi99_1 fi99_2 ty100 el100 pl100 fi100_0 fi100_1 fi100_2 ty101 el101 el102 ty103 el103 el104 ty105 el105 ty106 el106 ty107 el107 ty108 el108 eq108 pl108 fi108_0 fi108_1 fi108_2 ty109 el109 eq109 pl109 fi109_0 fi109_1 fi109_2 ty110 el110 ar110 pl110 ty111 el111 ar111 pl111 ty112 el112 ty113 el113 ar113 pl113 ty114 el114 ty115 el115 ty116 el116 ty117 el117 pl117 fi117_0 fi117_1 ty118 el118 pl118 fi118_0 fi118_1 ty119 el119 ty120 el120 eq120 pl120 fi120_0 fi120_1 fi120_2 fi120_3 fi120_4 fi120_5 ty121 el121 eq121 pl121 fi121_0 fi121_1 fi121_2 fi121_3 fi121_4 fi121_5 ty122 el122 eq122 pl122 fi122_0 fi122_1 fi122_2 fi122_3 fi122_4 ty123 el123 eq123 pl123 fi123_0 fi123_1 fi123_2 fi123_3 fi123_4 el124 ty125 el125 el126 ty127 el127 ty128 el128 eq128 pl128 fi128_0 fi128_1 ty129 el129 eq129 pl129 fi129_0 fi129_1 ty130 el130 ty131 el131 ty132 el132 el133 ty134 el134 ty135 el135 ty136 el136 ty137 el137 ty138 el138 pl138 fi138_0 ty139 el139 pl139 fi139_0 ty140 el140 ty141 el141 ty142 el142 ar142 pl142 ty143 el143 it143 ty144 el144 eq144 pl144 fi144_0 fi144_1 fi144_2 fi144_3 fi144_4 fi144_5 ty145 el145 eq145 pl145 fi145_0 fi145_1 fi145_2 fi145_3 fi145_4 fi145_5 ty146 el146 ar146 pl146 ty147 el147 pl147 fi147_0 fi147_1 ty148 el148 pl148 fi148_0 fi148_1 el149 ty150 el150 el151 ty152 el152 ty153 el153 ty154 el154 ty155 el155 el156 ty157 el157 ty158 el158 ty159 el159 ty160 el160 pl160 fi160_0 fi160_1 fi160_2 ty161 el161 pl161 fi161_0 fi161_1 fi161_2 el162 ty163 el163 ty164 el164 ty165 el165 mp165 ty166 el166 ty167 el167 ty168 el168 pl168 fi168_0 fi168_1 fi168_2 fi168_3 fi168_4 fi168_5 fi168_6 ty169 el169 pl169 fi169_0 fi169_1 fi169_2 fi169_3 fi169_4 fi169_5 fi169_6 ty170 el170 el171 ty172 el172 ty173 el173 el174 ty175 el175 ty176 el176 ty177 el177 ty178 el178 ty179 el179 ty180 el180 ty181 el181 ty182 el182 ty183 el183 eq183 pl183 fi183_0 fi183_1 ty184 el184 eq184 pl184 fi184_0 fi184_1 ty185 el185 eq185 pl185 fi185_0 fi185_1 ty186 el186 eq186 pl186 fi186_0 fi186_1 ty187 el187 eq187 pl187 fi187_0 fi187_1 ty188 el188 eq188 pl188 fi188_0 fi188_1 ty189 el189 ty190 el190 ty191 el191 ty192 el192 ar192 pl192 ty193 el193 ar193 pl193 ty194 el194 ty195 el195 ty196 el196 ty197 el197 ty198 el198 ty199 el199 ty200 el200 ty201 el201 ty202 el202 ty203 el203 ty204 el204 ty205 el205 ty206 el206 ty207 el207 ty208 el208 ty209 el209 pl209 fi209_0 fi209_1 fi209_2 fi209_3 fi209_4 ty210 el210 pl210 fi210_0 fi210_1 fi210_2 fi210_3 fi210_4 ty211 el211 ty212 el212 ty213 el213 ty214 el214 ty215 el215 ty216 el216 ty217 el217 ty218 el218 ty219 el219 ty220 el220 ty221 el221 ty222 el222 ty223 el223 mp223 ty224 el224 pl224 fi224_0 fi224_1 fi224_2 ty225 el225 pl225 fi225_0 fi225_1 fi225_2 ty226 el226 el227 el228 ty229 el229 ty230 el230 ty231 el231 el232 ty233 el233 ty234 el234 ty235 el235 ty236 el236 ty237 el237 ty238 el238 ty239 el239 ty240 el240 ty241 el241 ty242 el242 ty243 el243 ty244 el244 ty245 el245 ty246 el246 ty247 el247 ty248 el248 ty249 el249 ty250 el250 ty251 el251 ty252 el252 ty253 el253 ty254 el254 ty255 el255 ty256 el256 ty257 el257 ar257 pl257 ty258 el258 mp258 ty259 el259 ty260 el260 el261 ty262 el262 ty263 el263 ty264 el264 ty265 el265 ty266 el266 ty267 el267 ty268 el268 ty269 el269 it269 el270 ty271 el271 ty272 el272 it272 el273 ty274 el274 ty275 el275 ty276 el276 ty277 el277 ty278 el278 pl278 fi278_0 fi278_1 fi278_2 fi278_3 ty279 el279 pl279 fi279_0 fi279_1 fi279_2 fi279_3 ty280 el280 ar280 pl280 ty281 el281 pl281 ty282 el282 pl282 ty283 el283 it283 ty284 el284 it284 ty285 el285 ty286 el286 ty287 el287 it287 ty288 el288 it288 ty289 el289 pl289 fi289_0 fi289_1 fi289_2 fi289_3 fi289_4 fi289_5 fi289_6 fi289_7 fi289_8 fi289_9 fi289_10 ty290 el290 pl290 fi290_0 fi290_1 fi290_2 fi290_3 fi290_4 fi290_5 fi290_6 fi290_7 fi290_8 fi290_9 fi290_10 ty291 el291 ty292 el292
end Go.Dw.Seat
end
section
namespace Go.Dw.Seat
open Go Go.Dw
def Tm (n : Nat) : Operand := .tmp n
def Kn (n : Int) : Operand := .const (.int .i64 n)
def Kb (b : Bool) : Operand := .const (.bool b)
def Mv (a c : Nat) : SO := ⟨some a, .move (.tmp c), none⟩
def Sg (a c : Nat) : SO := ⟨some a, .assign (.tmp c), none⟩
def Sk (a : Nat) (c : Operand) : SO := ⟨some a, .assign c, none⟩
def Ld (a b c : Nat) : SO := ⟨some a, .load b (.tmp c), none⟩
def Fa (a b c d : Nat) : SO := ⟨some a, .fieldAddr b (.tmp c) d, none⟩
def Xt (a c d : Nat) : SO := ⟨some a, .extract (.tmp c) d, none⟩
def Ix (a b c d : Nat) : SO := ⟨some a, .indexAddr b (.tmp c) (.tmp d), none⟩
def Lq (a c t : Nat) : SO := ⟨some a, .call { callee := .builtin .len, args := #[.tmp c], argTypes := #[t] }, none⟩
def Cl (a f : Nat) (x : Array Operand) (y : Array TypeId) : SO := ⟨some a, .call { callee := .value (.func f), args := x, argTypes := y }, none⟩
def Bo (a : Nat) (o : BinOp) (t : Nat) (x y : Operand) (u : Nat) : SO := ⟨some a, .binOp o t x y u, none⟩
def Pk (a x : Nat) (y z : Operand) : SO := ⟨some a, .pick (.tmp x) y z, none⟩
def Sr (t : Nat) (x y : Operand) : SO := ⟨none, .store t x y, none⟩
def Nk (a c : Nat) : SO := ⟨some a, .nilCheck (.tmp c), none⟩
def Oo (a : Nat) (o : Op) : SO := ⟨some a, o, none⟩
def Gm (a c g : Nat) (b : Bool) : SO := ⟨some a, .move (.tmp c), some (g, b)⟩
def Gl (a t c g : Nat) (b : Bool) : SO := ⟨some a, .load t (.tmp c), some (g, b)⟩
def Gf (a t c d g : Nat) (b : Bool) : SO := ⟨some a, .fieldAddr t (.tmp c) d, some (g, b)⟩
def Gx (a t c d g : Nat) (b : Bool) : SO := ⟨some a, .indexAddr t (.tmp c) (.tmp d), some (g, b)⟩
def Gc (a f : Nat) (x : Array Operand) (y : Array TypeId) (g : Nat) (b : Bool) : SO := ⟨some a, .call { callee := .value (.func f), args := x, argTypes := y }, some (g, b)⟩
def Gb (a : Nat) (o : BinOp) (t : Nat) (x y : Operand) (u g : Nat) (b : Bool) : SO := ⟨some a, .binOp o t x y u, some (g, b)⟩
def Og (a : Nat) (o : Op) (g : Nat) (b : Bool) : SO := ⟨some a, o, some (g, b)⟩
abbrev R0 (l : List SO) : SC := .reg false l
abbrev R1 (l : List SO) : SC := .reg true l
attribute [go_sem] Tm Kn Kb Mv Sg Sk Ld Fa Xt Ix Lq Cl Bo Pk Sr Nk Oo Gm Gl Gf Gx Gc Gb Og
end Go.Dw.Seat
namespace Go.Dw.Seat
open Go Go.Dw Go.Proofs
def o3_0 : SO := (Mv 171 14)
def o3_1 : SO := (Mv 172 8)
def o3_2 : SO := (Mv 173 12)
def o3_3 : SO := (Mv 174 21)
def o3_4 : SO := (Ix 175 41 173 174)
def o3_5 : SO := (Ld 176 3 175)
def o3_6 : SO := (Ix 177 33 172 176)
def o3_7 : SO := (Ld 178 38 177)
def o3_8 : SO := (Oo 179 (.buildSlice 33 1 #[(0, (Tm 178))]))
def o3_9 : SO := (Oo 180 (.call { callee := .builtin .append, args := #[Tm 171, Tm 179], argTypes := #[33, 33] }))
def o3_10 : SO := (Fa 181 31 16 2)
def o3_11 : SO := (Ld 182 29 181)
def o3_12 : SO := (Fa 183 31 7 2)
def o3_13 : SO := (Ld 184 29 183)
def o3_14 : SO := (Mv 185 12)
def o3_15 : SO := (Mv 186 21)
def o3_16 : SO := (Ix 187 41 185 186)
def o3_17 : SO := (Ld 188 3 187)
def o3_18 : SO := (Ix 189 29 184 188)
def o3_19 : SO := (Ld 190 35 189)
def o3_20 : SO := (Oo 191 (.buildSlice 29 1 #[(0, (Tm 190))]))
def o3_21 : SO := (Oo 192 (.call { callee := .builtin .append, args := #[Tm 182, Tm 191], argTypes := #[29, 29] }))
def o3_22 : SO := (Sg 14 180)
def o3_23 : SO := (Fa 193 31 16 2)
def o3_24 : SO := (Sr 29 (Tm 193) (Tm 192))
def s3 : SF := ⟨333, [.tmp 6], (.seq (R0 [Oo 3 (.box 24 (Tm 0)), Oo 4 (.box 25 (Tm 1)), Sk 6 (Kb false)]) (.seq (R0 [Ld 31 24 3, Oo 32 (.build 28 #[(0, (Kn 10)), (1, (Kn 7))]), Cl 33 6 #[Tm 31, Tm 32] #[24, 28], Oo 7 (.alloc 31), Sr 31 (Tm 7) (Tm 33)]) (.seq (R0 [Oo 34 (.buildSlice 33 0 #[]), Sg 8 34, Sk 9 (Kn 0)]) (.seq (.seq (R0 [Sk 10 (Kn 0)]) (.block 0 (.loop (.seq (.seq (R0 [Mv 35 10, Fa 36 31 7 2, Ld 37 29 36, Lq 38 37 29, Bo 39 .lss 3 (Tm 35) (Tm 38) 3]) (.cond (Tm 39) .skip (.exit 0))) (.seq (.block 1 (.seq (R1 [Mv 42 8, Oo 43 (.indexAddr 25 (Tm 4) (Kn 0)), Ld 44 5 43, Oo 45 (.convert 5 3 (Tm 44)), Bo 46 .rem 3 (Tm 45) (Kn 50) 3, Bo 47 .add 3 (Kn 100) (Tm 46) 3, Fa 48 31 7 2, Ld 49 29 48, Mv 50 10, Ix 51 29 49 50, Fa 52 35 51 0, Ld 53 3 52, Bo 54 .mul 3 (Kn 3) (Tm 53) 3, Fa 55 31 7 2, Ld 56 29 55, Mv 57 10, Ix 58 29 56 57, Fa 59 35 58 1, Ld 60 3 59, Bo 61 .mul 3 (Kn 3) (Tm 60) 3, Cl 62 7 #[Tm 54, Tm 61] #[3, 3], Oo 63 (.build 38 #[(0, (Tm 47)), (1, (Tm 62))]), Oo 64 (.buildSlice 33 1 #[(0, (Tm 63))]), Oo 65 (.call { callee := .builtin .append, args := #[Tm 42, Tm 64], argTypes := #[33, 33] }), Sg 8 65]) (R0 [Mv 66 9, Oo 67 (.indexAddr 25 (Tm 4) (Kn 0)), Ld 68 5 67, Oo 69 (.convert 5 3 (Tm 68)), Bo 70 .rem 3 (Tm 69) (Kn 50) 3, Bo 71 .add 3 (Kn 100) (Tm 70) 3, Bo 72 .add 3 (Tm 66) (Tm 71) 3, Sg 9 72]))) (R0 [Mv 40 10, Bo 41 .add 3 (Tm 40) (Kn 1) 3, Sg 10 41])))))) (.seq (R0 [Mv 73 9, Bo 74 .add 3 (Tm 73) (Kn 20) 3, Oo 75 (.indexAddr 25 (Tm 4) (Kn 1)), Ld 76 5 75, Oo 77 (.convert 5 3 (Tm 76)), Bo 78 .add 3 (Tm 74) (Tm 77) 3, Oo 79 (.indexAddr 25 (Tm 4) (Kn 2)), Ld 80 5 79, Oo 81 (.convert 5 3 (Tm 80)), Bo 82 .rem 3 (Tm 81) (Kn 20) 3, Mv 83 9, Oo 84 (.indexAddr 25 (Tm 4) (Kn 1)), Ld 85 5 84, Oo 86 (.convert 5 3 (Tm 85)), Bo 87 .add 3 (Tm 83) (Tm 86) 3, Oo 88 (.indexAddr 25 (Tm 4) (Kn 2)), Ld 89 5 88, Oo 90 (.convert 5 3 (Tm 89)), Bo 91 .quo 3 (Tm 90) (Kn 2) 3, Bo 92 .add 3 (Kn 100) (Tm 91) 3, Bo 93 .mul 3 (Tm 87) (Tm 92) 3, Bo 94 .quo 3 (Tm 93) (Kn 300) 3, Bo 95 .add 3 (Kn 20) (Tm 94) 3, Oo 96 (.indexAddr 25 (Tm 4) (Kn 3)), Ld 97 5 96, Oo 98 (.convert 5 3 (Tm 97)), Bo 99 .mul 3 (Kn 200) (Tm 98) 3, Oo 100 (.indexAddr 25 (Tm 4) (Kn 3)), Ld 101 5 100, Oo 102 (.convert 5 3 (Tm 101)), Bo 103 .mul 3 (Kn 150) (Tm 102) 3, Bo 104 .sub 3 (Kn 60000) (Tm 103) 3, Oo 105 (.build 40 #[(0, (Tm 78)), (1, (Tm 82)), (2, (Tm 95)), (3, (Tm 99)), (4, (Tm 104))]), Oo 11 (.alloc 40), Sr 40 (Tm 11) (Tm 105)]) (.seq (R1 [Ld 107 40 11, Mv 108 8, Cl 109 9 #[Tm 108] #[33], Cl 110 8 #[Tm 107, Tm 109] #[40, 33], Mv 106 110, Xt 111 106 0, Xt 112 106 1, Sg 12 111, Sg 13 112]) (.seq (.seq (R0 [Mv 113 13, Bo 114 .neq 42 (Tm 113) (Kn 0) 42]) (.cond (Tm 114) (.seq (R0 [Mv 115 13, Bo 116 .eql 42 (Tm 115) (Kn 9) 42, Mv 117 116, Gm 118 12 117 true, Og 119 (.call { callee := .builtin .len, args := #[Tm 118], argTypes := #[41] }) 117 true, Gb 120 .eql 3 (Tm 119) (Kn 0) 3 117 true, Pk 121 117 (Tm 120) (Kb false), Mv 122 121, Gc 123 10 #[] #[] 122 true, Pk 124 122 (Tm 123) (Kb false), Mv 125 124, Gc 126 11 #[] #[] 125 true, Pk 127 125 (Tm 126) (Kb false), Sg 6 127]) .ret) .skip)) (.seq (R1 [Oo 128 (.buildSlice 33 0 #[]), Oo 129 (.makeMap 47 none), Fa 130 31 7 0, Ld 131 28 130, Fa 132 31 7 1, Ld 133 3 132, Oo 134 (.build 31 #[(0, (Tm 131)), (1, (Tm 133))]), Oo 16 (.alloc 31), Sg 14 128, Sg 15 129, Sr 31 (Tm 16) (Tm 134), Sk 17 (Kn 0)]) (.seq (R0 [Ld 135 31 7, Mv 136 2, Cl 137 12 #[Tm 135, Tm 136] #[31, 26], Sg 18 137]) (.seq (R0 [Sk 19 (Kn 0), Sk 20 (Kn 0)]) (.seq (.seq (R0 [Sk 21 (Kn 0)]) (.block 2 (.loop (.seq (.seq (R0 [Mv 138 21, Mv 139 12, Lq 140 139 41, Bo 141 .lss 3 (Tm 138) (Tm 140) 3]) (.cond (Tm 141) .skip (.exit 2))) (.seq (.block 3 (.seq (.seq (R0 [Mv 144 12, Mv 145 21, Ix 146 41 144 145, Ld 147 3 146, Bo 148 .lss 3 (Tm 147) (Kn 0) 3, Mv 149 148, Gm 150 12 149 false, Gm 151 21 149 false, Gx 152 41 150 151 149 false, Gl 153 3 152 149 false, Gm 154 8 149 false, Og 155 (.call { callee := .builtin .len, args := #[Tm 154], argTypes := #[33] }) 149 false, Gb 156 .geq 3 (Tm 153) (Tm 155) 3 149 false, Pk 157 149 (Kb true) (Tm 156), Mv 158 157, Gm 159 15 158 false, Gm 160 12 158 false, Gm 161 21 158 false, Gx 162 41 160 161 158 false, Gl 163 3 162 158 false, Og 164 (.lookup 47 (Tm 159) (Tm 163) false) 158 false, Pk 165 158 (Kb true) (Tm 164)]) (.cond (Tm 165) (.seq (R0 [Sk 6 (Kb false)]) .ret) .skip)) (.seq (R0 [Mv 166 15, Mv 167 12, Mv 168 21, Ix 169 41 167 168, Ld 170 3 169, ⟨none, .mapUpdate 47 (Tm 166) (Tm 170) (Kb true), none⟩]) (.seq (.ord (.op o3_0 (.op o3_1 (.op o3_2 (.op o3_3 (.op o3_4 (.op o3_5 (.op o3_6 (.op o3_7 (.op o3_8 (.app o3_9 [16, 181, 7, 183, 12, 21, 185, 186, 187, 184, 188, 189, 190] [181, 182, 183, 184, 185, 186, 187, 188, 189, 190, 191] (.op o3_10 (.op o3_11 (.op o3_12 (.op o3_13 (.op o3_14 (.op o3_15 (.op o3_16 (.op o3_17 (.op o3_18 (.op o3_19 (.op o3_20 (.op o3_21 (.op o3_22 (.op o3_23 (.op o3_24 .done)))))))))))))))))))))))))) (.seq (R0 [Mv 194 18, Mv 195 12, Mv 196 21, Ix 197 41 195 196, Ld 198 3 197, Ix 199 41 194 198, Ld 200 3 199, Bo 201 .mul 3 (Kn 3) (Tm 200) 3, Sg 22 201]) (.seq (R1 [Mv 202 17, Mv 203 22, Bo 204 .add 3 (Tm 202) (Tm 203) 3, Mv 205 20, Mv 206 22, Mv 207 19, Bo 208 .mul 3 (Kn 2) (Tm 207) 3, Mv 209 8, Mv 210 12, Mv 211 21, Ix 212 41 210 211, Ld 213 3 212, Ix 214 33 209 213, Fa 215 38 214 0, Ld 216 3 215, Bo 217 .add 3 (Tm 208) (Tm 216) 3, Fa 218 40 11 1, Ld 219 3 218, Bo 220 .mul 3 (Kn 2) (Tm 219) 3, Bo 221 .sub 3 (Tm 217) (Tm 220) 3, Bo 222 .mul 3 (Tm 206) (Tm 221) 3, Bo 223 .add 3 (Tm 205) (Tm 222) 3, Sg 17 204, Sg 20 223]) (R0 [Mv 224 19, Mv 225 8, Mv 226 12, Mv 227 21, Ix 228 41 226 227, Ld 229 3 228, Ix 230 33 225 229, Fa 231 38 230 0, Ld 232 3 231, Bo 233 .add 3 (Tm 224) (Tm 232) 3, Sg 19 233]))))))) (R0 [Mv 142 21, Bo 143 .add 3 (Tm 142) (Kn 1) 3, Sg 21 143])))))) (.seq (R0 [Fa 234 40 11 2, Ld 235 3 234, Fa 236 40 11 1, Ld 237 3 236, Bo 238 .sub 3 (Tm 235) (Tm 237) 3, Bo 239 .mul 3 (Kn 2) (Tm 238) 3, Sg 23 239]) (.seq (.seq (R0 [Mv 240 12, Lq 241 240 41, Mv 242 8, Lq 243 242 33, Bo 244 .neq 3 (Tm 241) (Tm 243) 3, Mv 245 244, Gm 246 20 245 false, Gb 247 .lss 3 (Tm 246) (Kn 0) 3 245 false, Pk 248 245 (Kb true) (Tm 247), Mv 249 248, Gm 250 20 249 false, Gf 251 40 11 4 249 false, Gl 252 3 251 249 false, Gm 253 23 249 false, Gb 254 .mul 3 (Tm 252) (Tm 253) 3 249 false, Gb 255 .gtr 3 (Tm 250) (Tm 254) 3 249 false, Pk 256 249 (Kb true) (Tm 255), Mv 257 256, Gm 258 17 257 false, Gm 259 23 257 false, Gb 260 .mul 3 (Tm 258) (Tm 259) 3 257 false, Gm 261 20 257 false, Gb 262 .sub 3 (Tm 260) (Tm 261) 3 257 false, Gb 263 .lss 3 (Tm 262) (Kn 0) 3 257 false, Pk 264 257 (Kb true) (Tm 263), Mv 265 264, Gm 266 17 265 false, Gm 267 23 265 false, Gb 268 .mul 3 (Tm 266) (Tm 267) 3 265 false, Gm 269 20 265 false, Gb 270 .sub 3 (Tm 268) (Tm 269) 3 265 false, Gf 271 40 11 3 265 false, Gl 272 3 271 265 false, Gm 273 23 265 false, Gb 274 .mul 3 (Tm 272) (Tm 273) 3 265 false, Gb 275 .gtr 3 (Tm 270) (Tm 274) 3 265 false, Pk 276 265 (Kb true) (Tm 275)]) (.cond (Tm 276) (.seq (R0 [Sk 6 (Kb false)]) .ret) .skip)) (.seq (R0 [Ld 278 40 11, Mv 279 14, Cl 280 13 #[Tm 278, Tm 279] #[40, 33], Mv 277 280, Xt 281 277 0, Xt 282 277 1, Xt 283 277 2, Oo 24 (.alloc 35), Oo 25 (.alloc 35), Sr 35 (Tm 24) (Tm 281), Sr 35 (Tm 25) (Tm 282), Sg 26 283]) (.seq (R0 [Ld 285 31 7, Cl 286 15 #[Tm 285] #[31], Cl 287 14 #[Tm 286] #[31], Mv 284 287, Xt 288 284 0, Xt 289 284 1, Oo 27 (.alloc 35), Sr 35 (Tm 27) (Tm 288), Sg 28 289]) (.seq (R0 [Ld 291 31 16, Cl 292 14 #[Tm 291] #[31], Mv 290 292, Xt 293 290 0, Xt 294 290 1, Oo 29 (.alloc 35), Sr 35 (Tm 29) (Tm 293), Sg 30 294]) (.seq (R0 [Mv 295 26, Bo 296 .eql 42 (Tm 295) (Kn 0) 42, Mv 297 296, Gm 298 28 297 true, Gb 299 .eql 42 (Tm 298) (Kn 0) 42 297 true, Pk 300 297 (Tm 299) (Kb false), Mv 301 300, Gm 302 30 301 true, Gb 303 .eql 42 (Tm 302) (Kn 0) 42 301 true, Pk 304 301 (Tm 303) (Kb false), Mv 305 304, Gm 306 20 305 true, Gf 307 35 25 0 305 true, Gl 308 3 307 305 true, Gm 309 23 305 true, Gb 310 .mul 3 (Tm 308) (Tm 309) 3 305 true, Gb 311 .geq 3 (Tm 306) (Tm 310) 3 305 true, Pk 312 305 (Tm 311) (Kb false), Mv 313 312, Gm 314 20 313 true, Gf 315 35 25 1 313 true, Gl 316 3 315 313 true, Gb 317 .add 3 (Tm 316) (Kn 1) 3 313 true, Gm 318 23 313 true, Gb 319 .mul 3 (Tm 317) (Tm 318) 3 313 true, Gb 320 .lss 3 (Tm 314) (Tm 319) 3 313 true, Pk 321 313 (Tm 320) (Kb false), Mv 322 321, Gl 323 35 27 322 true, Gl 324 35 29 322 true, Gb 325 .eql 35 (Tm 323) (Tm 324) 35 322 true, Pk 326 322 (Tm 325) (Kb false), Mv 327 326, Gc 328 10 #[] #[] 327 true, Pk 329 327 (Tm 328) (Kb false), Mv 330 329, Gc 331 11 #[] #[] 330 true, Pk 332 330 (Tm 331) (Kb false), Sg 6 332]) .ret)))))))))))))))))⟩
theorem hb3 : hasBody Try.prog 3 = true := by kernel_rfl
def o4_0 : SO := (Oo 35 (.indexAddr 59 (Tm 3) (Kn 0)))
def o4_1 : SO := (Ld 36 5 35)
def o4_2 : SO := (Oo 37 (.convert 5 3 (Tm 36)))
def o4_3 : SO := (Bo 38 .mul 3 (Kn 4) (Tm 37) 3)
def o4_4 : SO := (Bo 39 .add 3 (Kn 500) (Tm 38) 3)
def o4_5 : SO := (Oo 40 (.indexAddr 59 (Tm 3) (Kn 1)))
def o4_6 : SO := (Ld 41 5 40)
def o4_7 : SO := (Oo 42 (.convert 5 3 (Tm 41)))
def o4_8 : SO := (Bo 43 .mul 3 (Kn 3) (Tm 42) 3)
def o4_9 : SO := (Bo 44 .add 3 (Kn 40) (Tm 43) 3)
def o4_10 : SO := (Cl 45 7 #[Kn 0, Tm 44] #[3, 3])
def o4_11 : SO := (Oo 46 (.indexAddr 59 (Tm 3) (Kn 2)))
def o4_12 : SO := (Ld 47 5 46)
def o4_13 : SO := (Oo 48 (.convert 5 3 (Tm 47)))
def o4_14 : SO := (Bo 49 .rem 3 (Tm 48) (Kn 3) 3)
def o4_15 : SO := (Bo 50 .add 3 (Kn 2) (Tm 49) 3)
def o4_16 : SO := (Oo 51 (.build 69 #[(0, (Tm 39)), (1, (Tm 45)), (2, (Tm 50))]))
def o4_17 : SO := (Oo 7 (.alloc 69))
def o4_18 : SO := (Sr 69 (Tm 7) (Tm 51))
def o4_19 : SO := (Oo 52 (.buildSlice 70 0 #[]))
def o4_20 : SO := (Sg 8 52)
def o4_21 : SO := (Oo 93 (.buildSlice 70 0 #[]))
def o4_22 : SO := (Mv 94 8)
def o4_23 : SO := (Ld 92 69 7)
def o4_24 : SO := (Oo 95 (.call { callee := .builtin .append, args := #[Tm 93, Tm 94], argTypes := #[70, 70] }))
def o4_25 : SO := (Mv 91 96)
def o4_26 : SO := (Xt 97 91 0)
def o4_27 : SO := (Xt 98 91 1)
def o4_28 : SO := (Sg 10 97)
def o4_29 : SO := (Sg 11 98)
def o4_30 : SO := (Oo 147 (.buildSlice 70 0 #[]))
def o4_31 : SO := (Mv 148 8)
def o4_32 : SO := (Ld 146 69 7)
def o4_33 : SO := (Oo 149 (.call { callee := .builtin .append, args := #[Tm 147, Tm 148], argTypes := #[70, 70] }))
def o4_34 : SO := (Mv 150 10)
def o4_35 : SO := (Mv 145 151)
def o4_36 : SO := (Xt 152 145 0)
def o4_37 : SO := (Xt 153 145 1)
def o4_38 : SO := (Xt 154 145 2)
def o4_39 : SO := (Xt 155 145 3)
def o4_40 : SO := (Sg 14 152)
def o4_41 : SO := (Sg 15 153)
def o4_42 : SO := (Sg 16 154)
def o4_43 : SO := (Sg 17 155)
def o4_44 : SO := (Ld 175 63 5)
def o4_45 : SO := (Ld 176 66 6)
def o4_46 : SO := (Cl 177 22 #[Tm 175, Tm 176] #[63, 66])
def o4_47 : SO := (Oo 178 (.build 82 #[]))
def o4_48 : SO := (Oo 19 (.alloc 82))
def o4_49 : SO := (Oo 20 (.alloc 82))
def o4_50 : SO := (Sg 18 177)
def o4_51 : SO := (Mv 179 15)
def o4_52 : SO := (Fa 180 69 7 0)
def o4_53 : SO := (Ld 181 3 180)
def o4_54 : SO := (Mv 182 12)
def o4_55 : SO := (Bo 183 .mul 3 (Tm 181) (Tm 182) 3)
def o4_56 : SO := (Oo 184 (.build 82 #[(0, (Kn 0)), (1, (Kn 0)), (2, (Kn 0)), (3, (Tm 179)), (4, (Tm 183))]))
def o4_57 : SO := (Sr 82 (Tm 19) (Tm 178))
def o4_58 : SO := (Sr 82 (Tm 20) (Tm 184))
def s4 : SF := ⟨305, [.tmp 4], (.seq (R0 [Oo 2 (.box 58 (Tm 0)), Oo 3 (.box 59 (Tm 1)), Sk 4 (Kb false)]) (.seq (R1 [Ld 31 58 2, Cl 32 16 #[Tm 31] #[58], Ld 33 58 2, Cl 34 17 #[Tm 33] #[58], Oo 5 (.alloc 63), Oo 6 (.alloc 66), Sr 63 (Tm 5) (Tm 32), Sr 66 (Tm 6) (Tm 34)]) (.seq (.ord (.op o4_0 (.op o4_1 (.op o4_2 (.op o4_3 (.op o4_4 (.op o4_5 (.op o4_6 (.op o4_7 (.op o4_8 (.op o4_9 (.op o4_10 (.op o4_11 (.op o4_12 (.op o4_13 (.op o4_14 (.op o4_15 (.op o4_16 (.op o4_17 (.app o4_18 [] [52] (.op o4_19 (.op o4_20 .done)))))))))))))))))))))) (.seq (.seq (R0 [Sk 9 (Kn 0)]) (.block 0 (.loop (.seq (.seq (R0 [Mv 53 9, Bo 54 .lss 3 (Tm 53) (Kn 3) 3]) (.cond (Tm 54) .skip (.exit 0))) (.seq (.block 1 (R1 [Mv 57 8, Mv 58 9, Bo 59 .add 3 (Kn 3) (Tm 58) 3, Ix 60 59 3 59, Ld 61 5 60, Oo 62 (.convert 5 3 (Tm 61)), Bo 63 .mul 3 (Kn 2) (Tm 62) 3, Bo 64 .add 3 (Kn 150) (Tm 63) 3, Oo 65 (.indexAddr 59 (Tm 3) (Kn 6)), Ld 66 5 65, Oo 67 (.convert 5 3 (Tm 66)), Mv 68 9, Bo 69 .mul 3 (Kn 2) (Tm 68) 3, Oo 70 (.convert 3 71 (Tm 69)), Bo 71 .shr 3 (Tm 67) (Tm 70) 71, Bo 72 .rem 3 (Tm 71) (Kn 4) 3, Oo 73 (.indexAddr 59 (Tm 3) (Kn 6)), Ld 74 5 73, Oo 75 (.convert 5 3 (Tm 74)), Mv 76 9, Bo 77 .mul 3 (Kn 2) (Tm 76) 3, Oo 78 (.convert 3 71 (Tm 77)), Bo 79 .shr 3 (Tm 75) (Tm 78) 71, Bo 80 .rem 3 (Tm 79) (Kn 4) 3, Bo 81 .add 3 (Tm 80) (Kn 1) 3, Oo 82 (.indexAddr 59 (Tm 3) (Kn 7)), Ld 83 5 82, Oo 84 (.convert 5 3 (Tm 83)), Bo 85 .rem 3 (Tm 84) (Kn 8) 3, Bo 86 .add 3 (Tm 81) (Tm 85) 3, Cl 87 7 #[Tm 72, Tm 86] #[3, 3], Oo 88 (.build 73 #[(0, (Tm 64)), (1, (Tm 87))]), Oo 89 (.buildSlice 70 1 #[(0, (Tm 88))]), Oo 90 (.call { callee := .builtin .append, args := #[Tm 57, Tm 89], argTypes := #[70, 70] }), Sg 8 90])) (R0 [Mv 55 9, Bo 56 .add 3 (Tm 55) (Kn 1) 3, Sg 9 56])))))) (.seq (.ord (.op o4_21 (.op o4_22 (.alt (.op o4_23 (.op o4_24 (.lop (Cl 96 18 #[Tm 92, Tm 95] #[69, 70]) (.op o4_25 (.op o4_26 (.op o4_27 (.op o4_28 (.op o4_29 .done)))))))) (.op o4_24 (.op o4_23 (.lop (Cl 96 18 #[Tm 92, Tm 95] #[69, 70]) (.op o4_25 (.op o4_26 (.op o4_27 (.op o4_28 (.op o4_29 .done)))))))))))) (.seq (.seq (R0 [Mv 99 11, Bo 100 .neq 42 (Tm 99) (Kn 0) 42]) (.cond (Tm 100) (.seq (R0 [Mv 101 11, Bo 102 .eql 42 (Tm 101) (Kn 9) 42, Mv 103 102, Gm 104 10 103 true, Og 105 (.call { callee := .builtin .len, args := #[Tm 104], argTypes := #[74] }) 103 true, Gb 106 .eql 3 (Tm 105) (Kn 0) 3 103 true, Pk 107 103 (Tm 106) (Kb false), Mv 108 107, Gc 109 19 #[] #[] 108 true, Pk 110 108 (Tm 109) (Kb false), Mv 111 110, Gc 112 20 #[] #[] 111 true, Pk 113 111 (Tm 112) (Kb false), Sg 4 113]) .ret) .skip)) (.seq (R0 [Sk 12 (Kn 0)]) (.seq (.seq (R0 [Sk 13 (Kn 0)]) (.block 2 (.loop (.seq (.seq (R0 [Mv 114 13, Mv 115 10, Lq 116 115 74, Bo 117 .lss 3 (Tm 114) (Tm 116) 3]) (.cond (Tm 117) .skip (.exit 2))) (.seq (.block 3 (.seq (.seq (R0 [Mv 120 10, Mv 121 13, Ix 122 74 120 121, Fa 123 78 122 1, Ld 124 3 123, Bo 125 .lss 3 (Tm 124) (Kn 1) 3, Mv 126 125, Gm 127 10 126 false, Gm 128 13 126 false, Gx 129 74 127 128 126 false, Gf 130 78 129 1 126 false, Gl 131 3 130 126 false, Gb 132 .gtr 3 (Tm 131) (Kn 30) 3 126 false, Pk 133 126 (Kb true) (Tm 132), Mv 134 133, Gm 135 13 134 false, Gb 136 .geq 3 (Tm 135) (Kn 3) 3 134 false, Pk 137 134 (Kb true) (Tm 136)]) (.cond (Tm 137) (.seq (R0 [Sk 4 (Kb false)]) .ret) .skip)) (R0 [Mv 138 12, Mv 139 10, Mv 140 13, Ix 141 74 139 140, Fa 142 78 141 1, Ld 143 3 142, Bo 144 .add 3 (Tm 138) (Tm 143) 3, Sg 12 144]))) (R0 [Mv 118 13, Bo 119 .add 3 (Tm 118) (Kn 1) 3, Sg 13 119])))))) (.seq (.ord (.op o4_30 (.op o4_31 (.alt (.op o4_32 (.alt (.op o4_33 (.op o4_34 (.lop (Cl 151 21 #[Tm 146, Tm 149, Tm 150] #[69, 70, 74]) (.op o4_35 (.op o4_36 (.op o4_37 (.op o4_38 (.op o4_39 (.op o4_40 (.op o4_41 (.op o4_42 (.op o4_43 .done)))))))))))) (.op o4_34 (.op o4_33 (.lop (Cl 151 21 #[Tm 146, Tm 149, Tm 150] #[69, 70, 74]) (.op o4_35 (.op o4_36 (.op o4_37 (.op o4_38 (.op o4_39 (.op o4_40 (.op o4_41 (.op o4_42 (.op o4_43 .done)))))))))))))) (.alt (.op o4_33 (.op o4_32 (.op o4_34 (.lop (Cl 151 21 #[Tm 146, Tm 149, Tm 150] #[69, 70, 74]) (.op o4_35 (.op o4_36 (.op o4_37 (.op o4_38 (.op o4_39 (.op o4_40 (.op o4_41 (.op o4_42 (.op o4_43 .done))))))))))))) (.op o4_34 (.alt (.op o4_32 (.op o4_33 (.lop (Cl 151 21 #[Tm 146, Tm 149, Tm 150] #[69, 70, 74]) (.op o4_35 (.op o4_36 (.op o4_37 (.op o4_38 (.op o4_39 (.op o4_40 (.op o4_41 (.op o4_42 (.op o4_43 .done)))))))))))) (.op o4_33 (.op o4_32 (.lop (Cl 151 21 #[Tm 146, Tm 149, Tm 150] #[69, 70, 74]) (.op o4_35 (.op o4_36 (.op o4_37 (.op o4_38 (.op o4_39 (.op o4_40 (.op o4_41 (.op o4_42 (.op o4_43 .done))))))))))))))))))) (.seq (.seq (R0 [Mv 156 17, Bo 157 .neq 42 (Tm 156) (Kn 0) 42, Mv 158 157, Gm 159 14 158 false, Og 160 (.call { callee := .builtin .len, args := #[Tm 159], argTypes := #[41] }) 158 false, Gb 161 .neq 3 (Tm 160) (Kn 3) 3 158 false, Pk 162 158 (Kb true) (Tm 161), Mv 163 162, Gm 164 15 163 false, Gb 165 .lss 3 (Tm 164) (Kn 0) 3 163 false, Pk 166 163 (Kb true) (Tm 165), Mv 167 166, Gm 168 15 167 false, Gf 169 69 7 0 167 false, Gl 170 3 169 167 false, Gm 171 12 167 false, Gb 172 .mul 3 (Tm 170) (Tm 171) 3 167 false, Gb 173 .gtr 3 (Tm 168) (Tm 172) 3 167 false, Pk 174 167 (Kb true) (Tm 173)]) (.cond (Tm 174) (.seq (R0 [Sk 4 (Kb false)]) .ret) .skip)) (.seq (.ord (.op o4_44 (.op o4_45 (.op o4_46 (.op o4_47 (.op o4_48 (.op o4_49 (.op o4_50 (.alt (.op o4_51 (.alt (.op o4_52 (.alt (.op o4_53 (.alt (.op o4_54 (.alt (.op o4_55 (.alt (.op o4_56 (.op o4_57 (.op o4_58 .done))) (.op o4_57 (.op o4_56 (.op o4_58 .done))))) (.op o4_57 (.op o4_55 (.op o4_56 (.op o4_58 .done)))))) (.op o4_57 (.op o4_54 (.op o4_55 (.op o4_56 (.op o4_58 .done))))))) (.alt (.op o4_54 (.alt (.op o4_53 (.alt (.op o4_55 (.alt (.op o4_56 (.op o4_57 (.op o4_58 .done))) (.op o4_57 (.op o4_56 (.op o4_58 .done))))) (.op o4_57 (.op o4_55 (.op o4_56 (.op o4_58 .done)))))) (.op o4_57 (.op o4_53 (.op o4_55 (.op o4_56 (.op o4_58 .done))))))) (.op o4_57 (.op o4_53 (.op o4_54 (.op o4_55 (.op o4_56 (.op o4_58 .done))))))))) (.alt (.op o4_54 (.alt (.op o4_52 (.alt (.op o4_53 (.alt (.op o4_55 (.alt (.op o4_56 (.op o4_57 (.op o4_58 .done))) (.op o4_57 (.op o4_56 (.op o4_58 .done))))) (.op o4_57 (.op o4_55 (.op o4_56 (.op o4_58 .done)))))) (.op o4_57 (.op o4_53 (.op o4_55 (.op o4_56 (.op o4_58 .done))))))) (.op o4_57 (.op o4_52 (.op o4_53 (.op o4_55 (.op o4_56 (.op o4_58 .done)))))))) (.op o4_57 (.op o4_52 (.op o4_53 (.op o4_54 (.op o4_55 (.op o4_56 (.op o4_58 .done)))))))))) (.alt (.op o4_52 (.alt (.op o4_51 (.alt (.op o4_53 (.alt (.op o4_54 (.alt (.op o4_55 (.alt (.op o4_56 (.op o4_57 (.op o4_58 .done))) (.op o4_57 (.op o4_56 (.op o4_58 .done))))) (.op o4_57 (.op o4_55 (.op o4_56 (.op o4_58 .done)))))) (.op o4_57 (.op o4_54 (.op o4_55 (.op o4_56 (.op o4_58 .done))))))) (.alt (.op o4_54 (.alt (.op o4_53 (.alt (.op o4_55 (.alt (.op o4_56 (.op o4_57 (.op o4_58 .done))) (.op o4_57 (.op o4_56 (.op o4_58 .done))))) (.op o4_57 (.op o4_55 (.op o4_56 (.op o4_58 .done)))))) (.op o4_57 (.op o4_53 (.op o4_55 (.op o4_56 (.op o4_58 .done))))))) (.op o4_57 (.op o4_53 (.op o4_54 (.op o4_55 (.op o4_56 (.op o4_58 .done))))))))) (.alt (.op o4_53 (.alt (.op o4_51 (.alt (.op o4_54 (.alt (.op o4_55 (.alt (.op o4_56 (.op o4_57 (.op o4_58 .done))) (.op o4_57 (.op o4_56 (.op o4_58 .done))))) (.op o4_57 (.op o4_55 (.op o4_56 (.op o4_58 .done)))))) (.op o4_57 (.op o4_54 (.op o4_55 (.op o4_56 (.op o4_58 .done))))))) (.alt (.op o4_54 (.alt (.op o4_51 (.alt (.op o4_55 (.alt (.op o4_56 (.op o4_57 (.op o4_58 .done))) (.op o4_57 (.op o4_56 (.op o4_58 .done))))) (.op o4_57 (.op o4_55 (.op o4_56 (.op o4_58 .done)))))) (.alt (.op o4_55 (.alt (.op o4_51 (.alt (.op o4_56 (.op o4_57 (.op o4_58 .done))) (.op o4_57 (.op o4_56 (.op o4_58 .done))))) (.op o4_57 (.op o4_51 (.op o4_56 (.op o4_58 .done)))))) (.op o4_57 (.op o4_51 (.op o4_55 (.op o4_56 (.op o4_58 .done)))))))) (.op o4_57 (.op o4_51 (.op o4_54 (.op o4_55 (.op o4_56 (.op o4_58 .done))))))))) (.alt (.op o4_54 (.alt (.op o4_51 (.alt (.op o4_53 (.alt (.op o4_55 (.alt (.op o4_56 (.op o4_57 (.op o4_58 .done))) (.op o4_57 (.op o4_56 (.op o4_58 .done))))) (.op o4_57 (.op o4_55 (.op o4_56 (.op o4_58 .done)))))) (.op o4_57 (.op o4_53 (.op o4_55 (.op o4_56 (.op o4_58 .done))))))) (.alt (.op o4_53 (.alt (.op o4_51 (.alt (.op o4_55 (.alt (.op o4_56 (.op o4_57 (.op o4_58 .done))) (.op o4_57 (.op o4_56 (.op o4_58 .done))))) (.op o4_57 (.op o4_55 (.op o4_56 (.op o4_58 .done)))))) (.alt (.op o4_55 (.alt (.op o4_51 (.alt (.op o4_56 (.op o4_57 (.op o4_58 .done))) (.op o4_57 (.op o4_56 (.op o4_58 .done))))) (.op o4_57 (.op o4_51 (.op o4_56 (.op o4_58 .done)))))) (.op o4_57 (.op o4_51 (.op o4_55 (.op o4_56 (.op o4_58 .done)))))))) (.op o4_57 (.op o4_51 (.op o4_53 (.op o4_55 (.op o4_56 (.op o4_58 .done))))))))) (.op o4_57 (.op o4_51 (.op o4_53 (.op o4_54 (.op o4_55 (.op o4_56 (.op o4_58 .done))))))))))) (.alt (.op o4_54 (.alt (.op o4_51 (.alt (.op o4_52 (.alt (.op o4_53 (.alt (.op o4_55 (.alt (.op o4_56 (.op o4_57 (.op o4_58 .done))) (.op o4_57 (.op o4_56 (.op o4_58 .done))))) (.op o4_57 (.op o4_55 (.op o4_56 (.op o4_58 .done)))))) (.op o4_57 (.op o4_53 (.op o4_55 (.op o4_56 (.op o4_58 .done))))))) (.op o4_57 (.op o4_52 (.op o4_53 (.op o4_55 (.op o4_56 (.op o4_58 .done)))))))) (.alt (.op o4_52 (.alt (.op o4_51 (.alt (.op o4_53 (.alt (.op o4_55 (.alt (.op o4_56 (.op o4_57 (.op o4_58 .done))) (.op o4_57 (.op o4_56 (.op o4_58 .done))))) (.op o4_57 (.op o4_55 (.op o4_56 (.op o4_58 .done)))))) (.op o4_57 (.op o4_53 (.op o4_55 (.op o4_56 (.op o4_58 .done))))))) (.alt (.op o4_53 (.alt (.op o4_51 (.alt (.op o4_55 (.alt (.op o4_56 (.op o4_57 (.op o4_58 .done))) (.op o4_57 (.op o4_56 (.op o4_58 .done))))) (.op o4_57 (.op o4_55 (.op o4_56 (.op o4_58 .done)))))) (.alt (.op o4_55 (.alt (.op o4_51 (.alt (.op o4_56 (.op o4_57 (.op o4_58 .done))) (.op o4_57 (.op o4_56 (.op o4_58 .done))))) (.op o4_57 (.op o4_51 (.op o4_56 (.op o4_58 .done)))))) (.op o4_57 (.op o4_51 (.op o4_55 (.op o4_56 (.op o4_58 .done)))))))) (.op o4_57 (.op o4_51 (.op o4_53 (.op o4_55 (.op o4_56 (.op o4_58 .done))))))))) (.op o4_57 (.op o4_51 (.op o4_52 (.op o4_53 (.op o4_55 (.op o4_56 (.op o4_58 .done)))))))))) (.op o4_57 (.op o4_51 (.op o4_52 (.op o4_53 (.op o4_54 (.op o4_55 (.op o4_56 (.op o4_58 .done))))))))))))))))))) (.seq (.seq (R0 [Sk 21 (Kn 0)]) (.block 4 (.loop (.seq (.seq (R0 [Mv 185 21, Bo 186 .lss 3 (Tm 185) (Kn 3) 3]) (.cond (Tm 186) .skip (.exit 4))) (.seq (.block 5 (.seq (.seq (R0 [Mv 189 14, Mv 190 21, Ix 191 41 189 190, Ld 192 3 191, Bo 193 .lss 3 (Tm 192) (Kn 0) 3, Mv 194 193, Gm 195 14 194 false, Gm 196 21 194 false, Gx 197 41 195 196 194 false, Gl 198 3 197 194 false, Gb 199 .gtr 3 (Tm 198) (Kn 400) 3 194 false, Pk 200 194 (Kb true) (Tm 199)]) (.cond (Tm 200) (.seq (R0 [Sk 4 (Kb false)]) .ret) .skip)) (R1 [Mv 201 21, Mv 202 14, Mv 203 21, Ix 204 41 202 203, Ld 205 3 204, Mv 206 8, Mv 207 21, Ix 208 70 206 207, Fa 209 73 208 0, Ld 210 3 209, Bo 211 .mul 3 (Tm 205) (Tm 210) 3, Ix 212 82 20 201, Sr 3 (Tm 212) (Tm 211)]))) (R0 [Mv 187 21, Bo 188 .add 3 (Tm 187) (Kn 1) 3, Sg 21 188])))))) (.seq (R0 [Oo 213 (.build 66 #[]), Oo 22 (.alloc 66), Sr 66 (Tm 22) (Tm 213)]) (.seq (.seq (R0 [Fa 214 66 6 0, Ld 215 41 214, Lq 216 215 41, Bo 217 .sub 3 (Tm 216) (Kn 1) 3, Sg 23 217]) (.block 6 (.loop (.seq (.seq (R0 [Mv 218 23, Bo 219 .geq 3 (Tm 218) (Kn 0) 3]) (.cond (Tm 219) .skip (.exit 6))) (.seq (.block 7 (R1 [Fa 222 66 22 0, Ld 223 41 222, Fa 224 66 6 0, Ld 225 41 224, Mv 226 23, Ix 227 41 225 226, Ld 228 3 227, Oo 229 (.buildSlice 41 1 #[(0, (Tm 228))]), Oo 230 (.call { callee := .builtin .append, args := #[Tm 223, Tm 229], argTypes := #[41, 41] }), Fa 231 66 22 0, Sr 41 (Tm 231) (Tm 230)])) (R0 [Mv 220 23, Bo 221 .sub 3 (Tm 220) (Kn 1) 3, Sg 23 221])))))) (.seq (.seq (R0 [Fa 232 66 6 1, Ld 233 41 232, Lq 234 233 41, Bo 235 .sub 3 (Tm 234) (Kn 1) 3, Sg 24 235]) (.block 8 (.loop (.seq (.seq (R0 [Mv 236 24, Bo 237 .geq 3 (Tm 236) (Kn 0) 3]) (.cond (Tm 237) .skip (.exit 8))) (.seq (.block 9 (R1 [Fa 240 66 22 1, Ld 241 41 240, Fa 242 66 6 1, Ld 243 41 242, Mv 244 24, Ix 245 41 243 244, Ld 246 3 245, Oo 247 (.buildSlice 41 1 #[(0, (Tm 246))]), Oo 248 (.call { callee := .builtin .append, args := #[Tm 241, Tm 247], argTypes := #[41, 41] }), Fa 249 66 22 1, Sr 41 (Tm 249) (Tm 248)])) (R0 [Mv 238 24, Bo 239 .sub 3 (Tm 238) (Kn 1) 3, Sg 24 239])))))) (.seq (.seq (R0 [Sk 25 (Kn 0)]) (.block 10 (.loop (.seq (.seq (R0 [Mv 250 25, Bo 251 .lss 3 (Tm 250) (Kn 5) 3]) (.cond (Tm 251) .skip (.exit 10))) (.seq (.block 11 (.seq (R0 [Ld 254 66 6, Cl 255 23 #[Tm 254] #[66], Oo 26 (.alloc 66), Sr 66 (Tm 26) (Tm 255)]) (.seq (.seq (R0 [Mv 256 25, Bo 257 .eql 3 (Tm 256) (Kn 4) 3]) (.cond (Tm 257) (R0 [Ld 258 66 22, Cl 259 23 #[Tm 258] #[66], Sr 66 (Tm 26) (Tm 259)]) .skip)) (.seq (R1 [Ld 261 63 5, Cl 262 25 #[Tm 261] #[63], Ld 263 66 26, Mv 264 25, Ix 265 82 20 264, Ld 266 3 265, Cl 267 24 #[Tm 262, Tm 263, Tm 266] #[63, 66, 3], Mv 260 267, Xt 268 260 0, Xt 269 260 1, Sg 27 268, Sg 28 269]) (.seq (R0 [Mv 271 27, Mv 272 18, Cl 273 26 #[Tm 271, Tm 272] #[84, 3], Mv 270 273, Xt 274 270 0, Xt 275 270 1, Sg 29 274, Sg 30 275]) (.seq (R0 [Mv 276 25, Mv 277 29, Ix 278 82 19 276, Sr 3 (Tm 278) (Tm 277)]) (.seq (R0 [Mv 279 28, Bo 280 .neq 42 (Tm 279) (Kn 0) 42, Mv 281 280, Gm 282 30 281 false, Og 283 (.unOp .not 4 (Tm 282)) 281 false, Pk 284 281 (Kb true) (Tm 283)]) (.cond (Tm 284) (.seq (R0 [Sk 4 (Kb false)]) .ret) .skip)))))))) (R0 [Mv 252 25, Bo 253 .add 3 (Tm 252) (Kn 1) 3, Sg 25 253])))))) (.seq (R0 [Oo 285 (.indexAddr 82 (Tm 19) (Kn 0)), Ld 286 3 285, Oo 287 (.indexAddr 82 (Tm 19) (Kn 1)), Ld 288 3 287, Bo 289 .add 3 (Tm 286) (Tm 288) 3, Oo 290 (.indexAddr 82 (Tm 19) (Kn 2)), Ld 291 3 290, Bo 292 .add 3 (Tm 289) (Tm 291) 3, Oo 293 (.indexAddr 82 (Tm 19) (Kn 3)), Ld 294 3 293, Bo 295 .add 3 (Tm 292) (Tm 294) 3, Oo 296 (.indexAddr 82 (Tm 19) (Kn 4)), Ld 297 3 296, Bo 298 .eql 3 (Tm 295) (Tm 297) 3, Mv 299 298, Gc 300 19 #[] #[] 299 true, Pk 301 299 (Tm 300) (Kb false), Mv 302 301, Gc 303 20 #[] #[] 302 true, Pk 304 302 (Tm 303) (Kb false), Sg 4 304]) .ret)))))))))))))))))⟩
theorem sf4 : sfOf Try.f4 = some s4 := by kernel_rfl
theorem hb4 : hasBody Try.prog 4 = true := by kernel_rfl
def s5 : SF := ⟨215, [.tmp 4], (.seq (R0 [Oo 2 (.box 96 (Tm 0)), Oo 3 (.box 100 (Tm 1)), Sk 4 (Kb false)]) (.seq (R0 [Ld 31 96 2, Cl 32 27 #[Tm 31] #[96], Mv 30 32, Xt 33 30 0, Xt 34 30 1, Xt 35 30 2, Xt 36 30 3, Sg 5 33, Sg 6 34, Sg 7 35, Sg 8 36]) (.seq (.seq (R0 [Mv 37 8, Oo 38 (.unOp .not 4 (Tm 37))]) (.cond (Tm 38) (.seq (R0 [Sk 4 (Kb false)]) .ret) .skip)) (.seq (R0 [Ld 40 96 2, Mv 41 7, Cl 42 28 #[Tm 40, Tm 41] #[96, 41], Mv 39 42, Xt 43 39 0, Xt 44 39 1, Xt 45 39 2, Oo 9 (.alloc 69), Sr 69 (Tm 9) (Tm 43), Sg 10 44, Sg 11 45]) (.seq (.regL [Ld 47 69 9, Mv 48 10, Cl 49 29 #[Tm 48] #[70], Mv 50 11, Cl 51 30 #[Tm 50] #[74]] (Cl 52 21 #[Tm 47, Tm 49, Tm 51] #[69, 70, 74]) [Mv 46 52, Xt 53 46 0, Xt 54 46 1, Xt 55 46 2, Xt 56 46 3, Sg 12 53, Sg 13 54, Sg 14 55, Sg 15 56]) (.seq (.seq (R0 [Mv 57 15, Bo 58 .neq 42 (Tm 57) (Kn 0) 42, Mv 59 58, Gm 60 12 59 false, Og 61 (.call { callee := .builtin .len, args := #[Tm 60], argTypes := #[41] }) 59 false, Gb 62 .neq 3 (Tm 61) (Kn 3) 3 59 false, Pk 63 59 (Kb true) (Tm 62)]) (.cond (Tm 63) (.seq (R0 [Sk 4 (Kb false)]) .ret) .skip)) (.seq (R0 [Sk 16 (Kn 0), Sk 17 (Kn 0)]) (.seq (.seq (R0 [Sk 18 (Kn 0)]) (.block 0 (.loop (.seq (.seq (R0 [Mv 64 18, Mv 65 11, Lq 66 65 74, Bo 67 .lss 3 (Tm 64) (Tm 66) 3]) (.cond (Tm 67) .skip (.exit 0))) (.seq (.block 1 (R0 [Mv 70 16, Mv 71 11, Mv 72 18, Ix 73 74 71 72, Fa 74 78 73 1, Ld 75 3 74, Bo 76 .add 3 (Tm 70) (Tm 75) 3, Sg 16 76])) (R0 [Mv 68 18, Bo 69 .add 3 (Tm 68) (Kn 1) 3, Sg 18 69])))))) (.seq (.seq (R0 [Sk 19 (Kn 0)]) (.block 2 (.loop (.seq (.seq (R0 [Mv 77 19, Bo 78 .lss 3 (Tm 77) (Kn 3) 3]) (.cond (Tm 78) .skip (.exit 2))) (.seq (.block 3 (R1 [Mv 81 17, Mv 82 10, Mv 83 19, Ix 84 70 82 83, Fa 85 73 84 0, Ld 86 3 85, Mv 87 12, Mv 88 19, Ix 89 41 87 88, Ld 90 3 89, Bo 91 .mul 3 (Tm 86) (Tm 90) 3, Bo 92 .add 3 (Tm 81) (Tm 91) 3, Sg 17 92])) (R0 [Mv 79 19, Bo 80 .add 3 (Tm 79) (Kn 1) 3, Sg 19 80])))))) (.seq (.seq (R0 [Fa 93 69 9 0, Ld 94 3 93, Mv 95 16, Bo 96 .mul 3 (Tm 94) (Tm 95) 3, Mv 97 17, Mv 98 13, Bo 99 .add 3 (Tm 97) (Tm 98) 3, Bo 100 .neq 3 (Tm 96) (Tm 99) 3]) (.cond (Tm 100) (.seq (R0 [Sk 4 (Kb false)]) .ret) .skip)) (.seq (R0 [Ld 101 100 3, Cl 102 31 #[Tm 101] #[100], Oo 20 (.alloc 63), Sr 63 (Tm 20) (Tm 102)]) (.seq (R0 [Fa 103 63 20 1, Ld 104 61 103, Oo 105 (.indexAddr 61 (Tm 104) (Kn 0)), Fa 106 109 105 0, Ld 107 3 106, Sg 21 107]) (.seq (R0 [Oo 108 (.build 110 #[]), Oo 22 (.alloc 110), Sr 110 (Tm 22) (Tm 108)]) (.seq (.seq (R0 [Sk 23 (Kn 0)]) (.block 4 (.loop (.seq (.seq (R0 [Mv 109 23, Bo 110 .lss 3 (Tm 109) (Kn 3) 3]) (.cond (Tm 110) .skip (.exit 4))) (.seq (.block 5 (.seq (R1 [Ld 114 63 20, Cl 115 32 #[Tm 114] #[63], Cl 116 33 #[] #[], Mv 117 17, Mv 118 13, Fa 119 69 9 0, Ld 120 3 119, Mv 121 16, Bo 122 .mul 3 (Tm 120) (Tm 121) 3, Oo 123 (.build 111 #[(0, (Tm 117)), (1, (Tm 118)), (2, (Tm 122))]), Mv 124 23, Oo 125 (.index 111 (Tm 123) (Tm 124)), Cl 126 24 #[Tm 115, Tm 116, Tm 125] #[63, 66, 3], Mv 113 126, Xt 127 113 0, Xt 128 113 1, Sg 24 127, Sg 25 128]) (.seq (.seq (R0 [Mv 129 25, Bo 130 .neq 42 (Tm 129) (Kn 0) 42, Mv 131 130, Gm 132 24 131 false, Og 133 (.call { callee := .builtin .len, args := #[Tm 132], argTypes := #[84] }) 131 false, Gb 134 .neq 3 (Tm 133) (Kn 3) 3 131 false, Pk 135 131 (Kb true) (Tm 134)]) (.cond (Tm 135) (.seq (R0 [Sk 4 (Kb false)]) .ret) .skip)) (.seq (.seq (R0 [Sk 26 (Kn 0)]) (.block 6 (.loop (.seq (.seq (R0 [Mv 136 26, Bo 137 .lss 3 (Tm 136) (Kn 3) 3]) (.cond (Tm 137) .skip (.exit 6))) (.seq (.block 7 (.seq (R0 [Mv 140 24, Mv 141 26, Ix 142 84 140 141, Fa 143 28 142 1, Ld 144 3 143, Bo 145 .lss 3 (Tm 144) (Kn 1) 3, Mv 146 145, Gm 147 21 146 false, Gm 148 24 146 false, Gm 149 26 146 false, Gx 150 84 148 149 146 false, Gf 151 28 150 1 146 false, Gl 152 3 151 146 false, Gb 153 .rem 3 (Tm 147) (Tm 152) 3 146 false, Gb 154 .neq 3 (Tm 153) (Kn 0) 3 146 false, Pk 155 146 (Kb true) (Tm 154), Mv 156 155, Gm 157 24 156 false, Gm 158 26 156 false, Gx 159 84 157 158 156 false, Gf 160 28 159 0 156 false, Gl 161 3 160 156 false, Gb 162 .lss 3 (Tm 161) (Kn 0) 3 156 false, Pk 163 156 (Kb true) (Tm 162), Mv 164 163, Gm 165 24 164 false, Gm 166 26 164 false, Gx 167 84 165 166 164 false, Gf 168 28 167 0 164 false, Gl 169 3 168 164 false, Gb 170 .gtr 3 (Tm 169) (Kn 35184372088832) 3 164 false, Pk 171 164 (Kb true) (Tm 170)]) (.cond (Tm 171) (.seq (R0 [Sk 4 (Kb false)]) .ret) .skip))) (R0 [Mv 138 26, Bo 139 .add 3 (Tm 138) (Kn 1) 3, Sg 26 139])))))) (R0 [Mv 172 23, Mv 173 24, Ix 174 110 22 172, Sr 84 (Tm 174) (Tm 173)]))))) (R0 [Mv 111 23, Bo 112 .add 3 (Tm 111) (Kn 1) 3, Sg 23 112])))))) (.seq (.seq (R0 [Sk 27 (Kn 0)]) (.block 8 (.loop (.seq (.seq (R0 [Mv 175 27, Bo 176 .lss 3 (Tm 175) (Kn 3) 3]) (.cond (Tm 176) .skip (.exit 8))) (.seq (.block 9 (.seq (R0 [Oo 179 (.build 111 #[]), Oo 28 (.alloc 111), Sr 111 (Tm 28) (Tm 179)]) (.seq (.seq (R0 [Sk 29 (Kn 0)]) (.block 10 (.loop (.seq (.seq (R0 [Mv 180 29, Bo 181 .lss 3 (Tm 180) (Kn 3) 3]) (.cond (Tm 181) .skip (.exit 10))) (.seq (.block 11 (R1 [Mv 184 29, Mv 185 29, Ix 186 110 22 185, Ld 187 84 186, Mv 188 27, Ix 189 84 187 188, Fa 190 28 189 0, Ld 191 3 190, Mv 192 21, Mv 193 29, Ix 194 110 22 193, Ld 195 84 194, Mv 196 27, Ix 197 84 195 196, Fa 198 28 197 1, Ld 199 3 198, Bo 200 .quo 3 (Tm 192) (Tm 199) 3, Bo 201 .mul 3 (Tm 191) (Tm 200) 3, Ix 202 111 28 184, Sr 3 (Tm 202) (Tm 201)])) (R0 [Mv 182 29, Bo 183 .add 3 (Tm 182) (Kn 1) 3, Sg 29 183])))))) (.seq (R0 [Oo 203 (.indexAddr 111 (Tm 28) (Kn 0)), Ld 204 3 203, Oo 205 (.indexAddr 111 (Tm 28) (Kn 1)), Ld 206 3 205, Bo 207 .add 3 (Tm 204) (Tm 206) 3, Oo 208 (.indexAddr 111 (Tm 28) (Kn 2)), Ld 209 3 208, Bo 210 .neq 3 (Tm 207) (Tm 209) 3]) (.cond (Tm 210) (.seq (R0 [Sk 4 (Kb false)]) .ret) .skip))))) (R0 [Mv 177 27, Bo 178 .add 3 (Tm 177) (Kn 1) 3, Sg 27 178])))))) (.seq (R0 [Cl 211 34 #[] #[], Mv 212 211, Gc 213 35 #[] #[] 212 true, Pk 214 212 (Tm 213) (Kb false), Sg 4 214]) .ret))))))))))))))))⟩
def s6 : SF := ⟨55, [.cell 4 31], (.seq (R0 [Oo 2 (.box 24 (Tm 0)), Oo 3 (.box 28 (Tm 1)), Oo 4 (.alloc 31)]) (.seq (R0 [Ld 8 28 3, Fa 9 24 2 0, Ld 10 5 9, Oo 11 (.convert 5 3 (Tm 10)), Bo 12 .rem 3 (Tm 11) (Kn 50) 3, Oo 13 (.build 31 #[(0, (Tm 8)), (1, (Tm 12))]), Oo 5 (.alloc 31), Sr 31 (Tm 5) (Tm 13)]) (.seq (.seq (R0 [Sk 6 (Kn 0)]) (.block 0 (.loop (.seq (.seq (R0 [Mv 14 6, Fa 15 24 2 1, Ld 16 22 15, Lq 17 16 22, Bo 18 .lss 3 (Tm 14) (Tm 17) 3, Mv 19 18, Gm 20 6 19 true, Gb 21 .lss 3 (Tm 20) (Kn 5) 3 19 true, Pk 22 19 (Tm 21) (Kb false)]) (.cond (Tm 22) .skip (.exit 0))) (.seq (.block 1 (.seq (R1 [Fa 25 31 5 1, Ld 26 3 25, Bo 27 .add 3 (Tm 26) (Kn 1) 3, Fa 28 24 2 1, Ld 29 22 28, Mv 30 6, Ix 31 22 29 30, Oo 32 (.indexAddr 113 (Tm 31) (Kn 0)), Ld 33 5 32, Oo 34 (.convert 5 3 (Tm 33)), Bo 35 .mul 3 (Kn 10) (Tm 34) 3, Bo 36 .add 3 (Tm 27) (Tm 35) 3, Sg 7 36]) (R1 [Fa 37 31 5 2, Ld 38 29 37, Mv 39 7, Mv 40 7, Fa 41 24 2 1, Ld 42 22 41, Mv 43 6, Ix 44 22 42 43, Oo 45 (.indexAddr 113 (Tm 44) (Kn 1)), Ld 46 5 45, Oo 47 (.convert 5 3 (Tm 46)), Bo 48 .rem 3 (Tm 47) (Kn 40) 3, Bo 49 .add 3 (Tm 40) (Tm 48) 3, Cl 50 7 #[Tm 39, Tm 49] #[3, 3], Oo 51 (.buildSlice 29 1 #[(0, (Tm 50))]), Oo 52 (.call { callee := .builtin .append, args := #[Tm 38, Tm 51], argTypes := #[29, 29] }), Fa 53 31 5 2, Sr 29 (Tm 53) (Tm 52)]))) (R0 [Mv 23 6, Bo 24 .add 3 (Tm 23) (Kn 1) 3, Sg 6 24])))))) (.seq (R0 [Ld 54 31 5, Sr 31 (Tm 4) (Tm 54)]) .ret))))⟩
theorem hb6 : hasBody Try.prog 6 = true := by kernel_rfl
def s7 : SF := ⟨8, [.cell 4 35], (.seq (R0 [Oo 4 (.alloc 35)]) (.seq (R0 [Mv 5 0, Mv 6 1, Oo 7 (.build 35 #[(0, (Tm 5)), (1, (Tm 6))]), Sr 35 (Tm 4) (Tm 7)]) .ret))⟩
theorem sf7 : sfOf Try.f7 = some s7 := by kernel_rfl
theorem hb7 : hasBody Try.prog 7 = true := by kernel_rfl
end Go.Dw.Seat
end
section
namespace Go.Dw.Seat
open Go Go.Dw Go.Proofs
def s16 : SF := ⟨159, [.cell 2 63], (.seq (R0 [Oo 1 (.box 58 (Tm 0)), Oo 2 (.alloc 63)]) (.seq (R0 [Oo 10 (.build 63 #[]), Oo 3 (.alloc 63), Sr 63 (Tm 3) (Tm 10)]) (.seq (.seq (R0 [Sk 4 (Kn 0)]) (.block 0 (.loop (.seq (.seq (R0 [Mv 11 4, Bo 12 .lss 3 (Tm 11) (Kn 2) 3, Mv 13 12, Gm 14 4 13 false, Gf 15 58 1 0 13 false, Gl 16 55 15 13 false, Og 17 (.call { callee := .builtin .len, args := #[Tm 16], argTypes := #[55] }) 13 false, Gb 18 .lss 3 (Tm 14) (Tm 17) 3 13 false, Gm 19 18 13 false, Gm 20 4 19 true, Gb 21 .lss 3 (Tm 20) (Kn 5) 3 19 true, Og 22 (.pick (Tm 19) (Tm 21) (Kb false)) 13 false, Pk 23 13 (Kb true) (Tm 22)]) (.cond (Tm 23) .skip (.exit 0))) (.seq (.block 1 (.seq (R0 [Mv 26 4, Oo 27 (.convert 3 5 (Tm 26)), Oo 28 (.build 142 #[(0, (Tm 27)), (1, (.const (.int .u8 120))), (2, (.const (.int .u8 20))), (3, (.const (.int .u8 7))), (4, (.const (.int .u8 30))), (5, (.const (.int .u8 20)))]), Oo 5 (.alloc 142), Sr 142 (Tm 5) (Tm 28)]) (.seq (.seq (R0 [Mv 29 4, Fa 30 58 1 0, Ld 31 55 30, Lq 32 31 55, Bo 33 .lss 3 (Tm 29) (Tm 32) 3]) (.cond (Tm 33) (R0 [Fa 34 58 1 0, Ld 35 55 34, Mv 36 4, Ix 37 55 35 36, Ld 38 142 37, Sr 142 (Tm 5) (Tm 38)]) .skip)) (.seq (R1 [Mv 39 4, Bo 40 .add 3 (Kn 1) (Tm 39) 3, Oo 41 (.indexAddr 142 (Tm 5) (Kn 1)), Ld 42 5 41, Oo 43 (.convert 5 3 (Tm 42)), Bo 44 .add 3 (Kn 50) (Tm 43) 3, Oo 45 (.indexAddr 142 (Tm 5) (Kn 2)), Ld 46 5 45, Oo 47 (.convert 5 3 (Tm 46)), Bo 48 .add 3 (Kn 50) (Tm 47) 3, Oo 49 (.indexAddr 142 (Tm 5) (Kn 2)), Ld 50 5 49, Oo 51 (.convert 5 3 (Tm 50)), Bo 52 .add 3 (Kn 50) (Tm 51) 3, Oo 53 (.indexAddr 142 (Tm 5) (Kn 0)), Ld 54 5 53, Oo 55 (.convert 5 3 (Tm 54)), Bo 56 .quo 3 (Tm 55) (Kn 8) 3, Bo 57 .add 3 (Tm 52) (Tm 56) 3, Cl 58 7 #[Tm 48, Tm 57] #[3, 3], Oo 59 (.indexAddr 142 (Tm 5) (Kn 3)), Ld 60 5 59, Oo 61 (.convert 5 3 (Tm 60)), Bo 62 .rem 3 (Tm 61) (Kn 100) 3, Oo 63 (.indexAddr 142 (Tm 5) (Kn 3)), Ld 64 5 63, Oo 65 (.convert 5 3 (Tm 64)), Bo 66 .rem 3 (Tm 65) (Kn 100) 3, Oo 67 (.indexAddr 142 (Tm 5) (Kn 3)), Ld 68 5 67, Oo 69 (.convert 5 3 (Tm 68)), Bo 70 .quo 3 (Tm 69) (Kn 16) 3, Bo 71 .add 3 (Tm 66) (Tm 70) 3, Cl 72 7 #[Tm 62, Tm 71] #[3, 3], Oo 73 (.indexAddr 142 (Tm 5) (Kn 4)), Ld 74 5 73, Oo 75 (.convert 5 3 (Tm 74)), Bo 76 .mul 3 (Kn 1000) (Tm 75) 3, Oo 77 (.indexAddr 142 (Tm 5) (Kn 5)), Ld 78 5 77, Oo 79 (.convert 5 3 (Tm 78)), Bo 80 .mul 3 (Kn 10) (Tm 79) 3, Oo 81 (.build 145 #[(0, (Tm 40)), (1, (Tm 44)), (2, (Tm 58)), (3, (Tm 72)), (4, (Tm 76)), (5, (Tm 80))]), Oo 6 (.alloc 145), Sr 145 (Tm 6) (Tm 81)]) (.seq (.seq (R0 [Mv 82 4, Bo 83 .gtr 3 (Tm 82) (Kn 1) 3]) (.cond (Tm 83) (R0 [Oo 84 (.indexAddr 142 (Tm 5) (Kn 0)), Ld 85 5 84, Bo 86 .rem 5 (Tm 85) (.const (.int .u8 2)) 5, Bo 87 .add 5 (.const (.int .u8 1)) (Tm 86) 5, Oo 88 (.convert 5 143 (Tm 87)), Fa 89 145 6 0, Sr 143 (Tm 89) (Tm 88)]) .skip)) (R0 [Fa 90 63 3 0, Ld 91 60 90, Ld 92 145 6, Oo 93 (.buildSlice 60 1 #[(0, (Tm 92))]), Oo 94 (.call { callee := .builtin .append, args := #[Tm 91, Tm 93], argTypes := #[60, 60] }), Fa 95 63 3 0, Sr 60 (Tm 95) (Tm 94)])))))) (R0 [Mv 24 4, Bo 25 .add 3 (Tm 24) (Kn 1) 3, Sg 4 25])))))) (.seq (.seq (R0 [Sk 7 (Kn 0)]) (.block 2 (.loop (.seq (.seq (R0 [Mv 96 7, Bo 97 .eql 3 (Tm 96) (Kn 0) 3, Mv 98 97, Gm 99 7 98 false, Gf 100 58 1 1 98 false, Gl 101 56 100 98 false, Og 102 (.call { callee := .builtin .len, args := #[Tm 101], argTypes := #[56] }) 98 false, Gb 103 .lss 3 (Tm 99) (Tm 102) 3 98 false, Gm 104 103 98 false, Gm 105 7 104 true, Gb 106 .lss 3 (Tm 105) (Kn 3) 3 104 true, Og 107 (.pick (Tm 104) (Tm 106) (Kb false)) 98 false, Pk 108 98 (Kb true) (Tm 107)]) (.cond (Tm 108) .skip (.exit 2))) (.seq (.block 3 (.seq (R0 [Oo 111 (.build 93 #[(0, (.const (.int .u8 80))), (1, (.const (.int .u8 128))), (2, (.const (.int .u8 36)))]), Oo 8 (.alloc 93), Sr 93 (Tm 8) (Tm 111)]) (.seq (.seq (R0 [Mv 112 7, Fa 113 58 1 1, Ld 114 56 113, Lq 115 114 56, Bo 116 .lss 3 (Tm 112) (Tm 115) 3]) (.cond (Tm 116) (R0 [Fa 117 58 1 1, Ld 118 56 117, Mv 119 7, Ix 120 56 118 119, Ld 121 93 120, Sr 93 (Tm 8) (Tm 121)]) .skip)) (.seq (R0 [Oo 122 (.indexAddr 93 (Tm 8) (Kn 0)), Ld 123 5 122, Oo 124 (.convert 5 3 (Tm 123)), Bo 125 .mul 3 (Kn 35) (Tm 124) 3, Bo 126 .add 3 (Kn 1000) (Tm 125) 3, Sg 9 126]) (R1 [Fa 127 63 3 1, Ld 128 61 127, Mv 129 9, Mv 130 9, Mv 131 9, Oo 132 (.indexAddr 93 (Tm 8) (Kn 1)), Ld 133 5 132, Oo 134 (.convert 5 3 (Tm 133)), Bo 135 .mul 3 (Tm 131) (Tm 134) 3, Bo 136 .quo 3 (Tm 135) (Kn 255) 3, Bo 137 .add 3 (Tm 130) (Tm 136) 3, Oo 138 (.indexAddr 93 (Tm 8) (Kn 2)), Ld 139 5 138, Oo 140 (.convert 5 3 (Tm 139)), Bo 141 .mul 3 (Kn 10) (Tm 140) 3, Bo 142 .add 3 (Kn 500) (Tm 141) 3, Oo 143 (.indexAddr 93 (Tm 8) (Kn 2)), Ld 144 5 143, Oo 145 (.convert 5 3 (Tm 144)), Bo 146 .mul 3 (Kn 10) (Tm 145) 3, Bo 147 .add 3 (Kn 500) (Tm 146) 3, Oo 148 (.indexAddr 93 (Tm 8) (Kn 1)), Ld 149 5 148, Oo 150 (.convert 5 3 (Tm 149)), Bo 151 .rem 3 (Tm 150) (Kn 90) 3, Bo 152 .add 3 (Tm 147) (Tm 151) 3, Cl 153 7 #[Tm 142, Tm 152] #[3, 3], Oo 154 (.build 109 #[(0, (Tm 129)), (1, (Tm 137)), (2, (Tm 153))]), Oo 155 (.buildSlice 61 1 #[(0, (Tm 154))]), Oo 156 (.call { callee := .builtin .append, args := #[Tm 128, Tm 155], argTypes := #[61, 61] }), Fa 157 63 3 1, Sr 61 (Tm 157) (Tm 156)]))))) (R0 [Mv 109 7, Bo 110 .add 3 (Tm 109) (Kn 1) 3, Sg 7 110])))))) (.seq (R0 [Ld 158 63 3, Sr 63 (Tm 2) (Tm 158)]) .ret)))))⟩
theorem sf16 : sfOf Try.f16 = some s16 := by kernel_rfl
theorem hb16 : hasBody Try.prog 16 = true := by kernel_rfl
def s17 : SF := ⟨87, [.cell 2 66], (.seq (R0 [Oo 1 (.box 58 (Tm 0)), Oo 2 (.alloc 66)]) (.seq (R0 [Ld 11 58 1, Cl 12 16 #[Tm 11] #[58], Oo 13 (.build 66 #[]), Oo 3 (.alloc 63), Oo 4 (.alloc 66), Sr 63 (Tm 3) (Tm 12), Sr 66 (Tm 4) (Tm 13)]) (.seq (R0 [Oo 14 (.build 146 #[]), Oo 5 (.alloc 146), Sr 146 (Tm 5) (Tm 14)]) (.seq (.seq (R0 [Sk 6 (Kn 0)]) (.block 0 (.loop (.seq (.seq (R0 [Mv 15 6, Fa 16 63 3 0, Ld 17 60 16, Lq 18 17 60, Bo 19 .lss 3 (Tm 15) (Tm 18) 3]) (.cond (Tm 19) .skip (.exit 0))) (.seq (.block 1 (.seq (R0 [Fa 22 63 3 0, Ld 23 60 22, Mv 24 6, Ix 25 60 23 24, Fa 26 145 25 0, Ld 27 143 26, Bo 28 .sub 3 (Tm 27) (Kn 1) 3, Sg 7 28]) (R0 [Mv 29 7, Mv 30 7, Ix 31 146 5 30, Ld 32 41 31, Mv 33 6, Oo 34 (.buildSlice 41 1 #[(0, (Tm 33))]), Oo 35 (.call { callee := .builtin .append, args := #[Tm 32, Tm 34], argTypes := #[41, 41] }), Ix 36 146 5 29, Sr 41 (Tm 36) (Tm 35)]))) (R0 [Mv 20 6, Bo 21 .add 3 (Tm 20) (Kn 1) 3, Sg 6 21])))))) (.seq (R0 [Fa 37 58 1 2, Ld 38 26 37, Cl 39 43 #[Tm 38, Kn 0] #[26, 3], Bo 40 .rem 3 (Tm 39) (Kn 2) 3, Bo 41 .add 3 (Kn 1) (Tm 40) 3, Sg 8 41]) (.seq (.seq (R0 [Sk 9 (Kn 0)]) (.block 2 (.loop (.seq (.seq (R0 [Mv 42 9, Mv 43 8, Bo 44 .mul 3 (Kn 2) (Tm 43) 3, Bo 45 .add 3 (Tm 44) (Kn 1) 3, Bo 46 .lss 3 (Tm 42) (Tm 45) 3]) (.cond (Tm 46) .skip (.exit 2))) (.seq (.block 3 (.seq (R0 [Mv 49 9, Bo 50 .rem 3 (Tm 49) (Kn 2) 3, Ix 51 146 5 50, Ld 52 41 51, Sg 10 52]) (.seq (R1 [Fa 53 66 4 0, Ld 54 41 53, Mv 55 10, Fa 56 58 1 2, Ld 57 26 56, Mv 58 9, Bo 59 .add 3 (Tm 58) (Kn 1) 3, Cl 60 43 #[Tm 57, Tm 59] #[26, 3], Mv 61 10, Lq 62 61 41, Bo 63 .rem 3 (Tm 60) (Tm 62) 3, Ix 64 41 55 63, Ld 65 3 64, Oo 66 (.buildSlice 41 1 #[(0, (Tm 65))]), Oo 67 (.call { callee := .builtin .append, args := #[Tm 54, Tm 66], argTypes := #[41, 41] }), Fa 68 66 4 0, Sr 41 (Tm 68) (Tm 67)]) (.seq (R0 [Mv 69 9, Bo 70 .rem 3 (Tm 69) (Kn 2) 3, Bo 71 .eql 3 (Tm 70) (Kn 1) 3]) (.cond (Tm 71) (R1 [Fa 72 66 4 1, Ld 73 41 72, Fa 74 58 1 2, Ld 75 26 74, Mv 76 9, Bo 77 .add 3 (Tm 76) (Kn 6) 3, Cl 78 43 #[Tm 75, Tm 77] #[26, 3], Fa 79 63 3 1, Ld 80 61 79, Lq 81 80 61, Bo 82 .rem 3 (Tm 78) (Tm 81) 3, Oo 83 (.buildSlice 41 1 #[(0, (Tm 82))]), Oo 84 (.call { callee := .builtin .append, args := #[Tm 73, Tm 83], argTypes := #[41, 41] }), Fa 85 66 4 1, Sr 41 (Tm 85) (Tm 84)]) .skip))))) (R0 [Mv 47 9, Bo 48 .add 3 (Tm 47) (Kn 1) 3, Sg 9 48])))))) (.seq (R0 [Ld 86 66 4, Sr 66 (Tm 2) (Tm 86)]) .ret)))))))⟩
theorem sf17 : sfOf Try.f17 = some s17 := by kernel_rfl
theorem hb17 : hasBody Try.prog 17 = true := by kernel_rfl
def s18 : SF := ⟨30, [.tmp 4, .tmp 5], (.seq (R0 [Oo 2 (.box 69 (Tm 0)), Oo 4 (.assign (.const (.slice none 0 0))), Sk 5 (Kn 0)]) (.seq (R0 [Ld 12 69 2, Mv 13 1, Cl 14 50 #[Tm 12, Tm 13] #[69, 70], Mv 11 14, Xt 15 11 0, Xt 16 11 1, Oo 6 (.alloc 148), Sr 148 (Tm 6) (Tm 15), Sg 7 16]) (.seq (.seq (R0 [Mv 17 7, Bo 18 .neq 42 (Tm 17) (Kn 0) 42]) (.cond (Tm 18) (.seq (R0 [Mv 19 7, Oo 4 (.assign (.const (.slice none 0 0))), Sg 5 19]) .ret) .skip)) (.seq (R0 [Ld 21 148 6, Cl 22 51 #[Tm 21] #[148], Mv 20 22, Xt 23 20 0, Xt 24 20 1, Xt 25 20 2, Sg 8 23, Sg 9 24, Sg 10 25]) (.seq (.seq (R0 [Mv 26 10, Oo 27 (.unOp .not 4 (Tm 26))]) (.cond (Tm 27) (.seq (R0 [Oo 4 (.assign (.const (.slice none 0 0))), Sk 5 (Kn 9)]) .ret) .skip)) (.seq (R0 [Mv 28 8, Cl 29 52 #[Tm 28] #[74], Sg 4 29, Sk 5 (Kn 0)]) .ret))))))⟩
theorem sf18 : sfOf Try.f18 = some s18 := by kernel_rfl
theorem hb18 : hasBody Try.prog 18 = true := by kernel_rfl
def s19 : SF := ⟨55, [.tmp 0], (.seq (R0 [Sk 0 (Kb false)]) (.seq (R0 [Cl 8 7 #[Kn 250, Kn 270] #[3, 3], Cl 9 7 #[Kn 60, Kn 80] #[3, 3], Oo 10 (.build 145 #[(0, (Kn 1)), (1, (Kn 200)), (2, (Tm 8)), (3, (Tm 9)), (4, (Kn 400000)), (5, (Kn 300))]), Cl 11 7 #[Kn 180, Kn 190] #[3, 3], Cl 12 7 #[Kn 70, Kn 90] #[3, 3], Oo 13 (.build 145 #[(0, (Kn 2)), (1, (Kn 120)), (2, (Tm 11)), (3, (Tm 12)), (4, (Kn 300000)), (5, (Kn 200))]), Oo 14 (.buildSlice 60 2 #[(0, (Tm 10)), (1, (Tm 13))]), Cl 15 7 #[Kn 3600, Kn 3700] #[3, 3], Oo 16 (.build 109 #[(0, (Kn 8000)), (1, (Kn 12000)), (2, (Tm 15))]), Oo 17 (.buildSlice 61 1 #[(0, (Tm 16))]), Oo 18 (.build 63 #[(0, (Tm 14)), (1, (Tm 17))]), Oo 1 (.alloc 63), Sr 63 (Tm 1) (Tm 18)]) (.seq (R0 [Oo 19 (.buildSlice 41 3 #[(0, (Kn 0)), (1, (Kn 1)), (2, (Kn 0))]), Oo 20 (.buildSlice 41 1 #[(0, (Kn 0))]), Oo 21 (.build 66 #[(0, (Tm 19)), (1, (Tm 20))]), Oo 2 (.alloc 66), Sr 66 (Tm 2) (Tm 21)]) (.seq (R0 [Ld 23 63 1, Ld 24 66 2, Cl 25 53 #[Tm 23, Tm 24] #[63, 66], Mv 22 25, Xt 26 22 0, Xt 27 22 1, Xt 28 22 2, Oo 3 (.alloc 35), Oo 4 (.alloc 35), Sr 35 (Tm 3) (Tm 26), Sr 35 (Tm 4) (Tm 27), Sg 5 28]) (.seq (R0 [Ld 30 63 1, Ld 31 66 2, Cl 32 54 #[Tm 30, Tm 31] #[63, 66], Mv 29 32, Xt 33 29 0, Xt 34 29 1, Sg 6 33, Sg 7 34]) (.seq (R1 [Mv 35 5, Bo 36 .eql 42 (Tm 35) (Kn 0) 42, Mv 37 36, Gm 38 7 37 true, Gb 39 .eql 42 (Tm 38) (Kn 0) 42 37 true, Pk 40 37 (Tm 39) (Kb false), Mv 41 40, Gl 42 35 3 41 true, Gc 43 7 #[Kn 616, Kn 628] #[3, 3] 41 true, Gb 44 .eql 35 (Tm 42) (Tm 43) 35 41 true, Pk 45 41 (Tm 44) (Kb false), Mv 46 45, Gl 47 35 4 46 true, Gc 48 7 #[Kn 4100, Kn 4240] #[3, 3] 46 true, Gb 49 .eql 35 (Tm 47) (Tm 48) 35 46 true, Pk 50 46 (Tm 49) (Kb false), Mv 51 50, Gm 52 6 51 true, Gb 53 .eql 3 (Tm 52) (Kn 900) 3 51 true, Pk 54 51 (Tm 53) (Kb false), Sg 0 54]) .ret))))))⟩
theorem sf19 : sfOf Try.f19 = some s19 := by kernel_rfl
theorem hb19 : hasBody Try.prog 19 = true := by kernel_rfl
def s20 : SF := ⟨30, [.tmp 0], (.seq (R0 [Sk 0 (Kb false)]) (.seq (R0 [Cl 4 7 #[Kn 20, Kn 200] #[3, 3], Oo 5 (.build 69 #[(0, (Kn 2500)), (1, (Tm 4)), (2, (Kn 4))]), Cl 6 7 #[Kn 10, Kn 12] #[3, 3], Oo 7 (.build 73 #[(0, (Kn 800)), (1, (Tm 6))]), Cl 8 7 #[Kn 8, Kn 9] #[3, 3], Oo 9 (.build 73 #[(0, (Kn 700)), (1, (Tm 8))]), Cl 10 7 #[Kn 4, Kn 4] #[3, 3], Oo 11 (.build 73 #[(0, (Kn 1200)), (1, (Tm 10))]), Oo 12 (.buildSlice 70 3 #[(0, (Tm 7)), (1, (Tm 9)), (2, (Tm 11))]), Cl 13 55 #[Tm 5, Tm 12] #[69, 70], Mv 3 13, Xt 14 3 0, Xt 15 3 1, Sg 1 14, Sg 2 15]) (.seq (R0 [Mv 16 2, Bo 17 .eql 42 (Tm 16) (Kn 0) 42, Mv 18 17, Gm 19 1 18 true, Og 20 (.call { callee := .builtin .len, args := #[Tm 19], argTypes := #[155] }) 18 true, Gb 21 .eql 3 (Tm 20) (Kn 3) 3 18 true, Pk 22 18 (Tm 21) (Kb false), Mv 23 22, Gm 24 1 23 true, Og 25 (.indexAddr 155 (Tm 24) (Kn 1)) 23 true, Gl 26 41 25 23 true, Og 27 (.buildSlice 41 3 #[(0, (Kn 2)), (1, (Kn 1)), (2, (Kn 0))]) 23 true, Gc 28 56 #[Tm 26, Tm 27] #[41, 41] 23 true, Pk 29 23 (Tm 28) (Kb false), Sg 0 29]) .ret)))⟩
theorem sf20 : sfOf Try.f20 = some s20 := by kernel_rfl
theorem hb20 : hasBody Try.prog 20 = true := by kernel_rfl
def s21 : SF := ⟨27, [.tmp 6, .tmp 7, .tmp 8, .tmp 9], (.seq (R0 [Oo 3 (.box 69 (Tm 0)), Oo 6 (.assign (.const (.slice none 0 0))), Sk 7 (Kn 0), Sk 8 (Kn 0), Sk 9 (Kn 0)]) (.seq (R0 [Ld 12 69 3, Mv 13 1, Cl 14 50 #[Tm 12, Tm 13] #[69, 70], Mv 11 14, Xt 15 11 0, Xt 16 11 1, Oo 10 (.alloc 148), Sr 148 (Tm 10) (Tm 15), Sg 9 16]) (.seq (.seq (R0 [Mv 17 9, Bo 18 .neq 42 (Tm 17) (Kn 0) 42]) (.cond (Tm 18) (.seq (R0 [Mv 19 9, Oo 6 (.assign (.const (.slice none 0 0))), Sk 7 (Kn 0), Sk 8 (Kn 0), Sg 9 19]) .ret) .skip)) (.seq (R0 [Ld 20 148 10, Mv 21 2, Cl 22 57 #[Tm 20, Tm 21] #[148, 74], Xt 23 22 0, Xt 24 22 1, Xt 25 22 2, Xt 26 22 3, Sg 6 23, Sg 7 24, Sg 8 25, Sg 9 26]) .ret))))⟩
theorem sf21 : sfOf Try.f21 = some s21 := by kernel_rfl
theorem hb21 : hasBody Try.prog 21 = true := by kernel_rfl
def s22 : SF := ⟨27, [.tmp 4], (.seq (R0 [Oo 2 (.box 63 (Tm 0)), Oo 3 (.box 66 (Tm 1)), Sk 4 (Kn 0)]) (.seq (R0 [Sk 5 (Kn 1)]) (.seq (.seq (R0 [Sk 6 (Kn 0)]) (.block 0 (.loop (.seq (.seq (R0 [Mv 7 6, Fa 8 66 3 1, Ld 9 41 8, Lq 10 9 41, Bo 11 .lss 3 (Tm 7) (Tm 10) 3]) (.cond (Tm 11) .skip (.exit 0))) (.seq (.block 1 (R1 [Mv 14 5, Fa 15 63 2 1, Ld 16 61 15, Fa 17 66 3 1, Ld 18 41 17, Mv 19 6, Ix 20 41 18 19, Ld 21 3 20, Ix 22 61 16 21, Fa 23 109 22 0, Ld 24 3 23, Bo 25 .mul 3 (Tm 14) (Tm 24) 3, Sg 5 25])) (R0 [Mv 12 6, Bo 13 .add 3 (Tm 12) (Kn 1) 3, Sg 6 13])))))) (.seq (R0 [Mv 26 5, Sg 4 26]) .ret))))⟩
theorem sf22 : sfOf Try.f22 = some s22 := by kernel_rfl
theorem hb22 : hasBody Try.prog 22 = true := by kernel_rfl
def s23 : SF := ⟨10, [.cell 2 66], (.seq (R0 [Oo 1 (.box 66 (Tm 0)), Oo 2 (.alloc 66)]) (.seq (R1 [Fa 3 66 1 0, Ld 4 41 3, Cl 5 58 #[Tm 4] #[41], Fa 6 66 1 1, Ld 7 41 6, Cl 8 58 #[Tm 7] #[41], Oo 9 (.build 66 #[(0, (Tm 5)), (1, (Tm 8))]), Sr 66 (Tm 2) (Tm 9)]) .ret))⟩
theorem sf23 : sfOf Try.f23 = some s23 := by kernel_rfl
theorem hb23 : hasBody Try.prog 23 = true := by kernel_rfl
def s24 : SF := ⟨63, [.tmp 6, .tmp 7], (.seq (R0 [Oo 3 (.box 63 (Tm 0)), Oo 4 (.box 66 (Tm 1)), Oo 6 (.assign (.const (.slice none 0 0))), Sk 7 (Kn 0)]) (.seq (R0 [Ld 15 63 3, Ld 16 66 4, Cl 17 59 #[Tm 15, Tm 16] #[63, 66], Mv 14 17, Xt 18 14 0, Xt 19 14 1, Oo 8 (.alloc 161), Sr 161 (Tm 8) (Tm 18), Sg 7 19]) (.seq (.block 0 (.seq (R0 [Mv 21 7, Bo 22 .neq 42 (Tm 21) (Kn 0) 42, Sg 20 22]) (.cond (Tm 20) (.seq (R0 [Mv 23 7, Oo 6 (.assign (.const (.slice none 0 0))), Sg 7 23]) .ret) (.seq (R0 [Mv 25 2, Oo 26 (.buildSlice 41 1 #[(0, (Tm 25))]), Cl 27 60 #[Kn 0, Kn 1000000, Tm 26] #[3, 3, 41], Oo 28 (.unOp .not 4 (Tm 27)), Sg 24 28]) (.cond (Tm 24) (.seq (R0 [Oo 6 (.assign (.const (.slice none 0 0))), Sk 7 (Kn 3)]) .ret) .skip))))) (.seq (R0 [Oo 29 (.makeMap 165 none), Oo 9 (.alloc 165), Sr 165 (Tm 9) (Tm 29)]) (.seq (.seq (R0 [Ld 30 161 8, Oo 31 (.makeFunc (.func 61) #[Tm 30] #[])]) (.block 1 (.rng (Tm 31) [32, 33] (.seq (R0 [Sg 10 32]) (R0 [Sg 11 33])) (.block 2 (R0 [Ld 34 165 9, Mv 35 10, Oo 36 (.lookup 165 (Tm 34) (Tm 35) false), Mv 37 11, Bo 38 .add 3 (Tm 36) (Tm 37) 3, ⟨none, .mapUpdate 165 (Tm 34) (Tm 35) (Tm 38), none⟩]))))) (.seq (.seq (R0 [Fa 39 63 3 0, Ld 40 60 39, Lq 41 40 60, Oo 42 (.move (Kn 0))]) (.block 3 (.loop (.seq (R0 [Bo 43 .lss 3 (Tm 42) (Tm 41) 3]) (.seq (.cond (Tm 43) .skip (.exit 3)) (.seq (.block 4 (.seq (R0 [Mv 44 42, Ix 45 60 40 42, Ld 46 145 45, Oo 13 (.alloc 145), Sg 12 44, Sr 145 (Tm 13) (Tm 46)]) (R0 [Mv 47 6, Ld 48 165 9, Mv 49 12, Oo 50 (.lookup 165 (Tm 48) (Tm 49) false), Fa 51 145 13 1, Ld 52 3 51, Bo 53 .mul 3 (Tm 50) (Tm 52) 3, Mv 54 2, Bo 55 .mul 3 (Tm 53) (Tm 54) 3, Fa 56 161 8 2, Ld 57 3 56, Cl 58 62 #[Tm 55, Tm 57] #[3, 3], Oo 59 (.buildSlice 84 1 #[(0, (Tm 58))]), Oo 60 (.call { callee := .builtin .append, args := #[Tm 47, Tm 59], argTypes := #[84, 84] }), Sg 6 60]))) (R0 [Bo 61 .add 3 (Tm 42) (Kn 1) 3, Mv 42 61]))))))) (.seq (R0 [Mv 62 6, Sg 6 62, Sk 7 (Kn 0)]) .ret)))))))⟩
theorem sf24 : sfOf Try.f24 = some s24 := by kernel_rfl
theorem hb24 : hasBody Try.prog 24 = true := by kernel_rfl
def o25_0 : SO := (Oo 3 (.buildSlice 60 0 #[]))
def o25_1 : SO := (Fa 4 63 1 0)
def o25_2 : SO := (Ld 5 60 4)
def o25_3 : SO := (Oo 6 (.call { callee := .builtin .append, args := #[Tm 3, Tm 5], argTypes := #[60, 60] }))
def o25_4 : SO := (Oo 7 (.buildSlice 61 0 #[]))
def o25_5 : SO := (Fa 8 63 1 1)
def o25_6 : SO := (Ld 9 61 8)
def o25_7 : SO := (Oo 10 (.call { callee := .builtin .append, args := #[Tm 7, Tm 9], argTypes := #[61, 61] }))
def o25_8 : SO := (Oo 11 (.build 63 #[(0, (Tm 6)), (1, (Tm 10))]))
def o25_9 : SO := (Sr 63 (Tm 2) (Tm 11))
def s25 : SF := ⟨12, [.cell 2 63], (.seq (R0 [Oo 1 (.box 63 (Tm 0)), Oo 2 (.alloc 63)]) (.seq (.ord (.op o25_0 (.op o25_1 (.op o25_2 (.app o25_3 [1, 8] [7, 8, 9] (.op o25_4 (.op o25_5 (.op o25_6 (.op o25_7 (.op o25_8 (.op o25_9 .done))))))))))) .ret))⟩
theorem sf25 : sfOf Try.f25 = some s25 := by kernel_rfl
theorem hb25 : hasBody Try.prog 25 = true := by kernel_rfl
def s26 : SF := ⟨70, [.tmp 4, .tmp 5], (.seq (R0 [Sk 4 (Kn 0), Sk 5 (Kb false)]) (.seq (R0 [Sk 6 (Kn 0)]) (.seq (.seq (R0 [Sk 7 (Kn 0)]) (.block 0 (.loop (.seq (.seq (R0 [Mv 8 7, Mv 9 0, Lq 10 9 84, Bo 11 .lss 3 (Tm 8) (Tm 10) 3]) (.cond (Tm 11) .skip (.exit 0))) (.seq (.block 1 (.seq (.seq (R1 [Mv 14 0, Mv 15 7, Ix 16 84 14 15, Fa 17 28 16 1, Ld 18 3 17, Bo 19 .lss 3 (Tm 18) (Kn 1) 3, Mv 20 19, Gm 21 1 20 false, Gm 22 0 20 false, Gm 23 7 20 false, Gx 24 84 22 23 20 false, Gf 25 28 24 1 20 false, Gl 26 3 25 20 false, Gb 27 .rem 3 (Tm 21) (Tm 26) 3 20 false, Gb 28 .neq 3 (Tm 27) (Kn 0) 3 20 false, Pk 29 20 (Kb true) (Tm 28), Mv 30 29, Gm 31 0 30 false, Gm 32 7 30 false, Gx 33 84 31 32 30 false, Gf 34 28 33 0 30 false, Gl 35 3 34 30 false, Gb 36 .lss 3 (Tm 35) (Kn 0) 3 30 false, Pk 37 30 (Kb true) (Tm 36), Mv 38 37, Gm 39 0 38 false, Gm 40 7 38 false, Gx 41 84 39 40 38 false, Gf 42 28 41 0 38 false, Gl 43 3 42 38 false, Gm 44 1 38 false, Gm 45 0 38 false, Gm 46 7 38 false, Gx 47 84 45 46 38 false, Gf 48 28 47 1 38 false, Gl 49 3 48 38 false, Gb 50 .quo 3 (Tm 44) (Tm 49) 3 38 false, Gb 51 .quo 3 (Kn 1152921504606846976) (Tm 50) 3 38 false, Gb 52 .gtr 3 (Tm 43) (Tm 51) 3 38 false, Pk 53 38 (Kb true) (Tm 52)]) (.cond (Tm 53) (.seq (R0 [Sk 4 (Kn 0), Sk 5 (Kb false)]) .ret) .skip)) (R1 [Mv 54 6, Mv 55 0, Mv 56 7, Ix 57 84 55 56, Fa 58 28 57 0, Ld 59 3 58, Mv 60 1, Mv 61 0, Mv 62 7, Ix 63 84 61 62, Fa 64 28 63 1, Ld 65 3 64, Bo 66 .quo 3 (Tm 60) (Tm 65) 3, Bo 67 .mul 3 (Tm 59) (Tm 66) 3, Bo 68 .add 3 (Tm 54) (Tm 67) 3, Sg 6 68]))) (R0 [Mv 12 7, Bo 13 .add 3 (Tm 12) (Kn 1) 3, Sg 7 13])))))) (.seq (R0 [Mv 69 6, Sg 4 69, Sk 5 (Kb true)]) .ret))))⟩
theorem sf26 : sfOf Try.f26 = some s26 := by kernel_rfl
theorem hb26 : hasBody Try.prog 26 = true := by kernel_rfl
def s39 : SF := ⟨8, [.tmp 2], (.seq (R0 [Oo 2 (.assign (.const (.slice none 0 0)))]) (.seq (.seq (R0 [Mv 3 0, Bo 4 .eql 41 (Tm 3) (.const (.slice none 0 0)) 41]) (.cond (Tm 4) (.seq (R0 [Oo 2 (.assign (.const (.slice none 0 0)))]) .ret) .skip)) (.seq (R0 [Oo 5 (.buildSlice 41 0 #[]), Mv 6 0, Oo 7 (.call { callee := .builtin .append, args := #[Tm 5, Tm 6], argTypes := #[41, 41] }), Sg 2 7]) .ret)))⟩
theorem sf39 : sfOf Try.f39 = some s39 := by kernel_rfl
theorem hb39 : hasBody Try.prog 39 = true := by kernel_rfl
def s43 : SF := ⟨16, [.tmp 4], (.seq (R0 [Sk 4 (Kn 0)]) (.seq (.seq (R0 [Mv 5 0, Lq 6 5 26, Bo 7 .eql 3 (Tm 6) (Kn 0) 3]) (.cond (Tm 7) (.seq (R0 [Sk 4 (Kn 0)]) .ret) .skip)) (.seq (R0 [Mv 8 0, Mv 9 1, Mv 10 0, Lq 11 10 26, Bo 12 .rem 3 (Tm 9) (Tm 11) 3, Ix 13 26 8 12, Ld 14 5 13, Oo 15 (.convert 5 3 (Tm 14)), Sg 4 15]) .ret)))⟩
theorem sf43 : sfOf Try.f43 = some s43 := by kernel_rfl
theorem hb43 : hasBody Try.prog 43 = true := by kernel_rfl
end Go.Dw.Seat
end
section
namespace Go.Dw.Seat
open Go Go.Dw Go.Proofs
def s50 : SF := ⟨36, [.cell 4 148, .tmp 5], (.seq (R0 [Oo 2 (.box 69 (Tm 0)), Oo 4 (.alloc 148), Sk 5 (Kn 0)]) (.seq (R0 [Oo 6 (.assign (.func 97))]) (.seq (.block 0 (.seq (.seq (R0 [Fa 8 69 2 0, Ld 9 3 8, Oo 10 (.buildSlice 41 1 #[(0, (Tm 9))]), Cl 11 98 #[Kn 1, Kn 3000, Tm 10] #[3, 3, 41], Oo 12 (.unOp .not 4 (Tm 11)), Sg 7 12]) (.cond (Tm 7) .skip (.seq (R0 [Fa 13 69 2 1, Ld 14 35 13, Cl 15 99 #[Tm 14, Kn 0, Kn 3000] #[35, 3, 3], Oo 16 (.unOp .not 4 (Tm 15)), Sg 7 16]) (.cond (Tm 7) .skip (R0 [Fa 17 69 2 2, Ld 18 3 17, Oo 19 (.buildSlice 41 1 #[(0, (Tm 18))]), Cl 20 98 #[Kn 1, Kn 4, Tm 19] #[3, 3, 41], Oo 21 (.unOp .not 4 (Tm 20)), Sg 7 21]))))) (.cond (Tm 7) (.seq (R0 [Ld 22 148 4, Sr 148 (Tm 4) (Tm 22), Sk 5 (Kn 2)]) .ret) (.seq (R0 [Mv 24 1, Lq 25 24 70, Bo 26 .gtr 3 (Tm 25) (Kn 4) 3, Sg 23 26]) (.cond (Tm 23) (.seq (R0 [Ld 27 148 4, Sr 148 (Tm 4) (Tm 27), Sk 5 (Kn 5)]) .ret) (.seq (R0 [Mv 29 1, Mv 30 6, Cl 31 100 #[Tm 29, Tm 30] #[70, 205], Sg 28 31]) (.cond (Tm 28) (.seq (R0 [Ld 32 148 4, Sr 148 (Tm 4) (Tm 32), Sk 5 (Kn 4)]) .ret) .skip))))))) (.seq (R0 [Ld 33 69 2, Mv 34 1, Oo 35 (.build 148 #[(0, (Tm 33)), (1, (Tm 34))]), Sr 148 (Tm 4) (Tm 35), Sk 5 (Kn 0)]) .ret))))⟩
theorem sf50 : sfOf Try.f50 = some s50 := by kernel_rfl
theorem hb50 : hasBody Try.prog 50 = true := by kernel_rfl
def s51 : SF := ⟨35, [.tmp 2, .tmp 3, .tmp 4], (.seq (R0 [Oo 1 (.box 148 (Tm 0)), Oo 2 (.assign (.const (.slice none 0 0))), Sk 3 (Kn 0), Sk 4 (Kb false)]) (.seq (.seq (R0 [Oo 7 (.move (Kn 0))]) (.block 0 (.loop (.seq (R0 [Bo 8 .lss 3 (Tm 7) (Kn 4) 3]) (.seq (.cond (Tm 8) .skip (.exit 0)) (.seq (.block 1 (.seq (R0 [Mv 9 7, Sg 5 9]) (.seq (R1 [Ld 10 148 1, Ld 11 148 1, Cl 12 101 #[Tm 11] #[148], Oo 13 (.build 210 #[(0, (Tm 10)), (1, (Tm 12))]), Oo 14 (.box 210 (Tm 13)), Sg 6 14]) (.seq (R0 [Mv 15 6, Mv 16 5, Fa 17 148 1 1, Ld 18 70 17, Lq 19 18 70, Oo 20 (.makeSlice 41 (Tm 19) (Tm 19)), Cl 21 102 #[Tm 15, .const (.slice none 0 0), Kn 0, Tm 16, Kn 0, Tm 20] #[207, 74, 3, 3, 3, 41]]) (.seq (R0 [Mv 22 6, Nk 23 22, Fa 24 210 23 4, Ld 25 4 24]) (.cond (Tm 25) (.seq (R1 [Mv 26 6, Nk 27 26, Fa 28 210 27 2, Ld 29 74 28, Mv 30 6, Nk 31 30, Fa 32 210 31 3, Ld 33 3 32, Sg 2 29, Sg 3 33, Sk 4 (Kb true)]) .ret) .skip)))))) (R0 [Bo 34 .add 3 (Tm 7) (Kn 1) 3, Mv 7 34]))))))) (.seq (R0 [Oo 2 (.assign (.const (.slice none 0 0))), Sk 3 (Kn 0), Sk 4 (Kb false)]) .ret)))⟩
theorem sf51 : sfOf Try.f51 = some s51 := by kernel_rfl
theorem hb51 : hasBody Try.prog 51 = true := by kernel_rfl
def s52 : SF := ⟨22, [.tmp 2], (.seq (R0 [Oo 2 (.assign (.const (.slice none 0 0)))]) (.seq (.seq (R0 [Mv 5 0, Lq 6 5 74, Oo 7 (.move (Kn 0))]) (.block 0 (.loop (.seq (R0 [Bo 8 .lss 3 (Tm 7) (Tm 6) 3]) (.seq (.cond (Tm 8) .skip (.exit 0)) (.seq (.block 1 (.seq (R0 [Ix 9 74 5 7, Ld 10 78 9, Oo 4 (.alloc 78), Sr 78 (Tm 4) (Tm 10)]) (R1 [Mv 11 2, Fa 12 78 4 0, Ld 13 41 12, Cl 14 39 #[Tm 13] #[41], Fa 15 78 4 1, Ld 16 3 15, Oo 17 (.build 78 #[(0, (Tm 14)), (1, (Tm 16))]), Oo 18 (.buildSlice 74 1 #[(0, (Tm 17))]), Oo 19 (.call { callee := .builtin .append, args := #[Tm 11, Tm 18], argTypes := #[74, 74] }), Sg 2 19]))) (R0 [Bo 20 .add 3 (Tm 7) (Kn 1) 3, Mv 7 20]))))))) (.seq (R0 [Mv 21 2, Sg 2 21]) .ret)))⟩
theorem sf52 : sfOf Try.f52 = some s52 := by kernel_rfl
theorem hb52 : hasBody Try.prog 52 = true := by kernel_rfl
def o53_0 : SO := (Ld 16 35 4)
def o53_1 : SO := (Ld 17 35 5)
def o53_2 : SO := (Mv 18 6)
def o53_3 : SO := (Sr 35 (Tm 4) (Tm 16))
def o53_4 : SO := (Sr 35 (Tm 5) (Tm 17))
def o53_5 : SO := (Sg 6 18)
def o53_6 : SO := (Ld 24 35 4)
def o53_7 : SO := (Ld 25 35 5)
def o53_8 : SO := (Sr 35 (Tm 4) (Tm 24))
def o53_9 : SO := (Sr 35 (Tm 5) (Tm 25))
def o53_10 : SO := (Sk 6 (Kn 0))
def s53 : SF := ⟨26, [.cell 4 35, .cell 5 35, .tmp 6], (.seq (R0 [Oo 2 (.box 63 (Tm 0)), Oo 3 (.box 66 (Tm 1)), Oo 4 (.alloc 35), Oo 5 (.alloc 35), Sk 6 (Kn 0)]) (.seq (R0 [Ld 9 63 2, Ld 10 66 3, Cl 11 59 #[Tm 9, Tm 10] #[63, 66], Mv 8 11, Xt 12 8 0, Xt 13 8 1, Oo 7 (.alloc 161), Sr 161 (Tm 7) (Tm 12), Sg 6 13]) (.seq (.seq (R0 [Mv 14 6, Bo 15 .neq 42 (Tm 14) (Kn 0) 42]) (.cond (Tm 15) (.seq (.ord (.op o53_0 (.alt (.op o53_1 (.alt (.op o53_2 (.op o53_3 (.op o53_4 (.op o53_5 .done)))) (.op o53_3 (.alt (.op o53_2 (.op o53_4 (.op o53_5 .done))) (.op o53_4 (.op o53_2 (.op o53_5 .done))))))) (.alt (.op o53_2 (.alt (.op o53_1 (.op o53_3 (.op o53_4 (.op o53_5 .done)))) (.op o53_3 (.op o53_1 (.op o53_4 (.op o53_5 .done)))))) (.op o53_3 (.op o53_1 (.alt (.op o53_2 (.op o53_4 (.op o53_5 .done))) (.op o53_4 (.op o53_2 (.op o53_5 .done)))))))))) .ret) .skip)) (.seq (R0 [Ld 20 161 7, Cl 21 103 #[Tm 20] #[161], Mv 19 21, Xt 22 19 0, Xt 23 19 1, Sr 35 (Tm 4) (Tm 22), Sr 35 (Tm 5) (Tm 23)]) (.seq (.ord (.op o53_6 (.alt (.op o53_7 (.op o53_8 (.op o53_9 (.op o53_10 .done)))) (.op o53_8 (.op o53_7 (.op o53_9 (.op o53_10 .done))))))) .ret)))))⟩
theorem sf53 : sfOf Try.f53 = some s53 := by kernel_rfl
theorem hb53 : hasBody Try.prog 53 = true := by kernel_rfl
def s54 : SF := ⟨19, [.tmp 4, .tmp 5], (.seq (R0 [Oo 2 (.box 63 (Tm 0)), Oo 3 (.box 66 (Tm 1)), Sk 4 (Kn 0), Sk 5 (Kn 0)]) (.seq (R0 [Ld 9 63 2, Ld 10 66 3, Cl 11 59 #[Tm 9, Tm 10] #[63, 66], Mv 8 11, Xt 12 8 0, Xt 13 8 1, Oo 6 (.alloc 161), Sr 161 (Tm 6) (Tm 12), Sg 7 13]) (.seq (.seq (R0 [Mv 14 7, Bo 15 .neq 42 (Tm 14) (Kn 0) 42]) (.cond (Tm 15) (.seq (R0 [Mv 16 7, Sk 4 (Kn 0), Sg 5 16]) .ret) .skip)) (.seq (R0 [Ld 17 161 6, Cl 18 104 #[Tm 17] #[161], Sg 4 18, Sk 5 (Kn 0)]) .ret))))⟩
theorem sf54 : sfOf Try.f54 = some s54 := by kernel_rfl
theorem hb54 : hasBody Try.prog 54 = true := by kernel_rfl
def s55 : SF := ⟨19, [.tmp 4, .tmp 5], (.seq (R0 [Oo 2 (.box 69 (Tm 0)), Oo 4 (.assign (.const (.slice none 0 0))), Sk 5 (Kn 0)]) (.seq (R0 [Ld 9 69 2, Mv 10 1, Cl 11 50 #[Tm 9, Tm 10] #[69, 70], Mv 8 11, Xt 12 8 0, Xt 13 8 1, Oo 6 (.alloc 148), Sr 148 (Tm 6) (Tm 12), Sg 7 13]) (.seq (.seq (R0 [Mv 14 7, Bo 15 .neq 42 (Tm 14) (Kn 0) 42]) (.cond (Tm 15) (.seq (R0 [Mv 16 7, Oo 4 (.assign (.const (.slice none 0 0))), Sg 5 16]) .ret) .skip)) (.seq (R0 [Ld 17 148 6, Cl 18 101 #[Tm 17] #[148], Sg 4 18, Sk 5 (Kn 0)]) .ret))))⟩
theorem sf55 : sfOf Try.f55 = some s55 := by kernel_rfl
theorem hb55 : hasBody Try.prog 55 = true := by kernel_rfl
def s56 : SF := ⟨26, [.tmp 4], (.seq (R0 [Sk 4 (Kb false)]) (.seq (.seq (R0 [Mv 6 0, Lq 7 6 41, Mv 8 1, Lq 9 8 41, Bo 10 .neq 3 (Tm 7) (Tm 9) 3]) (.cond (Tm 10) (.seq (R0 [Sk 4 (Kb false)]) .ret) .skip)) (.seq (.seq (R0 [Sk 5 (Kn 0)]) (.block 0 (.loop (.seq (.seq (R0 [Mv 11 5, Mv 12 0, Lq 13 12 41, Bo 14 .lss 3 (Tm 11) (Tm 13) 3]) (.cond (Tm 14) .skip (.exit 0))) (.seq (.block 1 (.seq (R1 [Mv 17 0, Mv 18 5, Ix 19 41 17 18, Ld 20 3 19, Mv 21 1, Mv 22 5, Ix 23 41 21 22, Ld 24 3 23, Bo 25 .neq 3 (Tm 20) (Tm 24) 3]) (.cond (Tm 25) (.seq (R0 [Sk 4 (Kb false)]) .ret) .skip))) (R0 [Mv 15 5, Bo 16 .add 3 (Tm 15) (Kn 1) 3, Sg 5 16])))))) (.seq (R0 [Sk 4 (Kb true)]) .ret))))⟩
theorem sf56 : sfOf Try.f56 = some s56 := by kernel_rfl
theorem hb56 : hasBody Try.prog 56 = true := by kernel_rfl
def s57 : SF := ⟨29, [.tmp 4, .tmp 5, .tmp 6, .tmp 7], (.seq (R0 [Oo 2 (.box 148 (Tm 0)), Oo 4 (.assign (.const (.slice none 0 0))), Sk 5 (Kn 0), Sk 6 (Kn 0), Sk 7 (Kn 0)]) (.seq (.seq (R0 [Ld 10 148 2, Mv 11 1, Cl 12 105 #[Tm 10, Tm 11] #[148, 74], Mv 9 12, Xt 13 9 0, Xt 14 9 1, Xt 15 9 2, Xt 16 9 3, Sg 4 13, Sg 5 14, Sg 6 15, Sg 7 16]) (.seq (R0 [Mv 17 7, Bo 18 .neq 42 (Tm 17) (Kn 0) 42]) (.cond (Tm 18) (.seq (R0 [Mv 19 6, Mv 20 7, Oo 4 (.assign (.const (.slice none 0 0))), Sk 5 (Kn 0), Sg 6 19, Sg 7 20]) .ret) .skip))) (.seq (.seq (R0 [Ld 21 148 2, Mv 22 4, Cl 23 106 #[Tm 21, Tm 22] #[148, 41], Sg 8 23]) (.seq (R0 [Mv 24 8, Bo 25 .geq 3 (Tm 24) (Kn 0) 3]) (.cond (Tm 25) (.seq (R0 [Mv 26 8, Oo 4 (.assign (.const (.slice none 0 0))), Sk 5 (Kn 0), Sg 6 26, Sk 7 (Kn 9)]) .ret) .skip))) (.seq (R0 [Mv 27 4, Mv 28 5, Sg 4 27, Sg 5 28, Sk 6 (Kn 0), Sk 7 (Kn 0)]) .ret))))⟩
theorem sf57 : sfOf Try.f57 = some s57 := by kernel_rfl
theorem hb57 : hasBody Try.prog 57 = true := by kernel_rfl
def s58 : SF := ⟨6, [.tmp 2], (.seq (R0 [Oo 2 (.assign (.const (.slice none 0 0)))]) (.seq (R0 [Oo 3 (.buildSlice 41 0 #[]), Mv 4 0, Oo 5 (.call { callee := .builtin .append, args := #[Tm 3, Tm 4], argTypes := #[41, 41] }), Sg 2 5]) .ret))⟩
theorem sf58 : sfOf Try.f58 = some s58 := by kernel_rfl
theorem hb58 : hasBody Try.prog 58 = true := by kernel_rfl
def s59 : SF := ⟨17, [.cell 4 161, .tmp 5], (.seq (R0 [Oo 2 (.box 63 (Tm 0)), Oo 3 (.box 66 (Tm 1)), Oo 4 (.alloc 161), Sk 5 (Kn 0)]) (.seq (.seq (R0 [Ld 7 63 2, Ld 8 66 3, Cl 9 107 #[Tm 7, Tm 8] #[63, 66], Sg 6 9]) (.seq (R0 [Mv 10 6, Bo 11 .neq 42 (Tm 10) (Kn 0) 42]) (.cond (Tm 11) (.seq (R0 [Ld 12 161 4, Mv 13 6, Sr 161 (Tm 4) (Tm 12), Sg 5 13]) .ret) .skip))) (.seq (R0 [Ld 14 63 2, Ld 15 66 3, Cl 16 108 #[Tm 14, Tm 15] #[63, 66], Sr 161 (Tm 4) (Tm 16), Sk 5 (Kn 0)]) .ret)))⟩
theorem sf59 : sfOf Try.f59 = some s59 := by kernel_rfl
theorem hb59 : hasBody Try.prog 59 = true := by kernel_rfl
def s60 : SF := ⟨11, [.tmp 6], (.seq (R0 [Oo 3 (.box 3 (Tm 0)), Oo 4 (.box 3 (Tm 1)), Sk 6 (Kb false)]) (.seq (R0 [Mv 7 2, Oo 8 (.makeFunc (.func 110) #[] #[Tm 3, Tm 4]), Cl 9 109 #[Tm 7, Tm 8] #[41, 216], Oo 10 (.unOp .not 4 (Tm 9)), Sg 6 10]) .ret))⟩
theorem sf60 : sfOf Try.f60 = some s60 := by kernel_rfl
theorem hb60 : hasBody Try.prog 60 = true := by kernel_rfl
def s61 : SF := ⟨47, [], (.seq (R0 [Oo 2 (.box 161 (Tm 0))]) (.seq (R0 [Fa 8 161 2 0, Fa 9 66 8 0, Ld 10 41 9, Lq 11 10 41, Oo 12 (.move (Kn 0))]) (.block 0 (.loop (.seq (R0 [Bo 13 .lss 3 (Tm 12) (Tm 11) 3]) (.seq (.cond (Tm 13) .skip (.exit 0)) (.seq (.block 1 (.seq (R0 [Mv 14 12, Ix 15 41 10 12, Ld 16 3 15, Sg 4 14, Sg 5 16]) (.seq (R0 [Fa 17 161 2 2, Ld 18 3 17, Sg 6 18]) (.seq (.seq (R0 [Mv 19 4, Bo 20 .rem 3 (Tm 19) (Kn 2) 3, Bo 21 .eql 3 (Tm 20) (Kn 1) 3]) (.cond (Tm 21) (.seq (R1 [Fa 22 161 2 1, Fa 23 63 22 1, Ld 24 61 23, Fa 25 161 2 0, Fa 26 66 25 1, Ld 27 41 26, Mv 28 4, Bo 29 .quo 3 (Tm 28) (Kn 2) 3, Ix 30 41 27 29, Ld 31 3 30, Ix 32 61 24 31, Ld 33 109 32, Oo 7 (.alloc 109), Sr 109 (Tm 7) (Tm 33)]) (R1 [Mv 34 6, Fa 35 109 7 0, Ld 36 3 35, Bo 37 .quo 3 (Tm 34) (Tm 36) 3, Fa 38 109 7 1, Ld 39 3 38, Bo 40 .mul 3 (Tm 37) (Tm 39) 3, Sg 6 40])) .skip)) (.seq (R0 [Mv 41 1, Mv 42 5, Mv 43 6, Oo 44 (.call { callee := .value (Tm 41), args := #[Tm 42, Tm 43], argTypes := #[3, 3] }), Oo 45 (.unOp .not 4 (Tm 44))]) (.cond (Tm 45) .ret .skip)))))) (R0 [Bo 46 .add 3 (Tm 12) (Kn 1) 3, Mv 12 46]))))))))⟩
theorem sf61 : sfOf Try.f61 = some s61 := by kernel_rfl
theorem hb61 : hasBody Try.prog 61 = true := by kernel_rfl
def s62 : SF := ⟨24, [.cell 4 28], (.seq (R0 [Oo 4 (.alloc 28)]) (.seq (R0 [Mv 8 0, Mv 9 1, Sg 5 8, Sg 6 9]) (.seq (.block 0 (.loop (.seq (.seq (R0 [Mv 10 6, Bo 11 .neq 3 (Tm 10) (Kn 0) 3]) (.cond (Tm 11) .skip (.exit 0))) (.block 1 (.seq (R0 [Mv 12 5, Mv 13 6, Bo 14 .rem 3 (Tm 12) (Tm 13) 3, Sg 7 14]) (R0 [Mv 15 6, Mv 16 7, Sg 5 15, Sg 6 16])))))) (.seq (R1 [Mv 17 0, Mv 18 5, Bo 19 .quo 3 (Tm 17) (Tm 18) 3, Mv 20 1, Mv 21 5, Bo 22 .quo 3 (Tm 20) (Tm 21) 3, Oo 23 (.build 28 #[(0, (Tm 19)), (1, (Tm 22))]), Sr 28 (Tm 4) (Tm 23)]) .ret))))⟩
theorem sf62 : sfOf Try.f62 = some s62 := by kernel_rfl
theorem hb62 : hasBody Try.prog 62 = true := by kernel_rfl
def s97 : SF := ⟨14, [.tmp 2], (.seq (R0 [Oo 1 (.box 73 (Tm 0)), Sk 2 (Kb false)]) (.seq (R0 [Fa 3 73 1 0, Ld 4 3 3, Oo 5 (.buildSlice 41 1 #[(0, (Tm 4))]), Cl 6 98 #[Kn 1, Kn 3000, Tm 5] #[3, 3, 41], Oo 7 (.unOp .not 4 (Tm 6)), Mv 8 7, Gf 9 73 1 1 8 false, Gl 10 35 9 8 false, Gc 11 99 #[Tm 10, Kn 0, Kn 100] #[35, 3, 3] 8 false, Og 12 (.unOp .not 4 (Tm 11)) 8 false, Pk 13 8 (Kb true) (Tm 12), Sg 2 13]) .ret))⟩
theorem sf97 : sfOf Try.f97 = some s97 := by kernel_rfl
theorem hb97 : hasBody Try.prog 97 = true := by kernel_rfl
def s98 : SF := ⟨11, [.tmp 6], (.seq (R0 [Oo 3 (.box 3 (Tm 0)), Oo 4 (.box 3 (Tm 1)), Sk 6 (Kb false)]) (.seq (R0 [Mv 7 2, Oo 8 (.makeFunc (.func 128) #[] #[Tm 3, Tm 4]), Cl 9 109 #[Tm 7, Tm 8] #[41, 216], Oo 10 (.unOp .not 4 (Tm 9)), Sg 6 10]) .ret))⟩
theorem sf98 : sfOf Try.f98 = some s98 := by kernel_rfl
theorem hb98 : hasBody Try.prog 98 = true := by kernel_rfl
def s99 : SF := ⟨22, [.tmp 6], (.seq (R0 [Oo 3 (.box 35 (Tm 0)), Sk 6 (Kb false)]) (.seq (R0 [Mv 7 1, Mv 8 2, Fa 9 35 3 0, Ld 10 3 9, Fa 11 35 3 1, Ld 12 3 11, Oo 13 (.buildSlice 41 2 #[(0, (Tm 10)), (1, (Tm 12))]), Cl 14 98 #[Tm 7, Tm 8, Tm 13] #[3, 3, 41], Mv 15 14, Gf 16 35 3 0 15 true, Gl 17 3 16 15 true, Gf 18 35 3 1 15 true, Gl 19 3 18 15 true, Gb 20 .leq 3 (Tm 17) (Tm 19) 3 15 true, Pk 21 15 (Tm 20) (Kb false), Sg 6 21]) .ret))⟩
theorem sf99 : sfOf Try.f99 = some s99 := by kernel_rfl
theorem hb99 : hasBody Try.prog 99 = true := by kernel_rfl
def s100 : SF := ⟨9, [.tmp 4], (.seq (R0 [Sk 4 (Kb false)]) (.seq (R0 [Mv 5 0, Mv 6 1, Cl 7 129 #[Tm 5, Tm 6] #[70, 205], Bo 8 .geq 3 (Tm 7) (Kn 0) 3, Sg 4 8]) .ret))⟩
theorem sf100 : sfOf Try.f100 = some s100 := by kernel_rfl
theorem hb100 : hasBody Try.prog 100 = true := by kernel_rfl
def s101 : SF := ⟨6, [.tmp 2], (.seq (R0 [Oo 1 (.box 148 (Tm 0)), Oo 2 (.assign (.const (.slice none 0 0)))]) (.seq (R0 [Ld 3 148 1, Cl 4 131 #[Tm 3, .const (.slice none 0 0)] #[148, 41], Cl 5 130 #[Tm 4] #[263], Sg 2 5]) .ret))⟩
theorem sf101 : sfOf Try.f101 = some s101 := by kernel_rfl
theorem hb101 : hasBody Try.prog 101 = true := by kernel_rfl
end Go.Dw.Seat
end
section
namespace Go.Dw.Seat
open Go Go.Dw Go.Proofs
def o102_0 : SO := (Mv 108 1)
def o102_1 : SO := (Cl 109 134 #[Tm 108] #[74])
def o102_2 : SO := (Ld 110 78 15)
def o102_3 : SO := (Oo 111 (.buildSlice 74 1 #[(0, (Tm 110))]))
def o102_4 : SO := (Oo 112 (.call { callee := .builtin .append, args := #[Tm 109, Tm 111], argTypes := #[74, 74] }))
def o102_5 : SO := (Mv 107 0)
def o102_6 : SO := (Mv 113 12)
def o102_7 : SO := (Bo 114 .add 3 (Tm 113) (Kn 1) 3)
def o102_8 : SO := (Mv 115 3)
def o102_9 : SO := (Bo 116 .sub 3 (Tm 115) (Kn 1) 3)
def o102_10 : SO := (Mv 117 4)
def o102_11 : SO := (Mv 118 0)
def o102_12 : SO := (Nk 119 118)
def o102_13 : SO := (Fa 120 210 119 0)
def o102_14 : SO := (Ld 121 148 120)
def o102_15 : SO := (Fa 122 78 15 0)
def o102_16 : SO := (Ld 123 41 122)
def o102_17 : SO := (Cl 124 116 #[Tm 121, Tm 123] #[148, 41])
def o102_18 : SO := (Mv 125 14)
def o102_19 : SO := (Bo 126 .mul 3 (Tm 124) (Tm 125) 3)
def o102_20 : SO := (Bo 127 .add 3 (Tm 117) (Tm 126) 3)
def o102_21 : SO := (Mv 128 5)
def o102_22 : SO := (Ld 129 78 15)
def o102_23 : SO := (Cl 130 135 #[Tm 128, Tm 129] #[41, 78])
def s102 : SF := ⟨134, [], (.seq (.seq (R0 [Mv 16 0, Nk 17 16, Fa 18 210 17 4, Ld 19 4 18, Mv 20 19, Gm 21 4 20 true, Gm 22 0 20 true, Og 23 (.nilCheck (Tm 22)) 20 true, Gf 24 210 23 3 20 true, Gl 25 3 24 20 true, Gb 26 .geq 3 (Tm 21) (Tm 25) 3 20 true, Pk 27 20 (Tm 26) (Kb false), Mv 28 27, Gm 29 3 28 true, Gb 30 .gtr 3 (Tm 29) (Kn 0) 3 28 true, Pk 31 28 (Tm 30) (Kb false)]) (.cond (Tm 31) .ret .skip)) (.seq (.seq (R0 [Mv 32 3, Bo 33 .eql 3 (Tm 32) (Kn 0) 3]) (.cond (Tm 33) (.seq (.seq (R0 [Mv 34 0, Nk 35 34, Fa 36 210 35 0, Ld 37 148 36, Mv 38 5, Cl 39 106 #[Tm 37, Tm 38] #[148, 41], Bo 40 .lss 3 (Tm 39) (Kn 0) 3, Mv 41 40, Gm 42 0 41 true, Og 43 (.nilCheck (Tm 42)) 41 true, Gf 44 210 43 4 41 true, Gl 45 4 44 41 true, Og 46 (.unOp .not 4 (Tm 45)) 41 true, Gm 47 46 41 true, Gm 48 4 47 false, Gm 49 0 47 false, Og 50 (.nilCheck (Tm 49)) 47 false, Gf 51 210 50 3 47 false, Gl 52 3 51 47 false, Gb 53 .lss 3 (Tm 48) (Tm 52) 3 47 false, Og 54 (.pick (Tm 47) (Kb true) (Tm 53)) 41 true, Pk 55 41 (Tm 54) (Kb false)]) (.cond (Tm 55) (R0 [Mv 56 0, Mv 57 0, Mv 58 0, Mv 59 1, Cl 60 132 #[Tm 59] #[74], Mv 61 4, Nk 62 56, Fa 63 210 62 2, Sr 74 (Tm 63) (Tm 60), Nk 64 57, Fa 65 210 64 3, Sr 3 (Tm 65) (Tm 61), Nk 66 58, Fa 67 210 66 4, Sr 4 (Tm 67) (Kb true)]) .skip)) .ret) .skip)) (.seq (R0 [Mv 68 2, Sg 12 68]) (.block 0 (.loop (.seq (.seq (R0 [Mv 69 12, Mv 70 0, Nk 71 70, Fa 72 210 71 1, Ld 73 155 72, Lq 74 73 155, Bo 75 .lss 3 (Tm 69) (Tm 74) 3]) (.cond (Tm 75) .skip (.exit 0))) (.seq (.block 1 (.seq (R0 [Mv 78 0, Mv 79 5, Mv 80 0, Nk 81 80, Fa 82 210 81 1, Ld 83 155 82, Mv 84 12, Ix 85 155 83 84, Ld 86 41 85, Mv 87 3, Bo 88 .eql 3 (Tm 87) (Kn 1) 3, Cl 89 133 #[Tm 78, Tm 79, Tm 86, Tm 88] #[207, 41, 41, 4], Oo 13 (.alloc 35), Sr 35 (Tm 13) (Tm 89)]) (.seq (R0 [Fa 90 35 13 0, Ld 91 3 90, Sg 14 91]) (.block 2 (.loop (.seq (.seq (R0 [Mv 92 14, Fa 93 35 13 1, Ld 94 3 93, Bo 95 .leq 3 (Tm 92) (Tm 94) 3]) (.cond (Tm 95) .skip (.exit 2))) (.seq (.block 3 (.seq (R0 [Mv 98 0, Nk 99 98, Fa 100 210 99 1, Ld 101 155 100, Mv 102 12, Ix 103 155 101 102, Ld 104 41 103, Mv 105 14, Oo 106 (.build 78 #[(0, (Tm 104)), (1, (Tm 105))]), Oo 15 (.alloc 78), Sr 78 (Tm 15) (Tm 106)]) (.seq (.ord (.op o102_0 (.op o102_1 (.op o102_2 (.op o102_3 (.app o102_4 [0, 12, 113, 3, 115, 4, 0, 118, 119, 120, 15, 122, 14, 5, 15] [107, 113, 114, 115, 116, 117, 118, 119, 120, 121, 122, 123, 125, 128, 129] (.op o102_5 (.op o102_6 (.op o102_7 (.op o102_8 (.op o102_9 (.op o102_10 (.op o102_11 (.op o102_12 (.op o102_13 (.op o102_14 (.op o102_15 (.op o102_16 (.op o102_17 (.op o102_18 (.op o102_19 (.op o102_20 (.op o102_21 (.op o102_22 (.op o102_23 (.lop (Cl 131 102 #[Tm 107, Tm 112, Tm 114, Tm 116, Tm 127, Tm 130] #[207, 74, 3, 3, 3, 41]) .done)))))))))))))))))))))))))) (.seq (R0 [Mv 132 3, Bo 133 .eql 3 (Tm 132) (Kn 1) 3]) (.cond (Tm 133) (.exit 2) .skip))))) (R0 [Mv 96 14, Bo 97 .add 3 (Tm 96) (Kn 1) 3, Sg 14 97])))))))) (R0 [Mv 76 12, Bo 77 .add 3 (Tm 76) (Kn 1) 3, Sg 12 77]))))))))⟩
theorem sf102 : sfOf Try.f102 = some s102 := by kernel_rfl
theorem hb102 : hasBody Try.prog 102 = true := by kernel_rfl
def o103_0 : SO := (Ld 6 161 1)
def o103_1 : SO := (Mv 7 4)
def o103_2 : SO := (Cl 8 138 #[Tm 6, Tm 7] #[161, 244])
def o103_3 : SO := (Ld 9 161 1)
def o103_4 : SO := (Mv 10 5)
def o103_5 : SO := (Cl 11 138 #[Tm 9, Tm 10] #[161, 244])
def o103_6 : SO := (Oo 12 (.build 35 #[(0, (Tm 8)), (1, (Tm 11))]))
def o103_7 : SO := (Ld 13 161 1)
def o103_8 : SO := (Mv 14 4)
def o103_9 : SO := (Cl 15 139 #[Tm 13, Tm 14] #[161, 244])
def o103_10 : SO := (Ld 16 161 1)
def o103_11 : SO := (Mv 17 5)
def o103_12 : SO := (Cl 18 139 #[Tm 16, Tm 17] #[161, 244])
def o103_13 : SO := (Oo 19 (.build 35 #[(0, (Tm 15)), (1, (Tm 18))]))
def o103_14 : SO := (Sr 35 (Tm 2) (Tm 12))
def o103_15 : SO := (Sr 35 (Tm 3) (Tm 19))
def s103 : SF := ⟨20, [.cell 2 35, .cell 3 35], (.seq (R0 [Oo 1 (.box 161 (Tm 0)), Oo 2 (.alloc 35), Oo 3 (.alloc 35)]) (.seq (R0 [Oo 4 (.assign (.func 136)), Oo 5 (.assign (.func 137))]) (.seq (.ord (.op o103_0 (.op o103_1 (.op o103_2 (.op o103_3 (.op o103_4 (.op o103_5 (.op o103_6 (.op o103_7 (.op o103_8 (.op o103_9 (.op o103_10 (.op o103_11 (.op o103_12 (.alt (.op o103_13 (.op o103_14 (.op o103_15 .done))) (.op o103_14 (.op o103_13 (.op o103_15 .done)))))))))))))))))) .ret)))⟩
theorem sf103 : sfOf Try.f103 = some s103 := by kernel_rfl
theorem hb103 : hasBody Try.prog 103 = true := by kernel_rfl
def s104 : SF := ⟨8, [.tmp 2], (.seq (R0 [Oo 1 (.box 161 (Tm 0)), Sk 2 (Kn 0)]) (.seq (R1 [Ld 3 161 1, Cl 4 113 #[Tm 3, .func 140] #[161, 220], Fa 5 161 1 2, Ld 6 3 5, Bo 7 .quo 3 (Tm 4) (Tm 6) 3, Sg 2 7]) .ret))⟩
theorem sf104 : sfOf Try.f104 = some s104 := by kernel_rfl
theorem hb104 : hasBody Try.prog 104 = true := by kernel_rfl
def s105 : SF := ⟨72, [.tmp 4, .tmp 5, .tmp 6, .tmp 7], (.seq (R0 [Oo 2 (.box 148 (Tm 0)), Oo 4 (.assign (.const (.slice none 0 0))), Sk 5 (Kn 0), Sk 6 (Kn 0), Sk 7 (Kn 0)]) (.seq (.seq (R0 [Mv 11 1, Lq 12 11 74, Bo 13 .gtr 3 (Tm 12) (Kn 3) 3]) (.cond (Tm 13) (.seq (R0 [Oo 4 (.assign (.const (.slice none 0 0))), Sk 5 (Kn 0), Sk 6 (Kn 0), Sk 7 (Kn 5)]) .ret) .skip)) (.seq (R0 [Fa 14 148 2 1, Ld 15 70 14, Lq 16 15 70, Oo 17 (.makeSlice 41 (Tm 16) (Tm 16)), Sg 4 17]) (.seq (.seq (R0 [Mv 18 1, Lq 19 18 74, Oo 20 (.move (Kn 0))]) (.block 0 (.loop (.seq (R0 [Bo 21 .lss 3 (Tm 20) (Tm 19) 3]) (.seq (.cond (Tm 21) .skip (.exit 0)) (.seq (.block 1 (.seq (R0 [Mv 22 20, Ix 23 74 18 20, Ld 24 78 23, Oo 9 (.alloc 78), Sg 8 22, Sr 78 (Tm 9) (Tm 24)]) (.seq (R0 [Ld 25 148 2, Fa 26 78 9 0, Ld 27 41 26, Cl 28 141 #[Tm 25, Tm 27] #[148, 41], Sg 10 28]) (.seq (.block 2 (.seq (R0 [Mv 30 10, Bo 31 .neq 42 (Tm 30) (Kn 0) 42, Sg 29 31]) (.cond (Tm 29) .skip (.seq (R0 [Fa 33 78 9 1, Ld 34 3 33, Oo 35 (.buildSlice 41 1 #[(0, (Tm 34))]), Cl 36 98 #[Kn 1, Kn 30, Tm 35] #[3, 3, 41], Oo 37 (.unOp .not 4 (Tm 36)), Sg 32 37]) (.cond (Tm 32) (R0 [Sk 10 (Kn 3)]) (.seq (R1 [Mv 39 8, Bo 40 .gtr 3 (Tm 39) (Kn 0) 3, Mv 41 40, Gm 42 1 41 true, Gm 43 8 41 true, Gb 44 .sub 3 (Tm 43) (Kn 1) 3 41 true, Gx 45 74 42 44 41 true, Gf 46 78 45 0 41 true, Gl 47 41 46 41 true, Gf 48 78 9 0 41 true, Gl 49 41 48 41 true, Gc 50 142 #[Tm 47, Tm 49] #[41, 41] 41 true, Gb 51 .geq 3 (Tm 50) (Kn 0) 3 41 true, Pk 52 41 (Tm 51) (Kb false), Sg 38 52]) (.cond (Tm 38) (R0 [Sk 10 (Kn 6)]) .skip))))))) (.seq (.seq (R0 [Mv 53 10, Bo 54 .neq 42 (Tm 53) (Kn 0) 42]) (.cond (Tm 54) (.seq (R0 [Mv 55 8, Mv 56 10, Oo 4 (.assign (.const (.slice none 0 0))), Sk 5 (Kn 0), Sg 6 55, Sg 7 56]) .ret) .skip)) (R1 [Mv 57 4, Ld 58 78 9, Cl 59 135 #[Tm 57, Tm 58] #[41, 78], Mv 60 5, Ld 61 148 2, Fa 62 78 9 0, Ld 63 41 62, Cl 64 116 #[Tm 61, Tm 63] #[148, 41], Fa 65 78 9 1, Ld 66 3 65, Bo 67 .mul 3 (Tm 64) (Tm 66) 3, Bo 68 .add 3 (Tm 60) (Tm 67) 3, Sg 4 59, Sg 5 68])))))) (R0 [Bo 69 .add 3 (Tm 20) (Kn 1) 3, Mv 20 69]))))))) (.seq (R0 [Mv 70 4, Mv 71 5, Sg 4 70, Sg 5 71, Sk 6 (Kn 0), Sk 7 (Kn 0)]) .ret)))))⟩
theorem sf105 : sfOf Try.f105 = some s105 := by kernel_rfl
theorem hb105 : hasBody Try.prog 105 = true := by kernel_rfl
def s106 : SF := ⟨30, [.tmp 4], (.seq (R0 [Oo 2 (.box 148 (Tm 0)), Sk 4 (Kn 0)]) (.seq (.seq (R0 [Fa 7 148 2 1, Ld 8 70 7, Lq 9 8 70, Oo 10 (.move (Kn 0))]) (.block 0 (.loop (.seq (R0 [Bo 11 .lss 3 (Tm 10) (Tm 9) 3]) (.seq (.cond (Tm 11) .skip (.exit 0)) (.seq (.block 1 (.seq (R0 [Mv 12 10, Ix 13 70 8 10, Ld 14 73 13, Oo 6 (.alloc 73), Sg 5 12, Sr 73 (Tm 6) (Tm 14)]) (.seq (R1 [Fa 15 73 6 1, Fa 16 35 15 0, Ld 17 3 16, Fa 18 73 6 1, Fa 19 35 18 1, Ld 20 3 19, Mv 21 1, Mv 22 5, Ix 23 41 21 22, Ld 24 3 23, Oo 25 (.buildSlice 41 1 #[(0, (Tm 24))]), Cl 26 98 #[Tm 17, Tm 20, Tm 25] #[3, 3, 41], Oo 27 (.unOp .not 4 (Tm 26))]) (.cond (Tm 27) (.seq (R0 [Mv 28 5, Sg 4 28]) .ret) .skip)))) (R0 [Bo 29 .add 3 (Tm 10) (Kn 1) 3, Mv 10 29]))))))) (.seq (R0 [Sk 4 (Kn (-1))]) .ret)))⟩
theorem sf106 : sfOf Try.f106 = some s106 := by kernel_rfl
theorem hb106 : hasBody Try.prog 106 = true := by kernel_rfl
def s107 : SF := ⟨57, [.tmp 4], (.seq (R0 [Oo 2 (.box 63 (Tm 0)), Oo 3 (.box 66 (Tm 1)), Sk 4 (Kn 0)]) (.seq (.seq (R0 [Ld 8 63 2, Cl 9 143 #[Tm 8] #[63], Sg 5 9]) (.seq (R0 [Mv 10 5, Bo 11 .neq 42 (Tm 10) (Kn 0) 42]) (.cond (Tm 11) (.seq (R0 [Mv 12 5, Sg 4 12]) .ret) .skip))) (.seq (.block 0 (.seq (R0 [Ld 14 66 3, Cl 15 144 #[Tm 14] #[66], Oo 16 (.unOp .not 4 (Tm 15)), Sg 13 16]) (.cond (Tm 13) (.seq (R0 [Sk 4 (Kn 4)]) .ret) (.seq (.seq (R0 [Fa 18 63 2 0, Ld 19 60 18, Lq 20 19 60, Bo 21 .sub 3 (Tm 20) (Kn 1) 3, Fa 22 66 3 0, Ld 23 41 22, Cl 24 60 #[Kn 0, Tm 21, Tm 23] #[3, 3, 41], Oo 25 (.unOp .not 4 (Tm 24)), Sg 17 25]) (.cond (Tm 17) .skip (R0 [Fa 26 63 2 1, Ld 27 61 26, Lq 28 27 61, Bo 29 .sub 3 (Tm 28) (Kn 1) 3, Fa 30 66 3 1, Ld 31 41 30, Cl 32 60 #[Kn 0, Tm 29, Tm 31] #[3, 3, 41], Oo 33 (.unOp .not 4 (Tm 32)), Sg 17 33]))) (.cond (Tm 17) (.seq (R0 [Sk 4 (Kn 7)]) .ret) .skip))))) (.seq (.seq (R0 [Fa 34 66 3 1, Ld 35 41 34, Lq 36 35 41, Cl 37 145 #[Tm 36] #[3], Lq 38 37 250, Oo 39 (.move (Kn 0))]) (.block 1 (.loop (.seq (R0 [Bo 40 .lss 3 (Tm 39) (Tm 38) 3]) (.seq (.cond (Tm 40) .skip (.exit 1)) (.seq (.block 2 (.seq (R0 [Mv 41 39, Ix 42 250 37 39, Ld 43 143 42, Sg 6 41, Sg 7 43]) (.seq (R1 [Fa 44 63 2 0, Ld 45 60 44, Fa 46 66 3 0, Ld 47 41 46, Mv 48 6, Ix 49 41 47 48, Ld 50 3 49, Ix 51 60 45 50, Fa 52 145 51 0, Ld 53 143 52, Mv 54 7, Bo 55 .neq 143 (Tm 53) (Tm 54) 143]) (.cond (Tm 55) (.seq (R0 [Sk 4 (Kn 2)]) .ret) .skip)))) (R0 [Bo 56 .add 3 (Tm 39) (Kn 1) 3, Mv 39 56]))))))) (.seq (R0 [Sk 4 (Kn 0)]) .ret)))))⟩
theorem sf107 : sfOf Try.f107 = some s107 := by kernel_rfl
theorem hb107 : hasBody Try.prog 107 = true := by kernel_rfl
def s108 : SF := ⟨30, [.cell 4 161], (.seq (R0 [Oo 2 (.box 63 (Tm 0)), Oo 3 (.box 66 (Tm 1)), Oo 4 (.alloc 161)]) (.seq (R0 [Ld 8 66 3, Ld 9 63 2, Oo 10 (.build 161 #[(0, (Tm 8)), (1, (Tm 9)), (2, (Kn 1))]), Oo 5 (.alloc 161), Sr 161 (Tm 5) (Tm 10)]) (.seq (.seq (R0 [Fa 11 66 3 1, Ld 12 41 11, Lq 13 12 41, Oo 14 (.move (Kn 0))]) (.block 0 (.loop (.seq (R0 [Bo 15 .lss 3 (Tm 14) (Tm 13) 3]) (.seq (.cond (Tm 15) .skip (.exit 0)) (.seq (.block 1 (.seq (R0 [Ix 16 41 12 14, Ld 17 3 16, Sg 7 17]) (R1 [Fa 18 161 5 2, Ld 19 3 18, Fa 20 63 2 1, Ld 21 61 20, Mv 22 7, Ix 23 61 21 22, Fa 24 109 23 0, Ld 25 3 24, Bo 26 .mul 3 (Tm 19) (Tm 25) 3, Fa 27 161 5 2, Sr 3 (Tm 27) (Tm 26)]))) (R0 [Bo 28 .add 3 (Tm 14) (Kn 1) 3, Mv 14 28]))))))) (.seq (R0 [Ld 29 161 5, Sr 161 (Tm 4) (Tm 29)]) .ret))))⟩
theorem sf108 : sfOf Try.f108 = some s108 := by kernel_rfl
theorem hb108 : hasBody Try.prog 108 = true := by kernel_rfl
def s109 : SF := ⟨9, [.tmp 4], (.seq (R0 [Sk 4 (Kb false)]) (.seq (R0 [Mv 5 0, Mv 6 1, Cl 7 146 #[Tm 5, Tm 6] #[41, 216], Bo 8 .geq 3 (Tm 7) (Kn 0) 3, Sg 4 8]) .ret))⟩
theorem sf109 : sfOf Try.f109 = some s109 := by kernel_rfl
theorem hb109 : hasBody Try.prog 109 = true := by kernel_rfl
def s110 : SF := ⟨13, [.tmp 4], (.seq (R0 [Sk 4 (Kb false)]) (.seq (R0 [Mv 5 0, Ld 6 3 1, Bo 7 .lss 3 (Tm 5) (Tm 6) 3, Mv 8 7, Gm 9 0 8 false, Gl 10 3 2 8 false, Gb 11 .gtr 3 (Tm 9) (Tm 10) 3 8 false, Pk 12 8 (Kb true) (Tm 11), Sg 4 12]) .ret))⟩
theorem sf110 : sfOf Try.f110 = some s110 := by kernel_rfl
theorem hb110 : hasBody Try.prog 110 = true := by kernel_rfl
def s113 : SF := ⟨24, [.cell 4 3], (.seq (R0 [Oo 2 (.box 161 (Tm 0)), Oo 3 (.box 220 (Tm 1)), Oo 4 (.alloc 3)]) (.seq (.seq (R0 [Ld 7 161 2, Oo 8 (.makeFunc (.func 61) #[Tm 7] #[])]) (.block 0 (.rng (Tm 8) [9, 10] (.seq (R0 [Sg 5 9]) (R0 [Sg 6 10])) (.block 1 (R1 [Ld 11 3 4, Ld 12 220 3, Fa 13 161 2 1, Fa 14 63 13 0, Ld 15 60 14, Mv 16 5, Ix 17 60 15 16, Ld 18 145 17, Oo 19 (.call { callee := .value (Tm 12), args := #[Tm 18], argTypes := #[145] }), Mv 20 6, Bo 21 .mul 3 (Tm 19) (Tm 20) 3, Bo 22 .add 3 (Tm 11) (Tm 21) 3, Sr 3 (Tm 4) (Tm 22)]))))) (.seq (R0 [Ld 23 3 4, Sr 3 (Tm 4) (Tm 23)]) .ret)))⟩
theorem sf113 : sfOf Try.f113 = some s113 := by kernel_rfl
theorem hb113 : hasBody Try.prog 113 = true := by kernel_rfl
def s116 : SF := ⟨30, [.tmp 4], (.seq (R0 [Oo 2 (.box 148 (Tm 0)), Sk 4 (Kn 0)]) (.seq (R0 [Fa 8 148 2 0, Fa 9 69 8 0, Ld 10 3 9, Sg 5 10]) (.seq (.seq (R0 [Mv 11 1, Lq 12 11 41, Oo 13 (.move (Kn 0))]) (.block 0 (.loop (.seq (R0 [Bo 14 .lss 3 (Tm 13) (Tm 12) 3]) (.seq (.cond (Tm 14) .skip (.exit 0)) (.seq (.block 1 (.seq (R0 [Mv 15 13, Ix 16 41 11 13, Ld 17 3 16, Sg 6 15, Sg 7 17]) (R0 [Mv 18 5, Mv 19 7, Fa 20 148 2 1, Ld 21 70 20, Mv 22 6, Ix 23 70 21 22, Fa 24 73 23 0, Ld 25 3 24, Bo 26 .mul 3 (Tm 19) (Tm 25) 3, Bo 27 .sub 3 (Tm 18) (Tm 26) 3, Sg 5 27]))) (R0 [Bo 28 .add 3 (Tm 13) (Kn 1) 3, Mv 13 28]))))))) (.seq (R0 [Mv 29 5, Sg 4 29]) .ret))))⟩
theorem sf116 : sfOf Try.f116 = some s116 := by kernel_rfl
theorem hb116 : hasBody Try.prog 116 = true := by kernel_rfl
def s128 : SF := ⟨13, [.tmp 4], (.seq (R0 [Sk 4 (Kb false)]) (.seq (R0 [Mv 5 0, Ld 6 3 1, Bo 7 .lss 3 (Tm 5) (Tm 6) 3, Mv 8 7, Gm 9 0 8 false, Gl 10 3 2 8 false, Gb 11 .gtr 3 (Tm 9) (Tm 10) 3 8 false, Pk 12 8 (Kb true) (Tm 11), Sg 4 12]) .ret))⟩
theorem sf128 : sfOf Try.f128 = some s128 := by kernel_rfl
theorem hb128 : hasBody Try.prog 128 = true := by kernel_rfl
def s129 : SF := ⟨19, [.tmp 4], (.seq (R0 [Sk 4 (Kn 0)]) (.seq (.seq (R0 [Mv 6 0, Lq 7 6 70, Oo 8 (.move (Kn 0))]) (.block 0 (.loop (.seq (R0 [Bo 9 .lss 3 (Tm 8) (Tm 7) 3]) (.seq (.cond (Tm 9) .skip (.exit 0)) (.seq (.block 1 (.seq (R0 [Mv 10 8, Sg 5 10]) (.seq (R0 [Mv 11 1, Mv 12 0, Mv 13 5, Ix 14 70 12 13, Ld 15 73 14, Oo 16 (.call { callee := .value (Tm 11), args := #[Tm 15], argTypes := #[73] })]) (.cond (Tm 16) (.seq (R0 [Mv 17 5, Sg 4 17]) .ret) .skip)))) (R0 [Bo 18 .add 3 (Tm 8) (Kn 1) 3, Mv 8 18]))))))) (.seq (R0 [Sk 4 (Kn (-1))]) .ret)))⟩
theorem sf129 : sfOf Try.f129 = some s129 := by kernel_rfl
theorem hb129 : hasBody Try.prog 129 = true := by kernel_rfl
def s130 : SF := ⟨5, [.tmp 2], (.seq (R0 [Oo 2 (.assign (.const (.slice none 0 0)))]) (.seq (R0 [Mv 3 0, Cl 4 154 #[.const (.slice none 0 0), Tm 3] #[155, 263], Sg 2 4]) .ret))⟩
theorem sf130 : sfOf Try.f130 = some s130 := by kernel_rfl
theorem hb130 : hasBody Try.prog 130 = true := by kernel_rfl
def s131 : SF := ⟨6, [.tmp 4], (.seq (R0 [Oo 2 (.box 148 (Tm 0)), Oo 3 (.box 41 (Tm 1)), Oo 4 (.assign (.const .nilFunc))]) (.seq (R0 [Oo 5 (.makeFunc (.func 155) #[] #[Tm 3, Tm 2]), Sg 4 5]) .ret))⟩
theorem sf131 : sfOf Try.f131 = some s131 := by kernel_rfl
theorem hb131 : hasBody Try.prog 131 = true := by kernel_rfl
def s132 : SF := ⟨8, [.tmp 2], (.seq (R0 [Oo 2 (.assign (.const (.slice none 0 0)))]) (.seq (.seq (R0 [Mv 3 0, Bo 4 .eql 74 (Tm 3) (.const (.slice none 0 0)) 74]) (.cond (Tm 4) (.seq (R0 [Oo 2 (.assign (.const (.slice none 0 0)))]) .ret) .skip)) (.seq (R0 [Oo 5 (.buildSlice 74 0 #[]), Mv 6 0, Oo 7 (.call { callee := .builtin .append, args := #[Tm 5, Tm 6], argTypes := #[74, 74] }), Sg 2 7]) .ret)))⟩
theorem sf132 : sfOf Try.f132 = some s132 := by kernel_rfl
theorem hb132 : hasBody Try.prog 132 = true := by kernel_rfl
def s133 : SF := ⟨77, [.cell 8 35], (.seq (R0 [Oo 8 (.alloc 35)]) (.seq (R0 [Oo 13 (.build 35 #[(0, (Kn 1)), (1, (Kn 30))]), Oo 9 (.alloc 35), Sr 35 (Tm 9) (Tm 13)]) (.seq (.seq (R0 [Mv 14 2, Lq 15 14 41, Oo 16 (.move (Kn 0))]) (.block 0 (.loop (.seq (R0 [Bo 17 .lss 3 (Tm 16) (Tm 15) 3]) (.seq (.cond (Tm 17) .skip (.exit 0)) (.seq (.block 1 (.seq (R0 [Mv 18 16, Ix 19 41 14 16, Ld 20 3 19, Sg 10 18, Sg 11 20]) (.seq (R0 [Mv 21 0, Nk 22 21, Fa 23 210 22 0, Fa 24 148 23 1, Ld 25 70 24, Mv 26 10, Ix 27 70 25 26, Fa 28 73 27 1, Ld 29 35 28, Oo 12 (.alloc 35), Sr 35 (Tm 12) (Tm 29)]) (.block 2 (.seq (R0 [Mv 31 11, Bo 32 .gtr 3 (Tm 31) (Kn 0) 3, Sg 30 32]) (.cond (Tm 30) (.seq (R1 [Fa 33 35 9 1, Ld 34 3 33, Fa 35 35 12 1, Ld 36 3 35, Mv 37 1, Mv 38 10, Ix 39 41 37 38, Ld 40 3 39, Bo 41 .sub 3 (Tm 36) (Tm 40) 3, Mv 42 11, Bo 43 .quo 3 (Tm 41) (Tm 42) 3, Oo 44 (.call { callee := .builtin .min, args := #[Tm 34, Tm 43], argTypes := #[3, 3] }), Fa 45 35 9 1, Sr 3 (Tm 45) (Tm 44)]) (.seq (R0 [Mv 46 3]) (.cond (Tm 46) (R1 [Fa 47 35 9 0, Ld 48 3 47, Fa 49 35 12 0, Ld 50 3 49, Mv 51 1, Mv 52 10, Ix 53 41 51 52, Ld 54 3 53, Bo 55 .sub 3 (Tm 50) (Tm 54) 3, Mv 56 11, Bo 57 .add 3 (Tm 55) (Tm 56) 3, Bo 58 .sub 3 (Tm 57) (Kn 1) 3, Mv 59 11, Bo 60 .quo 3 (Tm 58) (Tm 59) 3, Oo 61 (.call { callee := .builtin .max, args := #[Tm 48, Tm 60], argTypes := #[3, 3] }), Fa 62 35 9 0, Sr 3 (Tm 62) (Tm 61)]) .skip))) (.seq (R1 [Mv 64 3, Mv 65 64, Gm 66 1 65 true, Gm 67 10 65 true, Gx 68 41 66 67 65 true, Gl 69 3 68 65 true, Gf 70 35 12 0 65 true, Gl 71 3 70 65 true, Gb 72 .lss 3 (Tm 69) (Tm 71) 3 65 true, Pk 73 65 (Tm 72) (Kb false), Sg 63 73]) (.cond (Tm 63) (.seq (R0 [Oo 74 (.build 35 #[(0, (Kn 1))]), Sr 35 (Tm 8) (Tm 74)]) .ret) .skip)))))))) (R0 [Bo 75 .add 3 (Tm 16) (Kn 1) 3, Mv 16 75]))))))) (.seq (R0 [Ld 76 35 9, Sr 35 (Tm 8) (Tm 76)]) .ret))))⟩
theorem sf133 : sfOf Try.f133 = some s133 := by kernel_rfl
theorem hb133 : hasBody Try.prog 133 = true := by kernel_rfl
def s134 : SF := ⟨9, [.tmp 2], (.seq (R0 [Oo 2 (.assign (.const (.slice none 0 0)))]) (.seq (R0 [Mv 3 0, Mv 4 0, Lq 5 4 74, Mv 6 0, Lq 7 6 74, Oo 8 (.slice 74 (Tm 3) none (some (Tm 5)) (some (Tm 7))), Sg 2 8]) .ret))⟩
theorem sf134 : sfOf Try.f134 = some s134 := by kernel_rfl
theorem hb134 : hasBody Try.prog 134 = true := by kernel_rfl
def s135 : SF := ⟨30, [.tmp 4], (.seq (R0 [Oo 3 (.box 78 (Tm 1)), Oo 4 (.assign (.const (.slice none 0 0)))]) (.seq (R0 [Mv 8 0, Cl 9 39 #[Tm 8] #[41], Sg 5 9]) (.seq (.seq (R0 [Fa 10 78 3 0, Ld 11 41 10, Lq 12 11 41, Oo 13 (.move (Kn 0))]) (.block 0 (.loop (.seq (R0 [Bo 14 .lss 3 (Tm 13) (Tm 12) 3]) (.seq (.cond (Tm 14) .skip (.exit 0)) (.seq (.block 1 (.seq (R0 [Mv 15 13, Ix 16 41 11 13, Ld 17 3 16, Sg 6 15, Sg 7 17]) (R1 [Mv 18 5, Mv 19 6, Ix 20 41 18 19, Ld 21 3 20, Mv 22 7, Fa 23 78 3 1, Ld 24 3 23, Bo 25 .mul 3 (Tm 22) (Tm 24) 3, Bo 26 .add 3 (Tm 21) (Tm 25) 3, Ix 27 41 18 19, Sr 3 (Tm 27) (Tm 26)]))) (R0 [Bo 28 .add 3 (Tm 13) (Kn 1) 3, Mv 13 28]))))))) (.seq (R0 [Mv 29 5, Sg 4 29]) .ret))))⟩
theorem sf135 : sfOf Try.f135 = some s135 := by kernel_rfl
theorem hb135 : hasBody Try.prog 135 = true := by kernel_rfl
def s136 : SF := ⟨5, [.tmp 2], (.seq (R0 [Oo 1 (.box 35 (Tm 0)), Sk 2 (Kn 0)]) (.seq (R0 [Fa 3 35 1 0, Ld 4 3 3, Sg 2 4]) .ret))⟩
theorem sf136 : sfOf Try.f136 = some s136 := by kernel_rfl
theorem hb136 : hasBody Try.prog 136 = true := by kernel_rfl
def s137 : SF := ⟨5, [.tmp 2], (.seq (R0 [Oo 1 (.box 35 (Tm 0)), Sk 2 (Kn 0)]) (.seq (R0 [Fa 3 35 1 1, Ld 4 3 3, Sg 2 4]) .ret))⟩
theorem sf137 : sfOf Try.f137 = some s137 := by kernel_rfl
theorem hb137 : hasBody Try.prog 137 = true := by kernel_rfl
def s138 : SF := ⟨12, [.tmp 4], (.seq (R0 [Oo 2 (.box 161 (Tm 0)), Oo 3 (.box 244 (Tm 1)), Sk 4 (Kn 0)]) (.seq (R1 [Ld 5 161 2, Oo 6 (.makeFunc (.func 158) #[] #[Tm 3]), Cl 7 113 #[Tm 5, Tm 6] #[161, 220], Fa 8 161 2 2, Ld 9 3 8, Bo 10 .mul 3 (Kn 1000) (Tm 9) 3, Bo 11 .quo 3 (Tm 7) (Tm 10) 3, Sg 4 11]) .ret))⟩
theorem sf138 : sfOf Try.f138 = some s138 := by kernel_rfl
theorem hb138 : hasBody Try.prog 138 = true := by kernel_rfl
def s139 : SF := ⟨54, [.tmp 4], (.seq (R0 [Oo 2 (.box 161 (Tm 0)), Sk 4 (Kn 0)]) (.seq (.seq (R0 [Fa 9 161 2 0, Fa 10 66 9 0, Ld 11 41 10, Lq 12 11 41, Oo 13 (.move (Kn 0))]) (.block 0 (.loop (.seq (R0 [Bo 14 .lss 3 (Tm 13) (Tm 12) 3]) (.seq (.cond (Tm 14) .skip (.exit 0)) (.seq (.block 1 (.seq (R0 [Mv 15 13, Ix 16 41 11 13, Ld 17 3 16, Sg 5 15, Sg 6 17]) (.seq (R0 [Mv 18 5, Bo 19 .rem 3 (Tm 18) (Kn 2) 3, Bo 20 .eql 3 (Tm 19) (Kn 0) 3]) (.cond (Tm 20) (R0 [Mv 21 4, Mv 22 1, Fa 23 161 2 1, Fa 24 63 23 0, Ld 25 60 24, Mv 26 6, Ix 27 60 25 26, Fa 28 145 27 2, Ld 29 35 28, Oo 30 (.call { callee := .value (Tm 22), args := #[Tm 29], argTypes := #[35] }), Bo 31 .add 3 (Tm 21) (Tm 30) 3, Sg 4 31]) .skip)))) (R0 [Bo 32 .add 3 (Tm 13) (Kn 1) 3, Mv 13 32]))))))) (.seq (.seq (R0 [Fa 33 161 2 0, Fa 34 66 33 1, Ld 35 41 34, Lq 36 35 41, Oo 37 (.move (Kn 0))]) (.block 2 (.loop (.seq (R0 [Bo 38 .lss 3 (Tm 37) (Tm 36) 3]) (.seq (.cond (Tm 38) .skip (.exit 2)) (.seq (.block 3 (.seq (R0 [Ix 39 41 35 37, Ld 40 3 39, Sg 8 40]) (R0 [Mv 41 4, Mv 42 1, Fa 43 161 2 1, Fa 44 63 43 1, Ld 45 61 44, Mv 46 8, Ix 47 61 45 46, Fa 48 109 47 2, Ld 49 35 48, Oo 50 (.call { callee := .value (Tm 42), args := #[Tm 49], argTypes := #[35] }), Bo 51 .add 3 (Tm 41) (Tm 50) 3, Sg 4 51]))) (R0 [Bo 52 .add 3 (Tm 37) (Kn 1) 3, Mv 37 52]))))))) (.seq (R0 [Mv 53 4, Sg 4 53]) .ret))))⟩
theorem sf139 : sfOf Try.f139 = some s139 := by kernel_rfl
theorem hb139 : hasBody Try.prog 139 = true := by kernel_rfl
def s140 : SF := ⟨5, [.tmp 2], (.seq (R0 [Oo 1 (.box 145 (Tm 0)), Sk 2 (Kn 0)]) (.seq (R0 [Fa 3 145 1 5, Ld 4 3 3, Sg 2 4]) .ret))⟩
theorem sf140 : sfOf Try.f140 = some s140 := by kernel_rfl
theorem hb140 : hasBody Try.prog 140 = true := by kernel_rfl
def s141 : SF := ⟨20, [.tmp 4], (.seq (R0 [Oo 2 (.box 148 (Tm 0)), Sk 4 (Kn 0)]) (.seq (.block 0 (.seq (.seq (R0 [Mv 6 1, Lq 7 6 41, Fa 8 148 2 1, Ld 9 70 8, Lq 10 9 70, Bo 11 .neq 3 (Tm 7) (Tm 10) 3, Sg 5 11]) (.cond (Tm 5) .skip (R0 [Mv 12 1, Cl 13 98 #[Kn 0, Kn 4, Tm 12] #[3, 3, 41], Oo 14 (.unOp .not 4 (Tm 13)), Sg 5 14]))) (.cond (Tm 5) (.seq (R0 [Sk 4 (Kn 4)]) .ret) (.seq (R0 [Ld 16 148 2, Mv 17 1, Cl 18 156 #[Tm 16, Tm 17] #[148, 41], Oo 19 (.unOp .not 4 (Tm 18)), Sg 15 19]) (.cond (Tm 15) (.seq (R0 [Sk 4 (Kn 7)]) .ret) .skip))))) (.seq (R0 [Sk 4 (Kn 0)]) .ret)))⟩
theorem sf141 : sfOf Try.f141 = some s141 := by kernel_rfl
theorem hb141 : hasBody Try.prog 141 = true := by kernel_rfl
def s142 : SF := ⟨36, [.tmp 4], (.seq (R0 [Sk 4 (Kn 0)]) (.seq (.seq (R0 [Mv 9 0, Lq 10 9 41, Oo 11 (.move (Kn 0))]) (.block 0 (.loop (.seq (R0 [Bo 12 .lss 3 (Tm 11) (Tm 10) 3]) (.seq (.cond (Tm 12) .skip (.exit 0)) (.seq (.block 1 (.seq (R0 [Mv 13 11, Ix 14 41 9 11, Ld 15 3 14, Sg 5 13, Sg 6 15]) (.seq (.seq (R0 [Mv 16 5, Mv 17 1, Lq 18 17 41, Bo 19 .geq 3 (Tm 16) (Tm 18) 3]) (.cond (Tm 19) (.seq (R0 [Sk 4 (Kn 1)]) .ret) .skip)) (.seq (R0 [Mv 20 1, Mv 21 5, Ix 22 41 20 21, Ld 23 3 22, Sg 7 23]) (.seq (R0 [Mv 24 6, Mv 25 7, Cl 26 159 #[Tm 24, Tm 25] #[3, 3], Sg 8 26]) (.seq (R0 [Mv 27 8, Bo 28 .neq 3 (Tm 27) (Kn 0) 3]) (.cond (Tm 28) (.seq (R0 [Mv 29 8, Sg 4 29]) .ret) .skip))))))) (R0 [Bo 30 .add 3 (Tm 11) (Kn 1) 3, Mv 11 30]))))))) (.seq (.seq (R0 [Mv 31 0, Lq 32 31 41, Mv 33 1, Lq 34 33 41, Bo 35 .lss 3 (Tm 32) (Tm 34) 3]) (.cond (Tm 35) (.seq (R0 [Sk 4 (Kn (-1))]) .ret) .skip)) (.seq (R0 [Sk 4 (Kn 0)]) .ret))))⟩
theorem sf142 : sfOf Try.f142 = some s142 := by kernel_rfl
theorem hb142 : hasBody Try.prog 142 = true := by kernel_rfl
def s143 : SF := ⟨28, [.tmp 2], (.seq (R0 [Oo 1 (.box 63 (Tm 0)), Sk 2 (Kn 0)]) (.seq (.block 0 (.seq (.seq (R0 [Fa 4 63 1 0, Ld 5 60 4, Lq 6 5 60, Bo 7 .gtr 3 (Tm 6) (Kn 8) 3, Sg 3 7]) (.cond (Tm 3) .skip (R0 [Fa 8 63 1 1, Ld 9 61 8, Lq 10 9 61, Bo 11 .gtr 3 (Tm 10) (Kn 4) 3, Sg 3 11]))) (.cond (Tm 3) (.seq (R0 [Sk 2 (Kn 5)]) .ret) (.seq (.seq (R0 [Fa 13 63 1 0, Ld 14 60 13, Lq 15 14 60, Bo 16 .eql 3 (Tm 15) (Kn 0) 3, Sg 12 16]) (.cond (Tm 12) .skip (R0 [Fa 17 63 1 1, Ld 18 61 17, Lq 19 18 61, Bo 20 .eql 3 (Tm 19) (Kn 0) 3, Sg 12 20]))) (.cond (Tm 12) (.seq (R0 [Sk 2 (Kn 2)]) .ret) (.seq (.seq (R0 [Fa 22 63 1 0, Ld 23 60 22, Cl 24 160 #[Tm 23, .func 161] #[60, 266], Sg 21 24]) (.cond (Tm 21) .skip (R0 [Fa 25 63 1 1, Ld 26 61 25, Cl 27 163 #[Tm 26, .func 164] #[61, 268], Sg 21 27]))) (.cond (Tm 21) (.seq (R0 [Sk 2 (Kn 2)]) .ret) .skip))))))) (.seq (R0 [Sk 2 (Kn 0)]) .ret)))⟩
theorem sf143 : sfOf Try.f143 = some s143 := by kernel_rfl
theorem hb143 : hasBody Try.prog 143 = true := by kernel_rfl
def s144 : SF := ⟨19, [.tmp 2], (.seq (R0 [Oo 1 (.box 66 (Tm 0)), Sk 2 (Kb false)]) (.seq (R1 [Fa 3 66 1 1, Ld 4 41 3, Lq 5 4 41, Oo 6 (.buildSlice 41 1 #[(0, (Tm 5))]), Cl 7 60 #[Kn 1, Kn 2, Tm 6] #[3, 3, 41], Mv 8 7, Gf 9 66 1 0 8 true, Gl 10 41 9 8 true, Og 11 (.call { callee := .builtin .len, args := #[Tm 10], argTypes := #[41] }) 8 true, Gf 12 66 1 1 8 true, Gl 13 41 12 8 true, Og 14 (.call { callee := .builtin .len, args := #[Tm 13], argTypes := #[41] }) 8 true, Gc 15 145 #[Tm 14] #[3] 8 true, Og 16 (.call { callee := .builtin .len, args := #[Tm 15], argTypes := #[250] }) 8 true, Gb 17 .eql 3 (Tm 11) (Tm 16) 3 8 true, Pk 18 8 (Tm 17) (Kb false), Sg 2 18]) .ret))⟩
theorem sf144 : sfOf Try.f144 = some s144 := by kernel_rfl
theorem hb144 : hasBody Try.prog 144 = true := by kernel_rfl
def s145 : SF := ⟨13, [.tmp 2], (.seq (R0 [Oo 2 (.assign (.const (.slice none 0 0)))]) (.seq (R0 [Oo 4 (.buildSlice 250 1 #[(0, (Kn 1))]), Sg 3 4]) (.seq (.seq (R0 [Mv 5 0, Oo 6 (.move (Kn 0))]) (.block 0 (.loop (.seq (R0 [Bo 7 .lss 3 (Tm 6) (Tm 5) 3]) (.seq (.cond (Tm 7) .skip (.exit 0)) (.seq (.block 1 (R0 [Mv 8 3, Oo 9 (.buildSlice 250 2 #[(0, (Kn 2)), (1, (Kn 1))]), Oo 10 (.call { callee := .builtin .append, args := #[Tm 8, Tm 9], argTypes := #[250, 250] }), Sg 3 10])) (R0 [Bo 11 .add 3 (Tm 6) (Kn 1) 3, Mv 6 11]))))))) (.seq (R0 [Mv 12 3, Sg 2 12]) .ret))))⟩
theorem sf145 : sfOf Try.f145 = some s145 := by kernel_rfl
theorem hb145 : hasBody Try.prog 145 = true := by kernel_rfl
def s146 : SF := ⟨19, [.tmp 4], (.seq (R0 [Sk 4 (Kn 0)]) (.seq (.seq (R0 [Mv 6 0, Lq 7 6 41, Oo 8 (.move (Kn 0))]) (.block 0 (.loop (.seq (R0 [Bo 9 .lss 3 (Tm 8) (Tm 7) 3]) (.seq (.cond (Tm 9) .skip (.exit 0)) (.seq (.block 1 (.seq (R0 [Mv 10 8, Sg 5 10]) (.seq (R0 [Mv 11 1, Mv 12 0, Mv 13 5, Ix 14 41 12 13, Ld 15 3 14, Oo 16 (.call { callee := .value (Tm 11), args := #[Tm 15], argTypes := #[3] })]) (.cond (Tm 16) (.seq (R0 [Mv 17 5, Sg 4 17]) .ret) .skip)))) (R0 [Bo 18 .add 3 (Tm 8) (Kn 1) 3, Mv 8 18]))))))) (.seq (R0 [Sk 4 (Kn (-1))]) .ret)))⟩
theorem sf146 : sfOf Try.f146 = some s146 := by kernel_rfl
theorem hb146 : hasBody Try.prog 146 = true := by kernel_rfl
def s154 : SF := ⟨13, [.tmp 4], (.seq (R0 [Oo 2 (.box 155 (Tm 0)), Oo 4 (.assign (.const (.slice none 0 0)))]) (.seq (.seq (R0 [Mv 6 1]) (.block 0 (.rng (Tm 6) [7] (R0 [Sg 5 7]) (.block 1 (R0 [Ld 8 155 2, Mv 9 5, Oo 10 (.buildSlice 155 1 #[(0, (Tm 9))]), Oo 11 (.call { callee := .builtin .append, args := #[Tm 8, Tm 10], argTypes := #[155, 155] }), Sr 155 (Tm 2) (Tm 11)]))))) (.seq (R0 [Ld 12 155 2, Sg 4 12]) .ret)))⟩
theorem sf154 : sfOf Try.f154 = some s154 := by kernel_rfl
theorem hb154 : hasBody Try.prog 154 = true := by kernel_rfl
def o155_0 : SO := (Ld 26 41 1)
def o155_1 : SO := (Cl 27 157 #[Tm 26] #[41])
def o155_2 : SO := (Mv 28 4)
def o155_3 : SO := (Oo 29 (.buildSlice 41 1 #[(0, (Tm 28))]))
def o155_4 : SO := (Ld 25 148 2)
def o155_5 : SO := (Oo 30 (.call { callee := .builtin .append, args := #[Tm 27, Tm 29], argTypes := #[41, 41] }))
def o155_6 : SO := (Cl 31 131 #[Tm 25, Tm 30] #[148, 41])
def s155 : SF := ⟨38, [], (.seq (R0 [Oo 3 (.box 180 (Tm 0))]) (.seq (.seq (R0 [Ld 6 41 1, Lq 7 6 41, Fa 8 148 2 1, Ld 9 70 8, Lq 10 9 70, Bo 11 .eql 3 (Tm 7) (Tm 10) 3]) (.cond (Tm 11) (.seq (.seq (R0 [Ld 12 148 2, Ld 13 41 1, Cl 14 156 #[Tm 12, Tm 13] #[148, 41]]) (.cond (Tm 14) (R0 [Ld 15 180 3, Ld 16 41 1, Oo 17 (.call { callee := .value (Tm 15), args := #[Tm 16], argTypes := #[41] })]) .skip)) .ret) .skip)) (.seq (R0 [Fa 18 148 2 0, Fa 19 69 18 2, Ld 20 3 19, Bo 21 .add 3 (Tm 20) (Kn 1) 3, Oo 22 (.move (Kn 0))]) (.block 0 (.loop (.seq (R0 [Bo 23 .lss 3 (Tm 22) (Tm 21) 3]) (.seq (.cond (Tm 23) .skip (.exit 0)) (.seq (.block 1 (.seq (R0 [Mv 24 22, Sg 4 24]) (.seq (.ord (.op o155_0 (.op o155_1 (.op o155_2 (.op o155_3 (.alt (.op o155_4 (.op o155_5 (.op o155_6 .done))) (.op o155_5 (.op o155_4 (.op o155_6 .done))))))))) (.block 2 (.rng (Tm 31) [32] (R0 [Sg 5 32]) (.block 3 (.seq (R0 [Ld 33 180 3, Mv 34 5, Oo 35 (.call { callee := .value (Tm 33), args := #[Tm 34], argTypes := #[41] }), Oo 36 (.unOp .not 4 (Tm 35))]) (.cond (Tm 36) .ret .skip)))))))) (R0 [Bo 37 .add 3 (Tm 22) (Kn 1) 3, Mv 22 37])))))))))⟩
theorem sf155 : sfOf Try.f155 = some s155 := by kernel_rfl
theorem hb155 : hasBody Try.prog 155 = true := by kernel_rfl
def s156 : SF := ⟨48, [.tmp 4], (.seq (R0 [Oo 2 (.box 148 (Tm 0)), Sk 4 (Kb false)]) (.seq (R0 [Sk 5 (Kn 0), Sk 6 (Kn 0)]) (.seq (.seq (R0 [Mv 9 1, Lq 10 9 41, Oo 11 (.move (Kn 0))]) (.block 0 (.loop (.seq (R0 [Bo 12 .lss 3 (Tm 11) (Tm 10) 3]) (.seq (.cond (Tm 12) .skip (.exit 0)) (.seq (.block 1 (.seq (R0 [Ix 13 41 9 11, Ld 14 3 13, Sg 8 14]) (.seq (R0 [Mv 15 5, Mv 16 8, Bo 17 .add 3 (Tm 15) (Tm 16) 3, Sg 5 17]) (.seq (R0 [Mv 18 8, Bo 19 .gtr 3 (Tm 18) (Kn 0) 3]) (.cond (Tm 19) (R0 [Mv 20 6, Bo 21 .add 3 (Tm 20) (Kn 1) 3, Sg 6 21]) .skip))))) (R0 [Bo 22 .add 3 (Tm 11) (Kn 1) 3, Mv 11 22]))))))) (.seq (R1 [Fa 23 148 2 0, Fa 24 69 23 2, Ld 25 3 24, Mv 26 5, Oo 27 (.buildSlice 41 1 #[(0, (Tm 26))]), Cl 28 98 #[Kn 1, Tm 25, Tm 27] #[3, 3, 41], Mv 29 28, Gm 30 6 29 true, Gb 31 .leq 3 (Tm 30) (Kn 2) 3 29 true, Pk 32 29 (Tm 31) (Kb false), Mv 33 32, Gf 34 148 2 0 33 true, Gf 35 69 34 1 33 true, Gf 36 35 35 0 33 true, Gl 37 3 36 33 true, Gf 38 148 2 0 33 true, Gf 39 69 38 1 33 true, Gf 40 35 39 1 33 true, Gl 41 3 40 33 true, Gl 42 148 2 33 true, Gm 43 1 33 true, Gc 44 116 #[Tm 42, Tm 43] #[148, 41] 33 true, Og 45 (.buildSlice 41 1 #[(0, (Tm 44))]) 33 true, Gc 46 98 #[Tm 37, Tm 41, Tm 45] #[3, 3, 41] 33 true, Pk 47 33 (Tm 46) (Kb false), Sg 4 47]) .ret))))⟩
theorem sf156 : sfOf Try.f156 = some s156 := by kernel_rfl
theorem hb156 : hasBody Try.prog 156 = true := by kernel_rfl
def s157 : SF := ⟨9, [.tmp 2], (.seq (R0 [Oo 2 (.assign (.const (.slice none 0 0)))]) (.seq (R0 [Mv 3 0, Mv 4 0, Lq 5 4 41, Mv 6 0, Lq 7 6 41, Oo 8 (.slice 41 (Tm 3) none (some (Tm 5)) (some (Tm 7))), Sg 2 8]) .ret))⟩
theorem sf157 : sfOf Try.f157 = some s157 := by kernel_rfl
theorem hb157 : hasBody Try.prog 157 = true := by kernel_rfl
def s158 : SF := ⟨12, [.tmp 3], (.seq (R0 [Oo 2 (.box 145 (Tm 0)), Sk 3 (Kn 0)]) (.seq (R1 [Fa 4 145 2 1, Ld 5 3 4, Ld 6 244 1, Fa 7 145 2 3, Ld 8 35 7, Oo 9 (.call { callee := .value (Tm 6), args := #[Tm 8], argTypes := #[35] }), Bo 10 .add 3 (Kn 1000) (Tm 9) 3, Bo 11 .mul 3 (Tm 5) (Tm 10) 3, Sg 3 11]) .ret))⟩
theorem sf158 : sfOf Try.f158 = some s158 := by kernel_rfl
theorem hb158 : hasBody Try.prog 158 = true := by kernel_rfl
def s159 : SF := ⟨20, [.tmp 4], (.seq (R0 [Sk 4 (Kn 0)]) (.seq (R0 [Mv 7 0, Cl 8 170 #[Tm 7] #[3], Sg 5 8]) (.seq (R0 [Mv 9 1, Cl 10 170 #[Tm 9] #[3], Sg 6 10]) (.seq (.seq (R0 [Mv 11 5]) (.cond (Tm 11) (.seq (.seq (R0 [Mv 12 6]) (.cond (Tm 12) (.seq (R0 [Sk 4 (Kn 0)]) .ret) .skip)) (.seq (R0 [Sk 4 (Kn (-1))]) .ret)) .skip)) (.seq (.seq (R0 [Mv 13 6]) (.cond (Tm 13) (.seq (R0 [Sk 4 (Kn 1)]) .ret) .skip)) (.seq (.seq (R0 [Mv 14 0, Mv 15 1, Bo 16 .lss 3 (Tm 14) (Tm 15) 3]) (.cond (Tm 16) (.seq (R0 [Sk 4 (Kn (-1))]) .ret) .skip)) (.seq (.seq (R0 [Mv 17 0, Mv 18 1, Bo 19 .gtr 3 (Tm 17) (Tm 18) 3]) (.cond (Tm 19) (.seq (R0 [Sk 4 (Kn 1)]) .ret) .skip)) (.seq (R0 [Sk 4 (Kn 0)]) .ret))))))))⟩
theorem sf159 : sfOf Try.f159 = some s159 := by kernel_rfl
theorem hb159 : hasBody Try.prog 159 = true := by kernel_rfl
def s160 : SF := ⟨9, [.tmp 4], (.seq (R0 [Sk 4 (Kb false)]) (.seq (R0 [Mv 5 0, Mv 6 1, Cl 7 171 #[Tm 5, Tm 6] #[60, 266], Bo 8 .geq 3 (Tm 7) (Kn 0) 3, Sg 4 8]) .ret))⟩
theorem sf160 : sfOf Try.f160 = some s160 := by kernel_rfl
theorem hb160 : hasBody Try.prog 160 = true := by kernel_rfl
def s161 : SF := ⟨6, [.tmp 2], (.seq (R0 [Oo 1 (.box 145 (Tm 0)), Sk 2 (Kb false)]) (.seq (R0 [Ld 3 145 1, Cl 4 162 #[Tm 3] #[145], Oo 5 (.unOp .not 4 (Tm 4)), Sg 2 5]) .ret))⟩
theorem sf161 : sfOf Try.f161 = some s161 := by kernel_rfl
theorem hb161 : hasBody Try.prog 161 = true := by kernel_rfl
end Go.Dw.Seat
end
section
namespace Go.Dw.Seat
open Go Go.Dw Go.Proofs
def s162 : SF := ⟨39, [.tmp 2], (.seq (R0 [Oo 1 (.box 145 (Tm 0)), Sk 2 (Kb false)]) (.seq (R0 [Fa 3 145 1 0, Ld 4 143 3, Bo 5 .eql 143 (Tm 4) (Kn 1) 143, Mv 6 5, Gf 7 145 1 0 6 false, Gl 8 143 7 6 false, Gb 9 .eql 143 (Tm 8) (Kn 2) 143 6 false, Pk 10 6 (Kb true) (Tm 9), Mv 11 10, Gf 12 145 1 1 11 true, Gl 13 3 12 11 true, Og 14 (.buildSlice 41 1 #[(0, (Tm 13))]) 11 true, Gc 15 60 #[Kn 1, Kn 1000, Tm 14] #[3, 3, 41] 11 true, Pk 16 11 (Tm 15) (Kb false), Mv 17 16, Gf 18 145 1 2 17 true, Gl 19 35 18 17 true, Gc 20 172 #[Tm 19, Kn 1, Kn 1000] #[35, 3, 3] 17 true, Pk 21 17 (Tm 20) (Kb false), Mv 22 21, Gf 23 145 1 3 22 true, Gl 24 35 23 22 true, Gc 25 172 #[Tm 24, Kn 0, Kn 200] #[35, 3, 3] 22 true, Pk 26 22 (Tm 25) (Kb false), Mv 27 26, Gf 28 145 1 4 27 true, Gl 29 3 28 27 true, Og 30 (.buildSlice 41 1 #[(0, (Tm 29))]) 27 true, Gc 31 60 #[Kn 0, Kn 1000000, Tm 30] #[3, 3, 41] 27 true, Pk 32 27 (Tm 31) (Kb false), Mv 33 32, Gf 34 145 1 5 33 true, Gl 35 3 34 33 true, Og 36 (.buildSlice 41 1 #[(0, (Tm 35))]) 33 true, Gc 37 60 #[Kn 0, Kn 10000, Tm 36] #[3, 3, 41] 33 true, Pk 38 33 (Tm 37) (Kb false), Sg 2 38]) .ret))⟩
theorem sf162 : sfOf Try.f162 = some s162 := by kernel_rfl
theorem hb162 : hasBody Try.prog 162 = true := by kernel_rfl
def s163 : SF := ⟨9, [.tmp 4], (.seq (R0 [Sk 4 (Kb false)]) (.seq (R0 [Mv 5 0, Mv 6 1, Cl 7 173 #[Tm 5, Tm 6] #[61, 268], Bo 8 .geq 3 (Tm 7) (Kn 0) 3, Sg 4 8]) .ret))⟩
theorem sf163 : sfOf Try.f163 = some s163 := by kernel_rfl
theorem hb163 : hasBody Try.prog 163 = true := by kernel_rfl
def s164 : SF := ⟨6, [.tmp 2], (.seq (R0 [Oo 1 (.box 109 (Tm 0)), Sk 2 (Kb false)]) (.seq (R0 [Ld 3 109 1, Cl 4 165 #[Tm 3] #[109], Oo 5 (.unOp .not 4 (Tm 4)), Sg 2 5]) .ret))⟩
theorem sf164 : sfOf Try.f164 = some s164 := by kernel_rfl
theorem hb164 : hasBody Try.prog 164 = true := by kernel_rfl
def s165 : SF := ⟨23, [.tmp 2], (.seq (R0 [Oo 1 (.box 109 (Tm 0)), Sk 2 (Kb false)]) (.seq (R0 [Fa 3 109 1 0, Ld 4 3 3, Oo 5 (.buildSlice 41 1 #[(0, (Tm 4))]), Cl 6 60 #[Kn 1000, Kn 10000, Tm 5] #[3, 3, 41], Mv 7 6, Gf 8 109 1 0 7 true, Gl 9 3 8 7 true, Gf 10 109 1 0 7 true, Gl 11 3 10 7 true, Gb 12 .mul 3 (Kn 2) (Tm 11) 3 7 true, Gf 13 109 1 1 7 true, Gl 14 3 13 7 true, Og 15 (.buildSlice 41 1 #[(0, (Tm 14))]) 7 true, Gc 16 60 #[Tm 9, Tm 12, Tm 15] #[3, 3, 41] 7 true, Pk 17 7 (Tm 16) (Kb false), Mv 18 17, Gf 19 109 1 2 18 true, Gl 20 35 19 18 true, Gc 21 172 #[Tm 20, Kn 1, Kn 10000] #[35, 3, 3] 18 true, Pk 22 18 (Tm 21) (Kb false), Sg 2 22]) .ret))⟩
theorem sf165 : sfOf Try.f165 = some s165 := by kernel_rfl
theorem hb165 : hasBody Try.prog 165 = true := by kernel_rfl
def s170 : SF := ⟨6, [.tmp 2], (.seq (R0 [Sk 2 (Kb false)]) (.seq (R0 [Mv 3 0, Mv 4 0, Bo 5 .neq 3 (Tm 3) (Tm 4) 3, Sg 2 5]) .ret))⟩
theorem sf170 : sfOf Try.f170 = some s170 := by kernel_rfl
theorem hb170 : hasBody Try.prog 170 = true := by kernel_rfl
def s171 : SF := ⟨19, [.tmp 4], (.seq (R0 [Sk 4 (Kn 0)]) (.seq (.seq (R0 [Mv 6 0, Lq 7 6 60, Oo 8 (.move (Kn 0))]) (.block 0 (.loop (.seq (R0 [Bo 9 .lss 3 (Tm 8) (Tm 7) 3]) (.seq (.cond (Tm 9) .skip (.exit 0)) (.seq (.block 1 (.seq (R0 [Mv 10 8, Sg 5 10]) (.seq (R0 [Mv 11 1, Mv 12 0, Mv 13 5, Ix 14 60 12 13, Ld 15 145 14, Oo 16 (.call { callee := .value (Tm 11), args := #[Tm 15], argTypes := #[145] })]) (.cond (Tm 16) (.seq (R0 [Mv 17 5, Sg 4 17]) .ret) .skip)))) (R0 [Bo 18 .add 3 (Tm 8) (Kn 1) 3, Mv 8 18]))))))) (.seq (R0 [Sk 4 (Kn (-1))]) .ret)))⟩
theorem sf171 : sfOf Try.f171 = some s171 := by kernel_rfl
theorem hb171 : hasBody Try.prog 171 = true := by kernel_rfl
def s172 : SF := ⟨22, [.tmp 6], (.seq (R0 [Oo 3 (.box 35 (Tm 0)), Sk 6 (Kb false)]) (.seq (R0 [Mv 7 1, Mv 8 2, Fa 9 35 3 0, Ld 10 3 9, Fa 11 35 3 1, Ld 12 3 11, Oo 13 (.buildSlice 41 2 #[(0, (Tm 10)), (1, (Tm 12))]), Cl 14 60 #[Tm 7, Tm 8, Tm 13] #[3, 3, 41], Mv 15 14, Gf 16 35 3 0 15 true, Gl 17 3 16 15 true, Gf 18 35 3 1 15 true, Gl 19 3 18 15 true, Gb 20 .leq 3 (Tm 17) (Tm 19) 3 15 true, Pk 21 15 (Tm 20) (Kb false), Sg 6 21]) .ret))⟩
theorem sf172 : sfOf Try.f172 = some s172 := by kernel_rfl
theorem hb172 : hasBody Try.prog 172 = true := by kernel_rfl
def s173 : SF := ⟨19, [.tmp 4], (.seq (R0 [Sk 4 (Kn 0)]) (.seq (.seq (R0 [Mv 6 0, Lq 7 6 61, Oo 8 (.move (Kn 0))]) (.block 0 (.loop (.seq (R0 [Bo 9 .lss 3 (Tm 8) (Tm 7) 3]) (.seq (.cond (Tm 9) .skip (.exit 0)) (.seq (.block 1 (.seq (R0 [Mv 10 8, Sg 5 10]) (.seq (R0 [Mv 11 1, Mv 12 0, Mv 13 5, Ix 14 61 12 13, Ld 15 109 14, Oo 16 (.call { callee := .value (Tm 11), args := #[Tm 15], argTypes := #[109] })]) (.cond (Tm 16) (.seq (R0 [Mv 17 5, Sg 4 17]) .ret) .skip)))) (R0 [Bo 18 .add 3 (Tm 8) (Kn 1) 3, Mv 8 18]))))))) (.seq (R0 [Sk 4 (Kn (-1))]) .ret)))⟩
theorem sf173 : sfOf Try.f173 = some s173 := by kernel_rfl
theorem hb173 : hasBody Try.prog 173 = true := by kernel_rfl
end Go.Dw.Seat
end
section
namespace Go.Dw.Seat
open Go Go.Dw Go.Proofs Go.IntWalk
theorem qA : type_of% @DW.seq := @DW.seq
theorem qB : type_of% @DW.block := @DW.block
theorem qC : type_of% @DW.skip := @DW.skip
theorem qD : type_of% @DW.exit := @DW.exit
theorem qE : type_of% @DW.ret := @DW.ret
theorem qF : type_of% @DW.reg := @DW.reg
theorem qG : type_of% @DW.cond_tt := @DW.cond_tt
theorem qH : type_of% @DW.cond_ff := @DW.cond_ff
theorem qI : type_of% @DW.cond := @DW.cond
theorem qJ : type_of% @g_split := @g_split
theorem qK : type_of% @call_c := @call_c
theorem qL : type_of% @DW.dreg := @DW.dreg
theorem qM : type_of% @retS_of := @retS_of
theorem qN : type_of% @bm_box := @bm_box
theorem qO : type_of% @bm_row := @bm_row
theorem qP : type_of% @bk_box := @bk_box
theorem qQ : type_of% @bk_row := @bk_row
theorem qR : type_of% @wkT_cons := @wkT_cons
theorem qS : type_of% @wkX_cons := @wkX_cons
theorem qTw : type_of% @wkT_nil := @wkT_nil
theorem qU : type_of% @wkX_nil := @wkX_nil
theorem qV : type_of% @ex_some := @ex_some
theorem qW : type_of% @wk_self := @wk_self
theorem qX : type_of% @wk_top := @wk_top
theorem qY : type_of% @wk_nil := @wk_nil
theorem qZ : type_of% @wkB_self := @wkB_self
theorem rA : type_of% @Int.natCast_add := @Int.natCast_add
theorem rB : type_of% @Int.natCast_one := @Int.natCast_one
theorem rC : type_of% @Int.ofNat_zero := @Int.ofNat_zero
theorem rD : type_of% @Int.natCast_zero := @Int.natCast_zero
theorem rE : type_of% @IntWalk.i64_in := @IntWalk.i64_in
theorem rF : type_of% @List.map_cons := @List.map_cons
theorem rG : type_of% @List.map_nil := @List.map_nil
end Go.Dw.Seat
end
section
set_option linter.unusedSimpArgs false
set_option maxRecDepth 100000
namespace Go.Dw.Seat.Tr
open Go Go.Dw Go.Proofs Go.IntWalk
theorem c122 (b : Bool) (l : List (Int)) (hl : l.length ≤ 2 ^ 36) (g : FuncId) (fs caps : List C) (p : Int → Bool) (hp : ∀ x ∈ l, DCall Try.prog g (fs.map D.c ++ [dI x] ++ caps.map D.c) [] (bD (p x)) []) : DCall Try.prog 146 [.c (.sl b 1 (rows eI l)), .c (.fn (.func g) fs caps)] [] (dI (idxI p l)) [] := by
 refine DCall.of Try.func146 sf146 hb146 (Nat.le_of_ble_eq_true rfl) (okRes_nil fun _ => rfl) ?_; simp only [s146, idxs, Nat.reduceAdd]
 repeat' (first|(with_reducible first|apply qA|apply qB|apply qC|apply qD|apply qE|apply qF)|(simp (disch:=omega) only [go_sem, simprocAttr, Blk.men, Blk.keysIn])|exact qM rfl rfl rfl|(refine qG rfl ?_)|(refine qH rfl ?_)|(refine qI rfl ?_ ?_<;>intro hc<;>(try simp only [go_sem] at hc))|(refine qJ ?_ ?_<;>intro hc<;>(try simp only [hc])<;>(try simp only [go_sem] at hc)))
 refine DW.loop (ι := { i : Nat // i ≤ l.length ∧ ∀ j u, j < i → l[j]? = some u → p u = false }) (fun i => ⟨19, [(8, dI i.1), (7, dI l.length), (1, .c (.fn (.func g) fs caps)), (0, .c (.sl b 1 (rows eI l)))], []⟩) (fun i => l.length - i.1) ⟨0, Nat.zero_le _, fun j u h => by omega⟩ ?_ ?_
 ·refine Ent.to ?_ ?_ <;> simp (disch:=omega) only [qR,qS,qTw,qU,get,Nat.reduceEqDiff,↓reduceIte,qV,qW,qX,qY,qZ,and_self,dI,i64_in,and_true,true_and,rA,rB,rC,rD]
 rintro ⟨i, hi, hij⟩
 rcases at_or l i hi with ⟨v, hv, hlt, hd⟩ | ⟨he, hd⟩
 ·have hcall := hp v (List.mem_of_getElem? hv)
  repeat' (first|(with_reducible first|apply qA|apply qB|apply qC|apply qD|apply qE|apply qF)|(simp (disch:=omega) only [go_sem, simprocAttr, Blk.men, Blk.keysIn, hd, hv, closeDs_fn, rF, rG])|exact qM rfl rfl rfl|(refine qG rfl ?_)|(refine qH rfl ?_)|(refine qI rfl ?_ ?_<;>intro hc<;>(try simp only [go_sem] at hc))|(refine qJ ?_ ?_<;>intro hc<;>(try simp only [hc])<;>(try simp only [go_sem] at hc)))
  refine call_c hcall (by decide) ?_
  simp (disch:=omega) only [go_sem,simprocAttr,Blk.men,Blk.keysIn]
  refine DW.cond rfl ?_ ?_ <;> intro hc
  ·repeat' (first|(with_reducible first|apply qA|apply qB|apply qC|apply qD|apply qE|apply qF)|(simp (disch:=omega) only [go_sem, simprocAttr, Blk.men, Blk.keysIn])|exact qM rfl rfl rfl|(refine qG rfl ?_)|(refine qH rfl ?_)|(refine qI rfl ?_ ?_<;>intro hc<;>(try simp only [go_sem] at hc))|(refine qJ ?_ ?_<;>intro hc<;>(try simp only [hc])<;>(try simp only [go_sem] at hc)))
   refine retS_of rfl ?_ rfl; simp only [oneD, St.op, get, Nat.reduceEqDiff, ↓reduceIte, Option.getD_some, bD, dI]
   simp only [idxI, idxOf_some hij hv hc]
  ·repeat' (first|(with_reducible first|apply qA|apply qB|apply qC|apply qD|apply qE|apply qF)|(simp (disch:=omega) only [go_sem, simprocAttr, Blk.men, Blk.keysIn])|exact qM rfl rfl rfl|(refine qG rfl ?_)|(refine qH rfl ?_)|(refine qI rfl ?_ ?_<;>intro hc<;>(try simp only [go_sem] at hc))|(refine qJ ?_ ?_<;>intro hc<;>(try simp only [hc])<;>(try simp only [go_sem] at hc)))
   refine ⟨⟨i + 1, by omega, fun j u hj hu => by
    rcases Nat.lt_or_ge j i with h | h
    ·exact hij j u h hu
    ·have : j = i := by omega
     subst this
     rw [hv] at hu; cases hu; exact hc⟩, ?_, Ent.to ?_ ?_⟩ <;> first | (show _ < _; (try simp only); omega) | (simp (disch:=omega) only [qR,qS,qTw,qU,get,Nat.reduceEqDiff,↓reduceIte,qV,qW,qX,qY,qZ,and_self,dI,i64_in,and_true,true_and,rA,rB,rC,rD])
 ·repeat' (first|(with_reducible first|apply qA|apply qB|apply qC|apply qD|apply qE|apply qF)|(simp (disch:=omega) only [go_sem, simprocAttr, Blk.men, Blk.keysIn, hd])|exact qM rfl rfl rfl|(refine qG rfl ?_)|(refine qH rfl ?_)|(refine qI rfl ?_ ?_<;>intro hc<;>(try simp only [go_sem] at hc))|(refine qJ ?_ ?_<;>intro hc<;>(try simp only [hc])<;>(try simp only [go_sem] at hc)))
  refine retS_of rfl ?_ rfl; simp only [oneD, St.op, get, Nat.reduceEqDiff, ↓reduceIte, Option.getD_some, bD, dI]
  simp only [idxI, idxOf_none (he ▸ hij)]
theorem c110 (b : Bool) (l : List (Int)) (hl : l.length ≤ 2 ^ 36) (g : FuncId) (fs caps : List C) (p : Int → Bool) (hp : ∀ x ∈ l, DCall Try.prog g (fs.map D.c ++ [dI x] ++ caps.map D.c) [] (bD (p x)) []) : DCall Try.prog 109 [.c (.sl b 1 (rows eI l)), .c (.fn (.func g) fs caps)] [] (bD (l.any p)) [] := by
 refine DCall.of Try.func109 sf109 hb109 (Nat.le_of_ble_eq_true rfl) (okRes_nil fun _ => rfl) ?_; simp only [s109, idxs, Nat.reduceAdd]
 repeat' (first|(with_reducible first|apply qA|apply qB|apply qC|apply qD|apply qE|apply qF)|(simp (disch:=omega) only [go_sem, simprocAttr, Blk.men, Blk.keysIn])|exact qM rfl rfl rfl|(refine qG rfl ?_)|(refine qH rfl ?_)|(refine qI rfl ?_ ?_<;>intro hc<;>(try simp only [go_sem] at hc))|(refine qJ ?_ ?_<;>intro hc<;>(try simp only [hc])<;>(try simp only [go_sem] at hc)))
 refine call_c (c122 b l hl g fs caps p hp) (by decide) ?_
 repeat' (first|(with_reducible first|apply qA|apply qB|apply qC|apply qD|apply qE|apply qF)|(simp (disch:=omega) only [go_sem, simprocAttr, Blk.men, Blk.keysIn])|exact qM rfl rfl rfl|(refine qG rfl ?_)|(refine qH rfl ?_)|(refine qI rfl ?_ ?_<;>intro hc<;>(try simp only [go_sem] at hc))|(refine qJ ?_ ?_<;>intro hc<;>(try simp only [hc])<;>(try simp only [go_sem] at hc)))
 refine retS_of rfl ?_ rfl; simp only [oneD, St.op, get, Nat.reduceEqDiff, ↓reduceIte, Option.getD_some, bD, dI]
 rw [idxI_any]
def wthn (lo hi : Int) (l : List Int) : Bool := !(l.any fun n => decide (n < lo) || decide (hi < n))
theorem wthn_one {lo hi n : Int} (h : wthn lo hi [n] = true) : lo ≤ n ∧ n ≤ hi := by
 simp [wthn] at h; omega
theorem trW1 (n lo hi : Int) (p q : Bool) : DCall Try.prog 128 [dI n, .c (.ro p [.v (.int .i64 lo)] 0), .c (.ro q [.v (.int .i64 hi)] 0)] [] (bD (decide (n < lo) || decide (hi < n))) [] := by
 refine DCall.of Try.func128 sf128 hb128 (Nat.le_of_ble_eq_true rfl) (okRes_nil fun _ => rfl) ?_; simp only [s128, idxs, Nat.reduceAdd]
 repeat' (first|(with_reducible first|apply qA|apply qB|apply qC|apply qD|apply qE|apply qF)|(simp (disch:=omega) only [go_sem, simprocAttr, Blk.men, Blk.keysIn])|exact qM rfl rfl rfl|(refine qG rfl ?_)|(refine qH rfl ?_)|(refine qI rfl ?_ ?_<;>intro hc<;>(try simp only [go_sem] at hc))|(refine qJ ?_ ?_<;>intro hc<;>(try simp only [hc])<;>(try simp only [go_sem] at hc)))
theorem trWithin (b : Bool) (lo hi : Int) (l : List Int) (hl : l.length ≤ 2 ^ 36) : DCall Try.prog 98 [dI lo, dI hi, dIs b l] [] (bD (wthn lo hi l)) [] := by
 refine DCall.of Try.func98 sf98 hb98 (Nat.le_of_ble_eq_true rfl) (okRes_nil fun _ => rfl) ?_; simp only [s98, idxs, Nat.reduceAdd]
 repeat' (first|(with_reducible first|apply qA|apply qB|apply qC|apply qD|apply qE|apply qF)|(simp (disch:=omega) only [go_sem, simprocAttr, Blk.men, Blk.keysIn])|exact qM rfl rfl rfl|(refine qG rfl ?_)|(refine qH rfl ?_)|(refine qI rfl ?_ ?_<;>intro hc<;>(try simp only [go_sem] at hc))|(refine qJ ?_ ?_<;>intro hc<;>(try simp only [hc])<;>(try simp only [go_sem] at hc)))
 (refine call_c (c110 b l hl 128 [] [.ro true [.v (.int .i64 lo)] 0, .ro true [.v (.int .i64 hi)] 0] (fun n => decide (n < lo) || decide (hi < n)) (fun x _ => trW1 x lo hi true true)) (by decide) ?_; simp (disch:=omega) only [go_sem,simprocAttr,Blk.men,Blk.keysIn])
 repeat' (first|(with_reducible first|apply qA|apply qB|apply qC|apply qD|apply qE|apply qF)|(simp (disch:=omega) only [go_sem, simprocAttr, Blk.men, Blk.keysIn])|exact qM rfl rfl rfl|(refine qG rfl ?_)|(refine qH rfl ?_)|(refine qI rfl ?_ ?_<;>intro hc<;>(try simp only [go_sem] at hc))|(refine qJ ?_ ?_<;>intro hc<;>(try simp only [hc])<;>(try simp only [go_sem] at hc)))
theorem wthn_yes {lo hi : Int} {l : List Int} (h : ∀ v ∈ l, lo ≤ v ∧ v ≤ hi) : wthn lo hi l = true := by
 simp only [wthn, Bool.not_eq_true', List.any_eq_false, Bool.or_eq_true, decide_eq_true_eq]
 intro v hv
 have := h v hv
 omega
theorem wthn_all {lo hi : Int} {l : List Int} (h : wthn lo hi l = true) : ∀ v ∈ l, lo ≤ v ∧ v ≤ hi := by
 simp only [wthn, Bool.not_eq_true', List.any_eq_false, Bool.or_eq_true, decide_eq_true_eq] at h
 intro v hv
 have := h v hv
 omega
theorem wthn_two {lo hi a b : Int} (h : wthn lo hi [a, b] = true) : (lo ≤ a ∧ a ≤ hi) ∧ lo ≤ b ∧ b ≤ hi :=
 ⟨wthn_all h a (by simp), wthn_all h b (by simp)⟩
def spanOk (lo hi least most : Int) : Bool := wthn least most [lo, hi] && decide (lo ≤ hi)
theorem spanOk_yes {lo hi least most : Int} (h : least ≤ lo ∧ lo ≤ hi ∧ hi ≤ most) : spanOk lo hi least most = true := by
 unfold spanOk
 rw [wthn_yes (by simp; omega), decide_eq_true h.2.1]; rfl
theorem spanOk_all {lo hi least most : Int} (h : spanOk lo hi least most = true) : least ≤ lo ∧ lo ≤ hi ∧ hi ≤ most := by
 simp only [spanOk, Bool.and_eq_true, decide_eq_true_eq] at h
 have := wthn_two h.1
 omega
theorem crSpanG (lo hi least most : Int) : DCall Try.prog 99 [.agg [dI lo, dI hi], dI least, dI most] [] (bD (spanOk lo hi least most)) [] := by
 have h1 := trWithin true least most [lo, hi] (by simp)
 unfold spanOk
 cases h : wthn least most [lo, hi] <;> rw [h] at h1 <;> simp only [Bool.true_and, Bool.false_and]
 ·refine DCall.of Try.func99 sf99 hb99 (Nat.le_of_ble_eq_true rfl) (okRes_nil fun _ => rfl) ?_; simp only [s99, idxs, Nat.reduceAdd]
  repeat' (first|(with_reducible first|apply qA|apply qB|apply qC|apply qD|apply qE|apply qF)|(simp (disch:=omega) only [go_sem, simprocAttr, Blk.men, Blk.keysIn])|exact qM rfl rfl rfl|(refine qG rfl ?_)|(refine qK (h1) (by decide) ?_)|(refine qH rfl ?_)|(refine qI rfl ?_ ?_<;>intro hc<;>(try simp only [go_sem] at hc))|(refine qJ ?_ ?_<;>intro hc<;>(try simp only [hc])<;>(try simp only [go_sem] at hc)))
 ·refine DCall.of Try.func99 sf99 hb99 (Nat.le_of_ble_eq_true rfl) (okRes_nil fun _ => rfl) ?_; simp only [s99, idxs, Nat.reduceAdd]
  repeat' (first|(with_reducible first|apply qA|apply qB|apply qC|apply qD|apply qE|apply qF)|(simp (disch:=omega) only [go_sem, simprocAttr, Blk.men, Blk.keysIn])|exact qM rfl rfl rfl|(refine qG rfl ?_)|(refine qK (h1) (by decide) ?_)|(refine qH rfl ?_)|(refine qI rfl ?_ ?_<;>intro hc<;>(try simp only [go_sem] at hc))|(refine qJ ?_ ?_<;>intro hc<;>(try simp only [hc])<;>(try simp only [go_sem] at hc)))
end Go.Dw.Seat.Tr
end
section
set_option linter.unusedSimpArgs false
set_option maxRecDepth 100000
namespace Go.Dw.Seat.Tr
open Go Go.Dw Go.Proofs Go.IntWalk
theorem crNaN (a : Int) : DCall Try.prog 170 [dI a] [] (bD false) [] := by
 refine DCall.of Try.func170 sf170 hb170 (Nat.le_of_ble_eq_true rfl) (okRes_nil fun _ => rfl) ?_; simp only [s170, idxs, Nat.reduceAdd]
 repeat' (first|(with_reducible first|apply qA|apply qB|apply qC|apply qD|apply qE|apply qF)|(simp (disch:=omega) only [go_sem, simprocAttr, Blk.men, Blk.keysIn])|exact qM rfl rfl rfl|(refine qG rfl ?_)|(refine qH rfl ?_)|(refine qI rfl ?_ ?_<;>intro hc<;>(try simp only [go_sem] at hc))|(refine qJ ?_ ?_<;>intro hc<;>(try simp only [hc])<;>(try simp only [go_sem] at hc)))
def cmpI (a b : Int) : Int := if a < b then -1 else if b < a then 1 else 0
theorem crCmp (a b : Int) : DCall Try.prog 159 [dI a, dI b] [] (dI (cmpI a b)) [] := by
 have h1 := crNaN a
 have h2 := crNaN b
 by_cases hab : a < b
 ·have d1 : decide (a < b) = true := decide_eq_true hab
  have e : cmpI a b = -1 := if_pos hab
  rw [e]
  refine DCall.of Try.func159 sf159 hb159 (Nat.le_of_ble_eq_true rfl) (okRes_nil fun _ => rfl) ?_; simp only [s159, idxs, Nat.reduceAdd]
  repeat' (first|(with_reducible first|apply qA|apply qB|apply qC|apply qD|apply qE|apply qF)|(simp (disch:=omega) only [go_sem, simprocAttr, Blk.men, Blk.keysIn, d1])|exact qM rfl rfl rfl|(refine qG rfl ?_)|(refine qK (h1) (by decide) ?_)|(refine qK (h2) (by decide) ?_)|(refine qH rfl ?_)|(refine qI rfl ?_ ?_<;>intro hc<;>(try simp only [go_sem] at hc))|(refine qJ ?_ ?_<;>intro hc<;>(try simp only [hc])<;>(try simp only [go_sem] at hc)))
 have d1 : decide (a < b) = false := decide_eq_false hab
 by_cases hba : b < a
 ·have d2 : decide (b < a) = true := decide_eq_true hba
  have e : cmpI a b = 1 := by rw [cmpI, if_neg hab, if_pos hba]
  rw [e]
  refine DCall.of Try.func159 sf159 hb159 (Nat.le_of_ble_eq_true rfl) (okRes_nil fun _ => rfl) ?_; simp only [s159, idxs, Nat.reduceAdd]
  repeat' (first|(with_reducible first|apply qA|apply qB|apply qC|apply qD|apply qE|apply qF)|(simp (disch:=omega) only [go_sem, simprocAttr, Blk.men, Blk.keysIn, d1, d2])|exact qM rfl rfl rfl|(refine qG rfl ?_)|(refine qK (h1) (by decide) ?_)|(refine qK (h2) (by decide) ?_)|(refine qH rfl ?_)|(refine qI rfl ?_ ?_<;>intro hc<;>(try simp only [go_sem] at hc))|(refine qJ ?_ ?_<;>intro hc<;>(try simp only [hc])<;>(try simp only [go_sem] at hc)))
 ·have d2 : decide (b < a) = false := decide_eq_false hba
  have e : cmpI a b = 0 := by rw [cmpI, if_neg hab, if_neg hba]
  rw [e]
  refine DCall.of Try.func159 sf159 hb159 (Nat.le_of_ble_eq_true rfl) (okRes_nil fun _ => rfl) ?_; simp only [s159, idxs, Nat.reduceAdd]
  repeat' (first|(with_reducible first|apply qA|apply qB|apply qC|apply qD|apply qE|apply qF)|(simp (disch:=omega) only [go_sem, simprocAttr, Blk.men, Blk.keysIn, d1, d2])|exact qM rfl rfl rfl|(refine qG rfl ?_)|(refine qK (h1) (by decide) ?_)|(refine qK (h2) (by decide) ?_)|(refine qH rfl ?_)|(refine qI rfl ?_ ?_<;>intro hc<;>(try simp only [go_sem] at hc))|(refine qJ ?_ ?_<;>intro hc<;>(try simp only [hc])<;>(try simp only [go_sem] at hc)))
def cmpL : List Int → List Int → Int
 | [], [] => 0
 | [], _ :: _ => -1
 | _ :: _, [] => 1
 | a :: s, b :: t => if cmpI a b = 0 then cmpL s t else cmpI a b
theorem drop_cons {α : Type} {l : List α} {i : Nat} {v : α} (h : l[i]? = some v) : l.drop i = v :: l.drop (i + 1) := by
 have hlt := (List.getElem?_eq_some_iff.1 h).1
 have e : l[i] = v := (List.getElem?_eq_some_iff.1 h).2
 rw [← e]; exact List.drop_eq_getElem_cons hlt
theorem crCmpL (b1 b2 : Bool) (s t : List Int) (hs : s.length ≤ 2 ^ 36) (ht : t.length ≤ 2 ^ 36) : DCall Try.prog 142 [dIs b1 s, dIs b2 t] [] (dI (cmpL s t)) [] := by
 generalize hR : cmpL s t = R
 refine DCall.of Try.func142 sf142 hb142 (Nat.le_of_ble_eq_true rfl) (okRes_nil fun _ => rfl) ?_; simp only [s142, idxs, Nat.reduceAdd]
 repeat' (first|(with_reducible first|apply qA|apply qB|apply qC|apply qD|apply qE|apply qF)|(simp (disch:=omega) only [go_sem, simprocAttr, Blk.men, Blk.keysIn])|exact qM rfl rfl rfl|(refine qG rfl ?_)|(refine qH rfl ?_)|(refine qI rfl ?_ ?_<;>intro hc<;>(try simp only [go_sem] at hc))|(refine qJ ?_ ?_<;>intro hc<;>(try simp only [hc])<;>(try simp only [go_sem] at hc)))
 refine DW.loop (ι := { i : Nat // i ≤ s.length ∧ i ≤ t.length ∧ cmpL (s.drop i) (t.drop i) = R }) (fun i => ⟨36, [(11, dI i.1), (10, dI s.length), (9, dIs b1 s), (1, dIs b2 t), (0, dIs b1 s)], []⟩) (fun i => s.length - i.1) ⟨0, Nat.zero_le _, Nat.zero_le _, hR⟩ ?_ ?_
 ·refine Ent.to ?_ ?_ <;> simp (disch:=omega) only [qR,qS,qTw,qU,get,Nat.reduceEqDiff,↓reduceIte,qV,qW,qX,qY,qZ,and_self,dI,i64_in,and_true,true_and,rA,rB,rC,rD]
 rintro ⟨i, hi, hit, hr⟩
 rcases at_or s i hi with ⟨v, hv, hlt, hd⟩ | ⟨he, hd⟩
 ·rw [drop_cons hv] at hr
  rcases Nat.lt_or_ge i t.length with hlt2 | hge
  ·obtain ⟨u, hu⟩ := getE (l := t) (i := i) hlt2
   have hdt : decide ((t.length : Int) ≤ (i : Int)) = false := by rw [decide_eq_false_iff_not]; omega
   have hc := crCmp v u
   rw [drop_cons hu, cmpL] at hr
   by_cases h0 : cmpI v u = 0
   ·have e : (cmpI v u != 0) = false := by rw [h0]; rfl
    rw [if_pos h0] at hr
    repeat' (first|(with_reducible first|apply qA|apply qB|apply qC|apply qD|apply qE|apply qF)|(simp (disch:=omega) only [go_sem, simprocAttr, Blk.men, Blk.keysIn, hd, hv, hdt, hu, e])|exact qM rfl rfl rfl|(refine qG rfl ?_)|(refine qK (hc) (by decide) ?_)|(refine qH rfl ?_)|(refine qI rfl ?_ ?_<;>intro hc<;>(try simp only [go_sem] at hc))|(refine qJ ?_ ?_<;>intro hc<;>(try simp only [hc])<;>(try simp only [go_sem] at hc)))
    refine ⟨⟨i + 1, hlt, hlt2, hr⟩, ?_, Ent.to ?_ ?_⟩ <;> first | (show _ < _; (try simp only); omega) | (simp (disch:=omega) only [qR,qS,qTw,qU,get,Nat.reduceEqDiff,↓reduceIte,qV,qW,qX,qY,qZ,and_self,dI,i64_in,and_true,true_and,rA,rB,rC,rD])
   ·have e : (cmpI v u != 0) = true := by simpa using h0
    rw [if_neg h0] at hr
    repeat' (first|(with_reducible first|apply qA|apply qB|apply qC|apply qD|apply qE|apply qF)|(simp (disch:=omega) only [go_sem, simprocAttr, Blk.men, Blk.keysIn, hd, hv, hdt, hu, e])|exact qM rfl rfl rfl|(refine qG rfl ?_)|(refine qK (hc) (by decide) ?_)|(refine qH rfl ?_)|(refine qI rfl ?_ ?_<;>intro hc<;>(try simp only [go_sem] at hc))|(refine qJ ?_ ?_<;>intro hc<;>(try simp only [hc])<;>(try simp only [go_sem] at hc)))
    refine retS_of rfl ?_ rfl; simp only [oneD, St.op, get, Nat.reduceEqDiff, ↓reduceIte, Option.getD_some, bD, dI]
    rw [← hr]
  ·have hdt : decide ((t.length : Int) ≤ (i : Int)) = true := by rw [decide_eq_true_eq]; omega
   rw [List.drop_of_length_le hge, cmpL] at hr
   repeat' (first|(with_reducible first|apply qA|apply qB|apply qC|apply qD|apply qE|apply qF)|(simp (disch:=omega) only [go_sem, simprocAttr, Blk.men, Blk.keysIn, hd, hv, hdt])|exact qM rfl rfl rfl|(refine qG rfl ?_)|(refine qH rfl ?_)|(refine qI rfl ?_ ?_<;>intro hc<;>(try simp only [go_sem] at hc))|(refine qJ ?_ ?_<;>intro hc<;>(try simp only [hc])<;>(try simp only [go_sem] at hc)))
   refine retS_of rfl ?_ rfl; simp only [oneD, St.op, get, Nat.reduceEqDiff, ↓reduceIte, Option.getD_some, bD, dI]
   rw [← hr]
 ·rw [List.drop_of_length_le (by omega : s.length ≤ i)] at hr
  rcases Nat.lt_or_ge s.length t.length with h1 | h1
  ·have hdl : decide ((s.length : Int) < (t.length : Int)) = true := by rw [decide_eq_true_eq]; omega
   obtain ⟨u, hu⟩ := getE (l := t) (i := i) (by omega)
   rw [drop_cons hu, cmpL] at hr
   repeat' (first|(with_reducible first|apply qA|apply qB|apply qC|apply qD|apply qE|apply qF)|(simp (disch:=omega) only [go_sem, simprocAttr, Blk.men, Blk.keysIn, hd, hdl])|exact qM rfl rfl rfl|(refine qG rfl ?_)|(refine qH rfl ?_)|(refine qI rfl ?_ ?_<;>intro hc<;>(try simp only [go_sem] at hc))|(refine qJ ?_ ?_<;>intro hc<;>(try simp only [hc])<;>(try simp only [go_sem] at hc)))
   refine retS_of rfl ?_ rfl; simp only [oneD, St.op, get, Nat.reduceEqDiff, ↓reduceIte, Option.getD_some, bD, dI]
   rw [← hr]
  ·have hdl : decide ((s.length : Int) < (t.length : Int)) = false := by rw [decide_eq_false_iff_not]; omega
   rw [List.drop_of_length_le (by omega : t.length ≤ i), cmpL] at hr
   repeat' (first|(with_reducible first|apply qA|apply qB|apply qC|apply qD|apply qE|apply qF)|(simp (disch:=omega) only [go_sem, simprocAttr, Blk.men, Blk.keysIn, hd, hdl])|exact qM rfl rfl rfl|(refine qG rfl ?_)|(refine qH rfl ?_)|(refine qI rfl ?_ ?_<;>intro hc<;>(try simp only [go_sem] at hc))|(refine qJ ?_ ?_<;>intro hc<;>(try simp only [hc])<;>(try simp only [go_sem] at hc)))
   refine retS_of rfl ?_ rfl; simp only [oneD, St.op, get, Nat.reduceEqDiff, ↓reduceIte, Option.getD_some, bD, dI]
   rw [← hr]
theorem c106 (b : Bool) (l : List Int) (hl : l.length ≤ 2 ^ 36) (k : Nat) : DCall Try.prog 39 [dIs b l] [] (.own k) [(k, .row 1 (rowC (rows eI l)))] := by
 have hnb : ∀ l : List Int, Blk.nb (.row 1 (rowC (rows eI l))) = true := fun l => rowC_nb (rows_nb eI_nb l)
 refine DCall.rename (k0 := 5) ?_ k
 cases l with
 | nil =>
  refine DCall.nil1 (fun a c => ?_)
  cases a with
  | none =>
   refine DCall.of Try.func39 sf39 hb39 (Nat.le_of_ble_eq_true rfl) okRes_row ?_; simp only [s39, idxs, Nat.reduceAdd]
   repeat' (first|(with_reducible first|apply qA|apply qB|apply qC|apply qD|apply qE|apply qF)|(simp (disch:=omega) only [go_sem, simprocAttr, Blk.men, Blk.keysIn, Option.isNone])|exact qM rfl rfl rfl|(refine qG rfl ?_)|(refine qH rfl ?_)|(refine qI rfl ?_ ?_<;>intro hc<;>(try simp only [go_sem] at hc))|(refine qJ ?_ ?_<;>intro hc<;>(try simp only [hc])<;>(try simp only [go_sem] at hc)))
   refine retS_ent (Ent.adopt 2 5 1 rfl rfl rfl) ?_
   simp (disch:=omega) only [go_sem,simprocAttr,Blk.men,Blk.keysIn]
   refine retS_row ?_ ?_ (hnb []) <;> rfl
  | some a =>
   refine DCall.of Try.func39 sf39 hb39 (Nat.le_of_ble_eq_true rfl) okRes_row ?_; simp only [s39, idxs, Nat.reduceAdd]
   refine DW.seq (DW.reg ?_)
   simp (disch:=omega) only [go_sem,simprocAttr,Blk.men,Blk.keysIn]
   refine DW.seq (DW.seq (DW.reg ?_))
   simp (disch:=omega) only [go_sem,simprocAttr,Blk.men,Blk.keysIn,Option.isNone]
   refine DW.cond_ff rfl (DW.skip ?_)
   simp (disch:=omega) only [go_sem,simprocAttr,Blk.men,Blk.keysIn]
   refine DW.ent (Ent.to (tm' := [(0, .c (.sl b 1 []))]) (bx' := []) (by simp (disch:=omega) only [qR,qS,qTw,qU,get,Nat.reduceEqDiff,↓reduceIte,qV,qW,qX,qY,qZ,and_self,dI,i64_in,and_true,true_and,rA,rB,rC,rD]) trivial) ?_
   repeat' (first|(with_reducible first|apply qA|apply qB|apply qC|apply qD|apply qE|apply qF)|(simp (disch:=omega) only [go_sem, simprocAttr, Blk.men, Blk.keysIn])|exact qM rfl rfl rfl|(refine qG rfl ?_)|(refine qH rfl ?_)|(refine qI rfl ?_ ?_<;>intro hc<;>(try simp only [go_sem] at hc))|(refine qJ ?_ ?_<;>intro hc<;>(try simp only [hc])<;>(try simp only [go_sem] at hc)))
   refine retS_row ?_ ?_ (hnb []) <;> rfl
 | cons x l =>
  simp only [List.length_cons] at hl
  refine DCall.of Try.func39 sf39 hb39 (Nat.le_of_ble_eq_true rfl) okRes_row ?_; simp only [s39, idxs, Nat.reduceAdd]
  repeat' (first|(with_reducible first|apply qA|apply qB|apply qC|apply qD|apply qE|apply qF)|(simp (disch:=omega) only [go_sem, simprocAttr, Blk.men, Blk.keysIn, rows_cons])|exact qM rfl rfl rfl|(refine qG rfl ?_)|(refine qH rfl ?_)|(refine qI rfl ?_ ?_<;>intro hc<;>(try simp only [go_sem] at hc))|(refine qJ ?_ ?_<;>intro hc<;>(try simp only [hc])<;>(try simp only [go_sem] at hc)))
  refine retS_row ?_ ?_ (hnb (x :: l)) <;> rfl
def dupAt : List Int → Nat → Option Nat
 | a :: b :: l, k => if b = a then some (k + 1) else dupAt (b :: l) (k + 1)
 | _, _ => none
def keptTo (s : List Int) (m : Nat) : List Int := (((s.tail.zip s).take m).filter fun q => decide (q.1 ≠ q.2)).map (·.1)
def cpt (l : List Int) : List Int := match dupAt l 0 with
 | none => l
 | some k => l.take k ++ keptTo (l.drop k) ((l.drop k).length - 1)
theorem keptTo_len (s : List Int) (m : Nat) : (keptTo s m).length ≤ m := by
 simp only [keptTo, List.length_map]
 refine Nat.le_trans (List.length_filter_le _ _) ?_
 rw [List.length_take]; omega
theorem keptTo_succ {s : List Int} {m : Nat} {a b : Int} (ha : s[m]? = some a) (hb : s[m + 1]? = some b) : keptTo s (m + 1) = keptTo s m ++ if b = a then [] else [b] := by
 have hz : (s.tail.zip s)[m]? = some (b, a) := by
  rw [List.getElem?_zip_eq_some]
  exact ⟨by rw [List.getElem?_tail]; exact hb, ha⟩
 simp only [keptTo, List.take_add_one, hz, List.filter_append, List.map_append, Option.toList_some]
 congr 1
 by_cases h : b = a <;> simp [h]
structure Cp (l : List Int) (K m : Nat) (cur : List Int) : Prop where
 le : K + m + 1 ≤ l.length
 len : cur.length = l.length
 tk : cur.take (K + (keptTo (l.drop K) m).length) = l.take K ++ keptTo (l.drop K) m
 dr : cur.drop (K + m) = l.drop (K + m)
theorem Cp.step {l : List Int} {K m : Nat} {cur : List Int} {a b : Int} (h : Cp l K m cur) (hlt : K + m + 1 < l.length) (ha : l[K + m]? = some a) (hb : l[K + m + 1]? = some b) :
  (b = a → Cp l K (m + 1) cur ∧ (keptTo (l.drop K) (m + 1)).length = (keptTo (l.drop K) m).length) ∧
  (b ≠ a → Cp l K (m + 1) (cur.set (K + (keptTo (l.drop K) m).length) b) ∧ (keptTo (l.drop K) (m + 1)).length = (keptTo (l.drop K) m).length + 1) := by
 have hk := keptTo_succ (s := l.drop K) (m := m) (a := a) (b := b) (by rw [List.getElem?_drop]; exact ha) (by rw [List.getElem?_drop]; exact hb)
 have h1 := keptTo_len (l.drop K) m
 have h2 := h.tk
 have h3 := h.len
 have h4 : cur.drop (K + (m + 1)) = l.drop (K + (m + 1)) := by
  have := congrArg (List.drop 1) h.dr
  simpa [List.drop_drop, Nat.add_assoc] using this
 generalize keptTo (l.drop K) m = f at *
 constructor
 ·intro hba
  rw [if_pos hba, List.append_nil] at hk
  exact ⟨⟨by omega, h3, by rw [hk]; exact h2, h4⟩, by rw [hk]⟩
 ·intro hba
  rw [if_neg hba] at hk
  refine ⟨⟨by omega, by simp [h3], ?_, ?_⟩, by rw [hk]; simp⟩
  ·rw [hk]
   simp only [List.length_append, List.length_cons, List.length_nil, ← Nat.add_assoc]
   rw [List.take_add_one, List.take_set_of_le (Nat.le_refl _), h2, List.getElem?_set_self (by omega), List.append_assoc]
   rfl
  ·rw [List.drop_set_of_lt (by omega)]
   exact h4
theorem Cp.fin {l : List Int} {K m : Nat} {cur : List Int} (h : Cp l K m cur) (hm : m + 1 = (l.drop K).length) (hd : dupAt l 0 = some K) : cur.take (K + (keptTo (l.drop K) m).length) = cpt l := by
 unfold cpt
 rw [hd, h.tk]
 dsimp only
 rw [← hm, Nat.add_sub_cancel]
end Go.Dw.Seat.Tr
end
section
set_option linter.unusedSimpArgs false
set_option maxRecDepth 100000
namespace Go.Dw.Seat.Tr
open Go Go.Dw Go.IntWalk
structure TPap where
 wide : Int
 tl : Int
 th : Int
 webs : Int
structure TOrd where
 w : Int
 lo : Int
 hi : Int
structure TStp where
 ws : List Int
 run : Int
structure TPap.ok (p : TPap) : Prop where
 wide : 1 ≤ p.wide ∧ p.wide ≤ 3000
 trim : 0 ≤ p.tl ∧ p.tl ≤ p.th ∧ p.th ≤ 3000
 webs : 1 ≤ p.webs ∧ p.webs ≤ 4
structure TOrd.ok (o : TOrd) : Prop where
 w : 1 ≤ o.w ∧ o.w ≤ 3000
 need : 0 ≤ o.lo ∧ o.lo ≤ o.hi ∧ o.hi ≤ 100
def dotI : List Int → List TOrd → Int
 | n :: ws, o :: l => n * o.w + dotI ws l
 | _, _ => 0
def trimI (p : TPap) (l : List TOrd) (ws : List Int) : Int := p.wide - dotI ws l
def sumI : List Int → Int
 | [] => 0
 | n :: ws => n + sumI ws
def usedI : List Int → Int
 | [] => 0
 | n :: ws => (if 0 < n then 1 else 0) + usedI ws
def patB (p : TPap) (l : List TOrd) (ws : List Int) : Bool := (decide (1 ≤ sumI ws) && decide (sumI ws ≤ p.webs)) && decide (usedI ws ≤ 2) && (decide (p.tl ≤ trimI p l ws) && decide (trimI p l ws ≤ p.th))
def allW : Nat → List (List Int)
 | 0 => [[]]
 | n + 1 => [0, 1, 2, 3, 4].flatMap fun d => (allW n).map (d :: ·)
def pats (p : TPap) (l : List TOrd) : List (List Int) := (allW l.length).filter (patB p l)
def lexW : List Int → List Int → Bool
 | a :: s, b :: t => if a = b then lexW s t else decide (a < b)
 | _, _ => false
theorem lexW_irr : ∀ s : List Int, lexW s s = false
 | [] => rfl
 | a :: s => by rw [lexW, if_pos rfl]; exact lexW_irr s
theorem lexW_asym : ∀ {s t : List Int}, lexW s t = true → lexW t s = false
 | [], _, h => by cases h
 | _ :: _, [], h => by cases h
 | a :: s, b :: t, h => by
  simp only [lexW] at h ⊢
  by_cases e : a = b
  ·subst e; rw [if_pos rfl] at h ⊢; exact lexW_asym h
  ·rw [if_neg e] at h; rw [if_neg (fun e2 => e e2.symm)]
   simp only [decide_eq_true_eq, decide_eq_false_iff_not] at h ⊢; omega
theorem lexW_trans : ∀ {s t u : List Int}, lexW s t = true → lexW t u = true → lexW s u = true
 | [], _, _, h, _ => by cases h
 | _ :: _, [], _, h, _ => by cases h
 | _ :: _, _ :: _, [], _, h => by cases h
 | a :: s, b :: t, c :: u, h1, h2 => by
  simp only [lexW] at h1 h2 ⊢
  by_cases e1 : a = b
  ·subst e1
   rw [if_pos rfl] at h1
   by_cases e2 : a = c
   ·subst e2; rw [if_pos rfl] at h2 ⊢; exact lexW_trans h1 h2
   ·rw [if_neg e2] at h2 ⊢; exact h2
  ·rw [if_neg e1] at h1
   simp only [decide_eq_true_eq] at h1
   by_cases e2 : b = c
   ·subst e2; rw [if_neg e1]; exact decide_eq_true h1
   ·rw [if_neg e2] at h2
    simp only [decide_eq_true_eq] at h2
    rw [if_neg (by omega)]; exact decide_eq_true (by omega)
def ltP : List TStp → List TStp → Bool
 | a :: s, b :: t => if a.ws = b.ws then (if a.run = b.run then ltP s t else decide (a.run < b.run)) else lexW a.ws b.ws
 | _, _ => false
theorem ltP_asym : ∀ {s t : List TStp}, ltP s t = true → ltP t s = false
 | [], _, h => by cases h
 | _ :: _, [], h => by cases h
 | a :: s, b :: t, h => by
  simp only [ltP] at h ⊢
  by_cases e : a.ws = b.ws
  ·rw [if_pos e] at h; rw [if_pos e.symm]
   by_cases e2 : a.run = b.run
   ·rw [if_pos e2] at h; rw [if_pos e2.symm]; exact ltP_asym h
   ·rw [if_neg e2] at h; rw [if_neg (fun x => e2 x.symm)]
    simp only [decide_eq_true_eq, decide_eq_false_iff_not] at h ⊢; omega
  ·rw [if_neg e] at h; rw [if_neg (fun x => e x.symm)]; exact lexW_asym h
theorem ltP_trans : ∀ {s t u : List TStp}, ltP s t = true → ltP t u = true → ltP s u = true
 | [], _, _, h, _ => by cases h
 | _ :: _, [], _, h, _ => by cases h
 | _ :: _, _ :: _, [], _, h => by cases h
 | a :: s, b :: t, c :: u, h1, h2 => by
  simp only [ltP] at h1 h2 ⊢
  by_cases e1 : a.ws = b.ws
  ·rw [if_pos e1] at h1
   rw [← e1] at h2
   by_cases e2 : a.ws = c.ws
   ·rw [if_pos e2] at h2 ⊢
    by_cases r1 : a.run = b.run
    ·rw [if_pos r1] at h1
     rw [← r1] at h2
     by_cases r2 : a.run = c.run
     ·rw [if_pos r2] at h2 ⊢; exact ltP_trans h1 h2
     ·rw [if_neg r2] at h2 ⊢; exact h2
    ·rw [if_neg r1] at h1
     simp only [decide_eq_true_eq] at h1
     by_cases r2 : b.run = c.run
     ·rw [if_neg (by omega)]; exact decide_eq_true (by omega)
     ·rw [if_neg r2] at h2
      simp only [decide_eq_true_eq] at h2
      rw [if_neg (by omega)]; exact decide_eq_true (by omega)
   ·rw [if_neg e2] at h2 ⊢; exact h2
  ·rw [if_neg e1] at h1
   by_cases e2 : b.ws = c.ws
   ·rw [← e2, if_neg e1]; exact h1
   ·rw [if_neg e2] at h2
    have h3 := lexW_trans h1 h2
    rw [if_neg (fun e => by rw [e] at h1; rw [lexW_asym h1] at h2; cases h2)]
    exact h3
theorem ltP_app : ∀ (p s t : List TStp), ltP (p ++ s) (p ++ t) = ltP s t
 | [], _, _ => rfl
 | a :: p, s, t => by
  show ltP (a :: (p ++ s)) (a :: (p ++ t)) = _
  simp only [ltP, if_true]
  exact ltP_app p s t
def addG : List Int → List Int → Int → List Int
 | g :: got, n :: ws, r => (g + n * r) :: addG got ws r
 | got, _, _ => got
theorem addG_len : ∀ (got ws : List Int) (r : Int), (addG got ws r).length = got.length
 | [], _, _ => by simp [addG]
 | _ :: _, [], _ => by simp [addG]
 | g :: got, n :: ws, r => by simp [addG, addG_len got ws r]
def gotF : List Int → List TStp → List Int
 | got, [] => got
 | got, s :: q => gotF (addG got s.ws s.run) q
def wasteF (p : TPap) (l : List TOrd) : List TStp → Int
 | [] => 0
 | s :: q => trimI p l s.ws * s.run + wasteF p l q
theorem gotF_app : ∀ (q : List TStp) (got : List Int) (s : List TStp), gotF got (q ++ s) = gotF (gotF got q) s
 | [], _, _ => rfl
 | a :: q, got, s => gotF_app q (addG got a.ws a.run) s
theorem wasteF_app (p : TPap) (l : List TOrd) : ∀ (q s : List TStp), wasteF p l (q ++ s) = wasteF p l q + wasteF p l s
 | [], s => by simp [wasteF]
 | a :: q, s => by rw [List.cons_append, wasteF, wasteF, wasteF_app p l q s]; omega
def doesB : List TOrd → List Int → Bool
 | o :: l, g :: got => (decide (o.lo ≤ g) && decide (g ≤ o.hi)) && doesB l got
 | _, _ => true
def leH : List TOrd → List Int → Bool
 | o :: l, g :: got => decide (g ≤ o.hi) && leH l got
 | _, _ => true
def zeros (n : Nat) : List Int := List.replicate n 0
end Go.Dw.Seat.Tr
end
section
set_option linter.unusedSimpArgs false
set_option maxRecDepth 100000
namespace Go.Dw.Seat.Tr
open Go Go.Dw Go.Proofs Go.IntWalk
def eO (o : TOrd) : List C := [.v (.int .i64 o.w), .v (.int .i64 o.lo), .v (.int .i64 o.hi)]
theorem eO_nb (v : TOrd) : C.nbs (eO v) = true := rfl
attribute [go_sem] eO
abbrev papD (p : TPap) : D := .agg [dI p.wide, dI p.tl, dI p.th, dI p.webs]
abbrev macD (b : Bool) (p : TPap) (l : List TOrd) : D := .agg [dI p.wide, dI p.tl, dI p.th, dI p.webs, .c (.sl b 3 (rows eO l))]
abbrev noneD : D := .agg [dI 0, dI 0, dI 0, dI 0, .c (.v (.slice none 0 0))]
def papOk (p : TPap) : Bool := (wthn 1 3000 [p.wide] && spanOk p.tl p.th 0 3000) && wthn 1 4 [p.webs]
def ordOk (o : TOrd) : Bool := wthn 1 3000 [o.w] && spanOk o.lo o.hi 0 100
theorem papOk_ok {p : TPap} (h : papOk p = true) : p.ok := by
 simp only [papOk, Bool.and_eq_true] at h
 exact ⟨wthn_one h.1.1, spanOk_all h.1.2, wthn_one h.2⟩
theorem ordOk_ok {o : TOrd} (h : ordOk o = true) : o.ok := by
 simp only [ordOk, Bool.and_eq_true] at h
 exact ⟨wthn_one h.1, spanOk_all h.2⟩
theorem papOk_yes {p : TPap} (h : p.ok) : papOk p = true := by
 simp only [papOk, Bool.and_eq_true]
 exact ⟨⟨wthn_yes (by simpa using h.wide), spanOk_yes h.trim⟩, wthn_yes (by simpa using h.webs)⟩
theorem ordOk_yes {o : TOrd} (h : o.ok) : ordOk o = true := by
 simp only [ordOk, Bool.and_eq_true]
 exact ⟨wthn_yes (by simpa using h.w), spanOk_yes h.need⟩
def openE (p : TPap) (l : List TOrd) : Int := if papOk p = false then 2 else if (4 : Int) < (l.length : Int) then 5 else if (l.any fun o => !ordOk o) = true then 4 else 0
theorem openE_ok {p : TPap} {l : List TOrd} (h : openE p l = 0) : p.ok ∧ l.length ≤ 4 ∧ ∀ o ∈ l, o.ok := by
 unfold openE at h
 split at h
 ·cases h
 ·rename_i h1
  split at h
  ·cases h
  ·rename_i h2
   split at h
   ·cases h
   ·rename_i h3
    refine ⟨papOk_ok (by simpa using h1), by omega, fun o ho => ordOk_ok ?_⟩
    simp only [List.any_eq_true, not_exists, not_and, Bool.not_eq_true, Bool.not_eq_false'] at h3
    exact h3 o ho
theorem openE_yes {p : TPap} {l : List TOrd} (hp : p.ok) (hl : l.length ≤ 4) (h : ∀ o ∈ l, o.ok) : openE p l = 0 := by
 unfold openE
 rw [if_neg (by rw [papOk_yes hp]; decide), if_neg (by omega), if_neg]
 simp only [List.any_eq_true, not_exists, not_and, Bool.not_eq_true, Bool.not_eq_false']
 exact fun o ho => ordOk_yes (h o ho)
theorem trOrd1 (o : TOrd) : DCall Try.prog 97 [.agg ((eO o).map D.c)] [] (bD (!ordOk o)) [] := by
 have h1 := trWithin true 1 3000 [o.w] (by simp)
 have h2 := crSpanG o.lo o.hi 0 100
 unfold ordOk
 cases e1 : wthn 1 3000 [o.w] <;> rw [e1] at h1 <;> simp only [Bool.true_and, Bool.false_and, Bool.not_false]
 ·refine DCall.of Try.func97 sf97 hb97 (Nat.le_of_ble_eq_true rfl) (okRes_nil fun _ => rfl) ?_; simp only [s97, idxs, Nat.reduceAdd]
  repeat' (first|(with_reducible first|apply qA|apply qB|apply qC|apply qD|apply qE|apply qF)|(simp (disch:=omega) only [go_sem, simprocAttr, Blk.men, Blk.keysIn, rF, rG])|exact qM rfl rfl rfl|(refine qG rfl ?_)|(refine qK (h1) (by decide) ?_)|(refine qH rfl ?_)|(refine qI rfl ?_ ?_<;>intro hc<;>(try simp only [go_sem] at hc))|(refine qJ ?_ ?_<;>intro hc<;>(try simp only [hc])<;>(try simp only [go_sem] at hc)))
 ·refine DCall.of Try.func97 sf97 hb97 (Nat.le_of_ble_eq_true rfl) (okRes_nil fun _ => rfl) ?_; simp only [s97, idxs, Nat.reduceAdd]
  repeat' (first|(with_reducible first|apply qA|apply qB|apply qC|apply qD|apply qE|apply qF)|(simp (disch:=omega) only [go_sem, simprocAttr, Blk.men, Blk.keysIn, rF, rG])|exact qM rfl rfl rfl|(refine qG rfl ?_)|(refine qK (h1) (by decide) ?_)|(refine qK (h2) (by decide) ?_)|(refine qH rfl ?_)|(refine qI rfl ?_ ?_<;>intro hc<;>(try simp only [go_sem] at hc))|(refine qJ ?_ ?_<;>intro hc<;>(try simp only [hc])<;>(try simp only [go_sem] at hc)))
theorem trOIdx (b : Bool) (l : List TOrd) (hl : l.length ≤ 2 ^ 36) (g : FuncId) (fs caps : List C) (p : TOrd → Bool) (hp : ∀ x ∈ l, DCall Try.prog g (fs.map D.c ++ [.agg ((eO x).map D.c)] ++ caps.map D.c) [] (bD (p x)) []) : DCall Try.prog 129 [.c (.sl b 3 (rows eO l)), .c (.fn (.func g) fs caps)] [] (dI (idxI p l)) [] := by
 refine DCall.of Try.func129 sf129 hb129 (Nat.le_of_ble_eq_true rfl) (okRes_nil fun _ => rfl) ?_; simp only [s129, idxs, Nat.reduceAdd]
 repeat' (first|(with_reducible first|apply qA|apply qB|apply qC|apply qD|apply qE|apply qF)|(simp (disch:=omega) only [go_sem, simprocAttr, Blk.men, Blk.keysIn])|exact qM rfl rfl rfl|(refine qG rfl ?_)|(refine qH rfl ?_)|(refine qI rfl ?_ ?_<;>intro hc<;>(try simp only [go_sem] at hc))|(refine qJ ?_ ?_<;>intro hc<;>(try simp only [hc])<;>(try simp only [go_sem] at hc)))
 refine DW.loop (ι := { i : Nat // i ≤ l.length ∧ ∀ j u, j < i → l[j]? = some u → p u = false }) (fun i => ⟨19, [(8, dI i.1), (7, dI l.length), (1, .c (.fn (.func g) fs caps)), (0, .c (.sl b 3 (rows eO l)))], []⟩) (fun i => l.length - i.1) ⟨0, Nat.zero_le _, fun j u h => by omega⟩ ?_ ?_
 ·refine Ent.to ?_ ?_ <;> simp (disch:=omega) only [qR,qS,qTw,qU,get,Nat.reduceEqDiff,↓reduceIte,qV,qW,qX,qY,qZ,and_self,dI,i64_in,and_true,true_and,rA,rB,rC,rD]
 rintro ⟨i, hi, hij⟩
 rcases at_or l i hi with ⟨v, hv, hlt, hd⟩ | ⟨he, hd⟩
 ·have hcall := hp v (List.mem_of_getElem? hv)
  repeat' (first|(with_reducible first|apply qA|apply qB|apply qC|apply qD|apply qE|apply qF)|(simp (disch:=omega) only [go_sem, simprocAttr, Blk.men, Blk.keysIn, hd, hv, closeDs_fn, rF, rG])|exact qM rfl rfl rfl|(refine qG rfl ?_)|(refine qH rfl ?_)|(refine qI rfl ?_ ?_<;>intro hc<;>(try simp only [go_sem] at hc))|(refine qJ ?_ ?_<;>intro hc<;>(try simp only [hc])<;>(try simp only [go_sem] at hc)))
  refine call_c hcall (by decide) ?_
  simp (disch:=omega) only [go_sem,simprocAttr,Blk.men,Blk.keysIn]
  refine DW.cond rfl ?_ ?_ <;> intro hc
  ·repeat' (first|(with_reducible first|apply qA|apply qB|apply qC|apply qD|apply qE|apply qF)|(simp (disch:=omega) only [go_sem, simprocAttr, Blk.men, Blk.keysIn])|exact qM rfl rfl rfl|(refine qG rfl ?_)|(refine qH rfl ?_)|(refine qI rfl ?_ ?_<;>intro hc<;>(try simp only [go_sem] at hc))|(refine qJ ?_ ?_<;>intro hc<;>(try simp only [hc])<;>(try simp only [go_sem] at hc)))
   refine retS_of rfl ?_ rfl; simp only [oneD, St.op, get, Nat.reduceEqDiff, ↓reduceIte, Option.getD_some, bD, dI]
   simp only [idxI, idxOf_some hij hv hc]
  ·repeat' (first|(with_reducible first|apply qA|apply qB|apply qC|apply qD|apply qE|apply qF)|(simp (disch:=omega) only [go_sem, simprocAttr, Blk.men, Blk.keysIn])|exact qM rfl rfl rfl|(refine qG rfl ?_)|(refine qH rfl ?_)|(refine qI rfl ?_ ?_<;>intro hc<;>(try simp only [go_sem] at hc))|(refine qJ ?_ ?_<;>intro hc<;>(try simp only [hc])<;>(try simp only [go_sem] at hc)))
   refine ⟨⟨i + 1, by omega, fun j u hj hu => by
    rcases Nat.lt_or_ge j i with h | h
    ·exact hij j u h hu
    ·have : j = i := by omega
     subst this
     rw [hv] at hu; cases hu; exact hc⟩, ?_, Ent.to ?_ ?_⟩ <;> first | (show _ < _; (try simp only); omega) | (simp (disch:=omega) only [qR,qS,qTw,qU,get,Nat.reduceEqDiff,↓reduceIte,qV,qW,qX,qY,qZ,and_self,dI,i64_in,and_true,true_and,rA,rB,rC,rD])
 ·repeat' (first|(with_reducible first|apply qA|apply qB|apply qC|apply qD|apply qE|apply qF)|(simp (disch:=omega) only [go_sem, simprocAttr, Blk.men, Blk.keysIn, hd])|exact qM rfl rfl rfl|(refine qG rfl ?_)|(refine qH rfl ?_)|(refine qI rfl ?_ ?_<;>intro hc<;>(try simp only [go_sem] at hc))|(refine qJ ?_ ?_<;>intro hc<;>(try simp only [hc])<;>(try simp only [go_sem] at hc)))
  refine retS_of rfl ?_ rfl; simp only [oneD, St.op, get, Nat.reduceEqDiff, ↓reduceIte, Option.getD_some, bD, dI]
  simp only [idxI, idxOf_none (he ▸ hij)]
theorem trOAny (b : Bool) (l : List TOrd) (hl : l.length ≤ 2 ^ 36) (g : FuncId) (fs caps : List C) (p : TOrd → Bool) (hp : ∀ x ∈ l, DCall Try.prog g (fs.map D.c ++ [.agg ((eO x).map D.c)] ++ caps.map D.c) [] (bD (p x)) []) : DCall Try.prog 100 [.c (.sl b 3 (rows eO l)), .c (.fn (.func g) fs caps)] [] (bD (l.any p)) [] := by
 refine DCall.of Try.func100 sf100 hb100 (Nat.le_of_ble_eq_true rfl) (okRes_nil fun _ => rfl) ?_; simp only [s100, idxs, Nat.reduceAdd]
 repeat' (first|(with_reducible first|apply qA|apply qB|apply qC|apply qD|apply qE|apply qF)|(simp (disch:=omega) only [go_sem, simprocAttr, Blk.men, Blk.keysIn])|exact qM rfl rfl rfl|(refine qG rfl ?_)|(refine qH rfl ?_)|(refine qI rfl ?_ ?_<;>intro hc<;>(try simp only [go_sem] at hc))|(refine qJ ?_ ?_<;>intro hc<;>(try simp only [hc])<;>(try simp only [go_sem] at hc)))
 refine call_c (trOIdx b l hl g fs caps p hp) (by decide) ?_
 repeat' (first|(with_reducible first|apply qA|apply qB|apply qC|apply qD|apply qE|apply qF)|(simp (disch:=omega) only [go_sem, simprocAttr, Blk.men, Blk.keysIn])|exact qM rfl rfl rfl|(refine qG rfl ?_)|(refine qH rfl ?_)|(refine qI rfl ?_ ?_<;>intro hc<;>(try simp only [go_sem] at hc))|(refine qJ ?_ ?_<;>intro hc<;>(try simp only [hc])<;>(try simp only [go_sem] at hc)))
 refine retS_of rfl ?_ rfl; simp only [oneD, St.op, get, Nat.reduceEqDiff, ↓reduceIte, Option.getD_some, bD, dI]
 rw [idxI_any]
theorem trOpen (p : TPap) (l : List TOrd) (h : openE p l = 0) : DCall Try.prog 50 [papD p, .c (.sl false 3 (rows eO l))] [] (.tup [macD false p l, dI 0]) [] := by
 obtain ⟨hp, hl, ho⟩ := openE_ok h
 have h1 := trWithin true 1 3000 [p.wide] (by simp)
 have h2 := crSpanG p.tl p.th 0 3000
 have h3 := trWithin true 1 4 [p.webs] (by simp)
 rw [wthn_yes (by simpa using hp.wide)] at h1
 rw [spanOk_yes hp.trim] at h2
 rw [wthn_yes (by simpa using hp.webs)] at h3
 have h4 := trOAny false l (by omega) 97 [] [] (fun o => !ordOk o) (fun x _ => trOrd1 x)
 have e4 : (l.any fun o => !ordOk o) = false := by
  simp only [List.any_eq_false, Bool.not_eq_true', Bool.not_eq_false]
  exact fun o hm => ordOk_yes (ho o hm)
 rw [e4] at h4
 have hd : decide ((4 : Int) < (l.length : Int)) = false := by rw [decide_eq_false_iff_not]; omega
 refine DCall.of Try.func50 sf50 hb50 (Nat.le_of_ble_eq_true rfl) (okRes_nil fun _ => rfl) ?_; simp only [s50, idxs, Nat.reduceAdd]
 repeat' (first|(with_reducible first|apply qA|apply qB|apply qC|apply qD|apply qE|apply qF)|(simp (disch:=omega) only [go_sem, simprocAttr, Blk.men, Blk.keysIn, hd])|exact qM rfl rfl rfl|(refine qG rfl ?_)|(refine qK (h1) (by decide) ?_)|(refine qK (h2) (by decide) ?_)|(refine qK (h3) (by decide) ?_)|(refine qK (h4) (by decide) ?_)|(refine qH rfl ?_)|(refine qI rfl ?_ ?_<;>intro hc<;>(try simp only [go_sem] at hc))|(refine qJ ?_ ?_<;>intro hc<;>(try simp only [hc])<;>(try simp only [go_sem] at hc)))
 refine retS_wk rfl ?_ (by simp only [Blk.nb, rowC_nb, D.nb, D.nbs, C.nb, C.nbs, C.nbss, rows_nb eI_nb, Bool.and_true, Bool.not_false, Bool.and_self, bD, dI, iD, rows_nb eO_nb]); exact .refl _
theorem trOpenE (b : Bool) (p : TPap) (l : List TOrd) (hl : l.length ≤ 2 ^ 36) (h : openE p l ≠ 0) : DCall Try.prog 50 [papD p, .c (.sl b 3 (rows eO l))] [] (.tup [noneD, dI (openE p l)]) [] := by
 have h1 := trWithin true 1 3000 [p.wide] (by simp)
 have h2 := crSpanG p.tl p.th 0 3000
 have h3 := trWithin true 1 4 [p.webs] (by simp)
 have h4 := trOAny b l hl 97 [] [] (fun o => !ordOk o) (fun x _ => trOrd1 x)
 unfold openE papOk at h ⊢
 cases e1 : wthn 1 3000 [p.wide] <;> rw [e1] at h1 h
 ·rw [if_pos (by simp)]
  refine DCall.of Try.func50 sf50 hb50 (Nat.le_of_ble_eq_true rfl) (okRes_nil fun _ => rfl) ?_; simp only [s50, idxs, Nat.reduceAdd]
  repeat' (first|(with_reducible first|apply qA|apply qB|apply qC|apply qD|apply qE|apply qF)|(simp (disch:=omega) only [go_sem, simprocAttr, Blk.men, Blk.keysIn])|exact qM rfl rfl rfl|(refine qG rfl ?_)|(refine qK (h1) (by decide) ?_)|(refine qH rfl ?_)|(refine qI rfl ?_ ?_<;>intro hc<;>(try simp only [go_sem] at hc))|(refine qJ ?_ ?_<;>intro hc<;>(try simp only [hc])<;>(try simp only [go_sem] at hc)))
 cases e2 : spanOk p.tl p.th 0 3000 <;> rw [e2] at h2 h
 ·rw [if_pos (by simp)]
  refine DCall.of Try.func50 sf50 hb50 (Nat.le_of_ble_eq_true rfl) (okRes_nil fun _ => rfl) ?_; simp only [s50, idxs, Nat.reduceAdd]
  repeat' (first|(with_reducible first|apply qA|apply qB|apply qC|apply qD|apply qE|apply qF)|(simp (disch:=omega) only [go_sem, simprocAttr, Blk.men, Blk.keysIn])|exact qM rfl rfl rfl|(refine qG rfl ?_)|(refine qK (h1) (by decide) ?_)|(refine qK (h2) (by decide) ?_)|(refine qH rfl ?_)|(refine qI rfl ?_ ?_<;>intro hc<;>(try simp only [go_sem] at hc))|(refine qJ ?_ ?_<;>intro hc<;>(try simp only [hc])<;>(try simp only [go_sem] at hc)))
 cases e3 : wthn 1 4 [p.webs] <;> rw [e3] at h3 h
 ·rw [if_pos (by simp)]
  refine DCall.of Try.func50 sf50 hb50 (Nat.le_of_ble_eq_true rfl) (okRes_nil fun _ => rfl) ?_; simp only [s50, idxs, Nat.reduceAdd]
  repeat' (first|(with_reducible first|apply qA|apply qB|apply qC|apply qD|apply qE|apply qF)|(simp (disch:=omega) only [go_sem, simprocAttr, Blk.men, Blk.keysIn])|exact qM rfl rfl rfl|(refine qG rfl ?_)|(refine qK (h1) (by decide) ?_)|(refine qK (h2) (by decide) ?_)|(refine qK (h3) (by decide) ?_)|(refine qH rfl ?_)|(refine qI rfl ?_ ?_<;>intro hc<;>(try simp only [go_sem] at hc))|(refine qJ ?_ ?_<;>intro hc<;>(try simp only [hc])<;>(try simp only [go_sem] at hc)))
 rw [if_neg (by decide)] at h ⊢
 by_cases h5 : (4 : Int) < (l.length : Int)
 ·have hd : decide ((4 : Int) < (l.length : Int)) = true := decide_eq_true h5
  rw [if_pos h5]
  refine DCall.of Try.func50 sf50 hb50 (Nat.le_of_ble_eq_true rfl) (okRes_nil fun _ => rfl) ?_; simp only [s50, idxs, Nat.reduceAdd]
  repeat' (first|(with_reducible first|apply qA|apply qB|apply qC|apply qD|apply qE|apply qF)|(simp (disch:=omega) only [go_sem, simprocAttr, Blk.men, Blk.keysIn, hd])|exact qM rfl rfl rfl|(refine qG rfl ?_)|(refine qK (h1) (by decide) ?_)|(refine qK (h2) (by decide) ?_)|(refine qK (h3) (by decide) ?_)|(refine qH rfl ?_)|(refine qI rfl ?_ ?_<;>intro hc<;>(try simp only [go_sem] at hc))|(refine qJ ?_ ?_<;>intro hc<;>(try simp only [hc])<;>(try simp only [go_sem] at hc)))
 ·have hd : decide ((4 : Int) < (l.length : Int)) = false := decide_eq_false h5
  rw [if_neg h5] at h ⊢
  cases e4 : (l.any fun o => !ordOk o) with
  | false => rw [e4] at h; exact absurd rfl h
  | true =>
   rw [e4] at h4
   rw [if_pos rfl]
   refine DCall.of Try.func50 sf50 hb50 (Nat.le_of_ble_eq_true rfl) (okRes_nil fun _ => rfl) ?_; simp only [s50, idxs, Nat.reduceAdd]
   repeat' (first|(with_reducible first|apply qA|apply qB|apply qC|apply qD|apply qE|apply qF)|(simp (disch:=omega) only [go_sem, simprocAttr, Blk.men, Blk.keysIn, hd])|exact qM rfl rfl rfl|(refine qG rfl ?_)|(refine qK (h1) (by decide) ?_)|(refine qK (h2) (by decide) ?_)|(refine qK (h3) (by decide) ?_)|(refine qK (h4) (by decide) ?_)|(refine qH rfl ?_)|(refine qI rfl ?_ ?_<;>intro hc<;>(try simp only [go_sem] at hc))|(refine qJ ?_ ?_<;>intro hc<;>(try simp only [hc])<;>(try simp only [go_sem] at hc)))
end Go.Dw.Seat.Tr
end
