/- Helpers of a proof. -/
import Derived.Test.YtalhglghjfdgkaaW47
import Derived.Test.YtalhglghjfdgkaaProg
set_option linter.unusedVariables false
set_option linter.unusedSimpArgs false
section
namespace Go.Dw.Seat
open Go Go.Dw Go.Proofs
instance laysI : Lays := ⟨[]⟩
theorem laid0 (W : World) : LaidA (fun _ => False) W := fun _ hp => nomatch hp
theorem el0 : elemI Try.prog 0 = none := by kernel_rfl
theorem ty1 : tyI Try.prog 1 = some ⟨false, 1, [.nilFunc], 8⟩ := by kernel_rfl
theorem el1 : elemI Try.prog 1 = none := by kernel_rfl
theorem ty2 : tyI Try.prog 2 = some ⟨false, 1, [(.int .i64 0)], 8⟩ := by kernel_rfl
theorem el2 : elemI Try.prog 2 = none := by kernel_rfl
theorem it2 : intI Try.prog 2 = some .i64 := by kernel_rfl
theorem ty3 : tyI Try.prog 3 = some ⟨false, 1, [(.int .i64 0)], 8⟩ := by kernel_rfl
theorem el3 : elemI Try.prog 3 = none := by kernel_rfl
theorem it3 : intI Try.prog 3 = some .i64 := by kernel_rfl
theorem ty4 : tyI Try.prog 4 = some ⟨false, 1, [(.bool false)], 1⟩ := by kernel_rfl
theorem el4 : elemI Try.prog 4 = none := by kernel_rfl
theorem bl4 : blI Try.prog 4 = true := by kernel_rfl
theorem ty5 : tyI Try.prog 5 = some ⟨false, 1, [(.int .u8 0)], 1⟩ := by kernel_rfl
theorem el5 : elemI Try.prog 5 = none := by kernel_rfl
theorem it5 : intI Try.prog 5 = some .u8 := by kernel_rfl
theorem ty6 : tyI Try.prog 6 = some ⟨false, 1, [(.int .u8 0)], 1⟩ := by kernel_rfl
theorem el6 : elemI Try.prog 6 = none := by kernel_rfl
theorem it6 : intI Try.prog 6 = some .u8 := by kernel_rfl
theorem ty7 : tyI Try.prog 7 = some ⟨true, 4, [(.int .i64 0), (.int .i64 0), (.bool false), (.int .u8 0)], 24⟩ := by kernel_rfl
theorem el7 : elemI Try.prog 7 = none := by kernel_rfl
theorem eq7 : eqTy Try.prog 7 = some (.st [(0, 1, .it), (1, 1, .it), (2, 1, .bl), (3, 1, .it)]) := by kernel_rfl
theorem pl7 : placesI Try.prog 7 = some [(0, 1), (1, 1), (2, 1), (3, 1)] := by kernel_rfl
theorem fi7_0 : fieldI Try.prog 7 0 = some (0, 1, false) := by kernel_rfl
theorem fi7_1 : fieldI Try.prog 7 1 = some (1, 1, false) := by kernel_rfl
theorem fi7_2 : fieldI Try.prog 7 2 = some (2, 1, false) := by kernel_rfl
theorem fi7_3 : fieldI Try.prog 7 3 = some (3, 1, false) := by kernel_rfl
theorem ty8 : tyI Try.prog 8 = some ⟨true, 4, [(.int .i64 0), (.int .i64 0), (.bool false), (.int .u8 0)], 24⟩ := by kernel_rfl
theorem el8 : elemI Try.prog 8 = none := by kernel_rfl
theorem eq8 : eqTy Try.prog 8 = some (.st [(0, 1, .it), (1, 1, .it), (2, 1, .bl), (3, 1, .it)]) := by kernel_rfl
theorem pl8 : placesI Try.prog 8 = some [(0, 1), (1, 1), (2, 1), (3, 1)] := by kernel_rfl
theorem fi8_0 : fieldI Try.prog 8 0 = some (0, 1, false) := by kernel_rfl
theorem fi8_1 : fieldI Try.prog 8 1 = some (1, 1, false) := by kernel_rfl
theorem fi8_2 : fieldI Try.prog 8 2 = some (2, 1, false) := by kernel_rfl
theorem fi8_3 : fieldI Try.prog 8 3 = some (3, 1, false) := by kernel_rfl
theorem ty9 : tyI Try.prog 9 = some ⟨false, 1, [(.string ⟨#[]⟩)], 16⟩ := by kernel_rfl
theorem el9 : elemI Try.prog 9 = none := by kernel_rfl
theorem ty10 : tyI Try.prog 10 = some ⟨false, 1, [(.string ⟨#[]⟩)], 16⟩ := by kernel_rfl
theorem el10 : elemI Try.prog 10 = none := by kernel_rfl
theorem ty11 : tyI Try.prog 11 = some ⟨false, 1, [(.string ⟨#[]⟩)], 16⟩ := by kernel_rfl
theorem el11 : elemI Try.prog 11 = none := by kernel_rfl
theorem ty12 : tyI Try.prog 12 = some ⟨false, 1, [(.int .u64 0)], 8⟩ := by kernel_rfl
theorem el12 : elemI Try.prog 12 = none := by kernel_rfl
theorem it12 : intI Try.prog 12 = some .u64 := by kernel_rfl
theorem ty13 : tyI Try.prog 13 = some ⟨true, 2, [(.string ⟨#[]⟩), (.int .u64 0)], 24⟩ := by kernel_rfl
theorem el13 : elemI Try.prog 13 = none := by kernel_rfl
theorem pl13 : placesI Try.prog 13 = some [(0, 1), (1, 1)] := by kernel_rfl
theorem fi13_0 : fieldI Try.prog 13 0 = some (0, 1, false) := by kernel_rfl
theorem fi13_1 : fieldI Try.prog 13 1 = some (1, 1, false) := by kernel_rfl
theorem ty14 : tyI Try.prog 14 = some ⟨true, 2, [(.string ⟨#[]⟩), (.int .u64 0)], 24⟩ := by kernel_rfl
theorem el14 : elemI Try.prog 14 = none := by kernel_rfl
theorem pl14 : placesI Try.prog 14 = some [(0, 1), (1, 1)] := by kernel_rfl
theorem fi14_0 : fieldI Try.prog 14 0 = some (0, 1, false) := by kernel_rfl
theorem fi14_1 : fieldI Try.prog 14 1 = some (1, 1, false) := by kernel_rfl
theorem ty15 : tyI Try.prog 15 = some ⟨false, 1, [(.pointer none)], 8⟩ := by kernel_rfl
theorem el15 : elemI Try.prog 15 = none := by kernel_rfl
theorem ty16 : tyI Try.prog 16 = some ⟨false, 1, [(.pointer none)], 8⟩ := by kernel_rfl
theorem el16 : elemI Try.prog 16 = none := by kernel_rfl
theorem ty17 : tyI Try.prog 17 = some ⟨false, 1, [(.pointer none)], 8⟩ := by kernel_rfl
theorem el17 : elemI Try.prog 17 = none := by kernel_rfl
theorem ty18 : tyI Try.prog 18 = some ⟨true, 1, [(.pointer none)], 8⟩ := by kernel_rfl
theorem el18 : elemI Try.prog 18 = none := by kernel_rfl
theorem pl18 : placesI Try.prog 18 = some [(0, 1)] := by kernel_rfl
theorem fi18_0 : fieldI Try.prog 18 0 = some (0, 1, false) := by kernel_rfl
theorem ty19 : tyI Try.prog 19 = some ⟨true, 1, [(.pointer none)], 8⟩ := by kernel_rfl
theorem el19 : elemI Try.prog 19 = none := by kernel_rfl
theorem pl19 : placesI Try.prog 19 = some [(0, 1)] := by kernel_rfl
theorem fi19_0 : fieldI Try.prog 19 0 = some (0, 1, false) := by kernel_rfl
theorem ty20 : tyI Try.prog 20 = some ⟨false, 1, [.nilIface], 16⟩ := by kernel_rfl
theorem el20 : elemI Try.prog 20 = none := by kernel_rfl
theorem ty21 : tyI Try.prog 21 = some ⟨false, 1, [(.int .i32 0)], 4⟩ := by kernel_rfl
theorem el21 : elemI Try.prog 21 = none := by kernel_rfl
theorem it21 : intI Try.prog 21 = some .i32 := by kernel_rfl
theorem ty22 : tyI Try.prog 22 = some ⟨false, 1, [(.slice none 0 0)], 24⟩ := by kernel_rfl
theorem el22 : elemI Try.prog 22 = some 113 := by kernel_rfl
theorem ty23 : tyI Try.prog 23 = some ⟨true, 2, [(.int .u8 0), (.slice none 0 0)], 32⟩ := by kernel_rfl
theorem el23 : elemI Try.prog 23 = none := by kernel_rfl
theorem pl23 : placesI Try.prog 23 = some [(0, 1), (1, 1)] := by kernel_rfl
theorem fi23_0 : fieldI Try.prog 23 0 = some (0, 1, false) := by kernel_rfl
theorem fi23_1 : fieldI Try.prog 23 1 = some (1, 1, false) := by kernel_rfl
theorem ty24 : tyI Try.prog 24 = some ⟨true, 2, [(.int .u8 0), (.slice none 0 0)], 32⟩ := by kernel_rfl
theorem el24 : elemI Try.prog 24 = none := by kernel_rfl
theorem pl24 : placesI Try.prog 24 = some [(0, 1), (1, 1)] := by kernel_rfl
theorem fi24_0 : fieldI Try.prog 24 0 = some (0, 1, false) := by kernel_rfl
theorem fi24_1 : fieldI Try.prog 24 1 = some (1, 1, false) := by kernel_rfl
theorem ty25 : tyI Try.prog 25 = some ⟨true, 4, [(.int .u8 0), (.int .u8 0), (.int .u8 0), (.int .u8 0)], 4⟩ := by kernel_rfl
theorem el25 : elemI Try.prog 25 = none := by kernel_rfl
theorem ar25 : arrI Try.prog 25 = some (4, 5) := by kernel_rfl
theorem pl25 : placesI Try.prog 25 = some [(0, 1), (1, 1), (2, 1), (3, 1)] := by kernel_rfl
theorem ty26 : tyI Try.prog 26 = some ⟨false, 1, [(.slice none 0 0)], 24⟩ := by kernel_rfl
theorem el26 : elemI Try.prog 26 = some 5 := by kernel_rfl
theorem ty27 : tyI Try.prog 27 = some ⟨true, 2, [(.int .i64 0), (.int .i64 0)], 16⟩ := by kernel_rfl
theorem el27 : elemI Try.prog 27 = none := by kernel_rfl
theorem eq27 : eqTy Try.prog 27 = some (.st [(0, 1, .it), (1, 1, .it)]) := by kernel_rfl
theorem pl27 : placesI Try.prog 27 = some [(0, 1), (1, 1)] := by kernel_rfl
theorem fi27_0 : fieldI Try.prog 27 0 = some (0, 1, false) := by kernel_rfl
theorem fi27_1 : fieldI Try.prog 27 1 = some (1, 1, false) := by kernel_rfl
theorem ty28 : tyI Try.prog 28 = some ⟨true, 2, [(.int .i64 0), (.int .i64 0)], 16⟩ := by kernel_rfl
theorem el28 : elemI Try.prog 28 = none := by kernel_rfl
theorem eq28 : eqTy Try.prog 28 = some (.st [(0, 1, .it), (1, 1, .it)]) := by kernel_rfl
theorem pl28 : placesI Try.prog 28 = some [(0, 1), (1, 1)] := by kernel_rfl
theorem fi28_0 : fieldI Try.prog 28 0 = some (0, 1, false) := by kernel_rfl
theorem fi28_1 : fieldI Try.prog 28 1 = some (1, 1, false) := by kernel_rfl
theorem ty29 : tyI Try.prog 29 = some ⟨false, 1, [(.slice none 0 0)], 24⟩ := by kernel_rfl
theorem el29 : elemI Try.prog 29 = some 35 := by kernel_rfl
theorem ty30 : tyI Try.prog 30 = some ⟨true, 4, [(.int .i64 0), (.int .i64 0), (.int .i64 0), (.slice none 0 0)], 48⟩ := by kernel_rfl
theorem el30 : elemI Try.prog 30 = none := by kernel_rfl
theorem pl30 : placesI Try.prog 30 = some [(0, 2), (2, 1), (3, 1)] := by kernel_rfl
theorem fi30_0 : fieldI Try.prog 30 0 = some (0, 2, true) := by kernel_rfl
theorem fi30_1 : fieldI Try.prog 30 1 = some (2, 1, false) := by kernel_rfl
theorem fi30_2 : fieldI Try.prog 30 2 = some (3, 1, false) := by kernel_rfl
theorem ty31 : tyI Try.prog 31 = some ⟨true, 4, [(.int .i64 0), (.int .i64 0), (.int .i64 0), (.slice none 0 0)], 48⟩ := by kernel_rfl
theorem el31 : elemI Try.prog 31 = none := by kernel_rfl
theorem pl31 : placesI Try.prog 31 = some [(0, 2), (2, 1), (3, 1)] := by kernel_rfl
theorem fi31_0 : fieldI Try.prog 31 0 = some (0, 2, true) := by kernel_rfl
theorem fi31_1 : fieldI Try.prog 31 1 = some (2, 1, false) := by kernel_rfl
theorem fi31_2 : fieldI Try.prog 31 2 = some (3, 1, false) := by kernel_rfl
theorem ty32 : tyI Try.prog 32 = some ⟨false, 1, [.nilFunc], 8⟩ := by kernel_rfl
theorem el32 : elemI Try.prog 32 = none := by kernel_rfl
theorem ty33 : tyI Try.prog 33 = some ⟨false, 1, [(.slice none 0 0)], 24⟩ := by kernel_rfl
theorem el33 : elemI Try.prog 33 = some 38 := by kernel_rfl
theorem ty34 : tyI Try.prog 34 = some ⟨true, 2, [(.int .i64 0), (.int .i64 0)], 16⟩ := by kernel_rfl
theorem el34 : elemI Try.prog 34 = none := by kernel_rfl
theorem eq34 : eqTy Try.prog 34 = some (.st [(0, 1, .it), (1, 1, .it)]) := by kernel_rfl
theorem pl34 : placesI Try.prog 34 = some [(0, 1), (1, 1)] := by kernel_rfl
theorem fi34_0 : fieldI Try.prog 34 0 = some (0, 1, false) := by kernel_rfl
theorem fi34_1 : fieldI Try.prog 34 1 = some (1, 1, false) := by kernel_rfl
theorem ty35 : tyI Try.prog 35 = some ⟨true, 2, [(.int .i64 0), (.int .i64 0)], 16⟩ := by kernel_rfl
theorem el35 : elemI Try.prog 35 = none := by kernel_rfl
theorem eq35 : eqTy Try.prog 35 = some (.st [(0, 1, .it), (1, 1, .it)]) := by kernel_rfl
theorem pl35 : placesI Try.prog 35 = some [(0, 1), (1, 1)] := by kernel_rfl
theorem fi35_0 : fieldI Try.prog 35 0 = some (0, 1, false) := by kernel_rfl
theorem fi35_1 : fieldI Try.prog 35 1 = some (1, 1, false) := by kernel_rfl
theorem ty36 : tyI Try.prog 36 = some ⟨false, 1, [.nilFunc], 8⟩ := by kernel_rfl
theorem el36 : elemI Try.prog 36 = none := by kernel_rfl
theorem ty37 : tyI Try.prog 37 = some ⟨true, 3, [(.int .i64 0), (.int .i64 0), (.int .i64 0)], 24⟩ := by kernel_rfl
theorem el37 : elemI Try.prog 37 = none := by kernel_rfl
theorem eq37 : eqTy Try.prog 37 = some (.st [(0, 1, .it), (1, 2, (.st [(0, 1, .it), (1, 1, .it)]))]) := by kernel_rfl
theorem pl37 : placesI Try.prog 37 = some [(0, 1), (1, 2)] := by kernel_rfl
theorem fi37_0 : fieldI Try.prog 37 0 = some (0, 1, false) := by kernel_rfl
theorem fi37_1 : fieldI Try.prog 37 1 = some (1, 2, true) := by kernel_rfl
theorem ty38 : tyI Try.prog 38 = some ⟨true, 3, [(.int .i64 0), (.int .i64 0), (.int .i64 0)], 24⟩ := by kernel_rfl
theorem el38 : elemI Try.prog 38 = none := by kernel_rfl
theorem eq38 : eqTy Try.prog 38 = some (.st [(0, 1, .it), (1, 2, (.st [(0, 1, .it), (1, 1, .it)]))]) := by kernel_rfl
theorem pl38 : placesI Try.prog 38 = some [(0, 1), (1, 2)] := by kernel_rfl
theorem fi38_0 : fieldI Try.prog 38 0 = some (0, 1, false) := by kernel_rfl
theorem fi38_1 : fieldI Try.prog 38 1 = some (1, 2, true) := by kernel_rfl
theorem ty39 : tyI Try.prog 39 = some ⟨true, 5, [(.int .i64 0), (.int .i64 0), (.int .i64 0), (.int .i64 0), (.int .i64 0)], 40⟩ := by kernel_rfl
theorem el39 : elemI Try.prog 39 = none := by kernel_rfl
theorem eq39 : eqTy Try.prog 39 = some (.st [(0, 1, .it), (1, 1, .it), (2, 1, .it), (3, 1, .it), (4, 1, .it)]) := by kernel_rfl
theorem pl39 : placesI Try.prog 39 = some [(0, 1), (1, 1), (2, 1), (3, 1), (4, 1)] := by kernel_rfl
theorem fi39_0 : fieldI Try.prog 39 0 = some (0, 1, false) := by kernel_rfl
theorem fi39_1 : fieldI Try.prog 39 1 = some (1, 1, false) := by kernel_rfl
theorem fi39_2 : fieldI Try.prog 39 2 = some (2, 1, false) := by kernel_rfl
theorem fi39_3 : fieldI Try.prog 39 3 = some (3, 1, false) := by kernel_rfl
theorem fi39_4 : fieldI Try.prog 39 4 = some (4, 1, false) := by kernel_rfl
theorem ty40 : tyI Try.prog 40 = some ⟨true, 5, [(.int .i64 0), (.int .i64 0), (.int .i64 0), (.int .i64 0), (.int .i64 0)], 40⟩ := by kernel_rfl
theorem el40 : elemI Try.prog 40 = none := by kernel_rfl
theorem eq40 : eqTy Try.prog 40 = some (.st [(0, 1, .it), (1, 1, .it), (2, 1, .it), (3, 1, .it), (4, 1, .it)]) := by kernel_rfl
theorem pl40 : placesI Try.prog 40 = some [(0, 1), (1, 1), (2, 1), (3, 1), (4, 1)] := by kernel_rfl
theorem fi40_0 : fieldI Try.prog 40 0 = some (0, 1, false) := by kernel_rfl
theorem fi40_1 : fieldI Try.prog 40 1 = some (1, 1, false) := by kernel_rfl
theorem fi40_2 : fieldI Try.prog 40 2 = some (2, 1, false) := by kernel_rfl
theorem fi40_3 : fieldI Try.prog 40 3 = some (3, 1, false) := by kernel_rfl
theorem fi40_4 : fieldI Try.prog 40 4 = some (4, 1, false) := by kernel_rfl
theorem ty41 : tyI Try.prog 41 = some ⟨false, 1, [(.slice none 0 0)], 24⟩ := by kernel_rfl
theorem el41 : elemI Try.prog 41 = some 3 := by kernel_rfl
theorem ty42 : tyI Try.prog 42 = some ⟨false, 1, [(.int .i64 0)], 8⟩ := by kernel_rfl
theorem el42 : elemI Try.prog 42 = none := by kernel_rfl
theorem it42 : intI Try.prog 42 = some .i64 := by kernel_rfl
theorem el43 : elemI Try.prog 43 = none := by kernel_rfl
theorem ty44 : tyI Try.prog 44 = some ⟨false, 1, [.nilFunc], 8⟩ := by kernel_rfl
theorem el44 : elemI Try.prog 44 = none := by kernel_rfl
theorem ty45 : tyI Try.prog 45 = some ⟨false, 1, [.nilFunc], 8⟩ := by kernel_rfl
theorem el45 : elemI Try.prog 45 = none := by kernel_rfl
theorem ty46 : tyI Try.prog 46 = some ⟨false, 1, [.nilFunc], 8⟩ := by kernel_rfl
theorem el46 : elemI Try.prog 46 = none := by kernel_rfl
theorem ty47 : tyI Try.prog 47 = some ⟨false, 1, [(.map none)], 8⟩ := by kernel_rfl
theorem el47 : elemI Try.prog 47 = none := by kernel_rfl
theorem mp47 : mapI Try.prog 47 = some ((.c (.v (.bool false))), (.int .i64)) := by kernel_rfl
theorem ty48 : tyI Try.prog 48 = some ⟨false, 1, [.nilFunc], 8⟩ := by kernel_rfl
theorem el48 : elemI Try.prog 48 = none := by kernel_rfl
theorem el49 : elemI Try.prog 49 = none := by kernel_rfl
theorem ty50 : tyI Try.prog 50 = some ⟨false, 1, [.nilFunc], 8⟩ := by kernel_rfl
theorem el50 : elemI Try.prog 50 = none := by kernel_rfl
theorem el51 : elemI Try.prog 51 = none := by kernel_rfl
theorem ty52 : tyI Try.prog 52 = some ⟨false, 1, [.nilFunc], 8⟩ := by kernel_rfl
theorem el52 : elemI Try.prog 52 = none := by kernel_rfl
theorem ty53 : tyI Try.prog 53 = some ⟨false, 1, [.nilFunc], 8⟩ := by kernel_rfl
theorem el53 : elemI Try.prog 53 = none := by kernel_rfl
theorem ty54 : tyI Try.prog 54 = some ⟨false, 1, [.nilFunc], 8⟩ := by kernel_rfl
theorem el54 : elemI Try.prog 54 = none := by kernel_rfl
theorem ty55 : tyI Try.prog 55 = some ⟨false, 1, [(.slice none 0 0)], 24⟩ := by kernel_rfl
theorem el55 : elemI Try.prog 55 = some 142 := by kernel_rfl
theorem ty56 : tyI Try.prog 56 = some ⟨false, 1, [(.slice none 0 0)], 24⟩ := by kernel_rfl
theorem el56 : elemI Try.prog 56 = some 93 := by kernel_rfl
theorem ty57 : tyI Try.prog 57 = some ⟨true, 3, [(.slice none 0 0), (.slice none 0 0), (.slice none 0 0)], 72⟩ := by kernel_rfl
theorem el57 : elemI Try.prog 57 = none := by kernel_rfl
theorem pl57 : placesI Try.prog 57 = some [(0, 1), (1, 1), (2, 1)] := by kernel_rfl
theorem fi57_0 : fieldI Try.prog 57 0 = some (0, 1, false) := by kernel_rfl
theorem fi57_1 : fieldI Try.prog 57 1 = some (1, 1, false) := by kernel_rfl
theorem fi57_2 : fieldI Try.prog 57 2 = some (2, 1, false) := by kernel_rfl
theorem ty58 : tyI Try.prog 58 = some ⟨true, 3, [(.slice none 0 0), (.slice none 0 0), (.slice none 0 0)], 72⟩ := by kernel_rfl
theorem el58 : elemI Try.prog 58 = none := by kernel_rfl
theorem pl58 : placesI Try.prog 58 = some [(0, 1), (1, 1), (2, 1)] := by kernel_rfl
theorem fi58_0 : fieldI Try.prog 58 0 = some (0, 1, false) := by kernel_rfl
theorem fi58_1 : fieldI Try.prog 58 1 = some (1, 1, false) := by kernel_rfl
theorem fi58_2 : fieldI Try.prog 58 2 = some (2, 1, false) := by kernel_rfl
theorem ty59 : tyI Try.prog 59 = some ⟨true, 8, [(.int .u8 0), (.int .u8 0), (.int .u8 0), (.int .u8 0), (.int .u8 0), (.int .u8 0), (.int .u8 0), (.int .u8 0)], 8⟩ := by kernel_rfl
theorem el59 : elemI Try.prog 59 = none := by kernel_rfl
theorem ar59 : arrI Try.prog 59 = some (8, 5) := by kernel_rfl
theorem pl59 : placesI Try.prog 59 = some [(0, 1), (1, 1), (2, 1), (3, 1), (4, 1), (5, 1), (6, 1), (7, 1)] := by kernel_rfl
theorem ty60 : tyI Try.prog 60 = some ⟨false, 1, [(.slice none 0 0)], 24⟩ := by kernel_rfl
theorem el60 : elemI Try.prog 60 = some 145 := by kernel_rfl
theorem ty61 : tyI Try.prog 61 = some ⟨false, 1, [(.slice none 0 0)], 24⟩ := by kernel_rfl
theorem el61 : elemI Try.prog 61 = some 109 := by kernel_rfl
theorem ty62 : tyI Try.prog 62 = some ⟨true, 2, [(.slice none 0 0), (.slice none 0 0)], 48⟩ := by kernel_rfl
theorem el62 : elemI Try.prog 62 = none := by kernel_rfl
theorem pl62 : placesI Try.prog 62 = some [(0, 1), (1, 1)] := by kernel_rfl
theorem fi62_0 : fieldI Try.prog 62 0 = some (0, 1, false) := by kernel_rfl
theorem fi62_1 : fieldI Try.prog 62 1 = some (1, 1, false) := by kernel_rfl
theorem ty63 : tyI Try.prog 63 = some ⟨true, 2, [(.slice none 0 0), (.slice none 0 0)], 48⟩ := by kernel_rfl
theorem el63 : elemI Try.prog 63 = none := by kernel_rfl
theorem pl63 : placesI Try.prog 63 = some [(0, 1), (1, 1)] := by kernel_rfl
theorem fi63_0 : fieldI Try.prog 63 0 = some (0, 1, false) := by kernel_rfl
theorem fi63_1 : fieldI Try.prog 63 1 = some (1, 1, false) := by kernel_rfl
theorem ty64 : tyI Try.prog 64 = some ⟨false, 1, [.nilFunc], 8⟩ := by kernel_rfl
theorem el64 : elemI Try.prog 64 = none := by kernel_rfl
theorem ty65 : tyI Try.prog 65 = some ⟨true, 2, [(.slice none 0 0), (.slice none 0 0)], 48⟩ := by kernel_rfl
theorem el65 : elemI Try.prog 65 = none := by kernel_rfl
theorem pl65 : placesI Try.prog 65 = some [(0, 1), (1, 1)] := by kernel_rfl
theorem fi65_0 : fieldI Try.prog 65 0 = some (0, 1, false) := by kernel_rfl
theorem fi65_1 : fieldI Try.prog 65 1 = some (1, 1, false) := by kernel_rfl
theorem ty66 : tyI Try.prog 66 = some ⟨true, 2, [(.slice none 0 0), (.slice none 0 0)], 48⟩ := by kernel_rfl
theorem el66 : elemI Try.prog 66 = none := by kernel_rfl
theorem pl66 : placesI Try.prog 66 = some [(0, 1), (1, 1)] := by kernel_rfl
theorem fi66_0 : fieldI Try.prog 66 0 = some (0, 1, false) := by kernel_rfl
theorem fi66_1 : fieldI Try.prog 66 1 = some (1, 1, false) := by kernel_rfl
theorem ty67 : tyI Try.prog 67 = some ⟨false, 1, [.nilFunc], 8⟩ := by kernel_rfl
theorem el67 : elemI Try.prog 67 = none := by kernel_rfl
theorem ty68 : tyI Try.prog 68 = some ⟨true, 4, [(.int .i64 0), (.int .i64 0), (.int .i64 0), (.int .i64 0)], 32⟩ := by kernel_rfl
theorem el68 : elemI Try.prog 68 = none := by kernel_rfl
theorem eq68 : eqTy Try.prog 68 = some (.st [(0, 1, .it), (1, 2, (.st [(0, 1, .it), (1, 1, .it)])), (3, 1, .it)]) := by kernel_rfl
theorem pl68 : placesI Try.prog 68 = some [(0, 1), (1, 2), (3, 1)] := by kernel_rfl
theorem fi68_0 : fieldI Try.prog 68 0 = some (0, 1, false) := by kernel_rfl
theorem fi68_1 : fieldI Try.prog 68 1 = some (1, 2, true) := by kernel_rfl
theorem fi68_2 : fieldI Try.prog 68 2 = some (3, 1, false) := by kernel_rfl
theorem ty69 : tyI Try.prog 69 = some ⟨true, 4, [(.int .i64 0), (.int .i64 0), (.int .i64 0), (.int .i64 0)], 32⟩ := by kernel_rfl
theorem el69 : elemI Try.prog 69 = none := by kernel_rfl
theorem eq69 : eqTy Try.prog 69 = some (.st [(0, 1, .it), (1, 2, (.st [(0, 1, .it), (1, 1, .it)])), (3, 1, .it)]) := by kernel_rfl
theorem pl69 : placesI Try.prog 69 = some [(0, 1), (1, 2), (3, 1)] := by kernel_rfl
theorem fi69_0 : fieldI Try.prog 69 0 = some (0, 1, false) := by kernel_rfl
theorem fi69_1 : fieldI Try.prog 69 1 = some (1, 2, true) := by kernel_rfl
theorem fi69_2 : fieldI Try.prog 69 2 = some (3, 1, false) := by kernel_rfl
theorem ty70 : tyI Try.prog 70 = some ⟨false, 1, [(.slice none 0 0)], 24⟩ := by kernel_rfl
theorem el70 : elemI Try.prog 70 = some 73 := by kernel_rfl
theorem ty71 : tyI Try.prog 71 = some ⟨false, 1, [(.int .u64 0)], 8⟩ := by kernel_rfl
theorem el71 : elemI Try.prog 71 = none := by kernel_rfl
theorem it71 : intI Try.prog 71 = some .u64 := by kernel_rfl
theorem ty72 : tyI Try.prog 72 = some ⟨true, 3, [(.int .i64 0), (.int .i64 0), (.int .i64 0)], 24⟩ := by kernel_rfl
theorem el72 : elemI Try.prog 72 = none := by kernel_rfl
theorem eq72 : eqTy Try.prog 72 = some (.st [(0, 1, .it), (1, 2, (.st [(0, 1, .it), (1, 1, .it)]))]) := by kernel_rfl
theorem pl72 : placesI Try.prog 72 = some [(0, 1), (1, 2)] := by kernel_rfl
theorem fi72_0 : fieldI Try.prog 72 0 = some (0, 1, false) := by kernel_rfl
theorem fi72_1 : fieldI Try.prog 72 1 = some (1, 2, true) := by kernel_rfl
theorem ty73 : tyI Try.prog 73 = some ⟨true, 3, [(.int .i64 0), (.int .i64 0), (.int .i64 0)], 24⟩ := by kernel_rfl
theorem el73 : elemI Try.prog 73 = none := by kernel_rfl
theorem eq73 : eqTy Try.prog 73 = some (.st [(0, 1, .it), (1, 2, (.st [(0, 1, .it), (1, 1, .it)]))]) := by kernel_rfl
theorem pl73 : placesI Try.prog 73 = some [(0, 1), (1, 2)] := by kernel_rfl
theorem fi73_0 : fieldI Try.prog 73 0 = some (0, 1, false) := by kernel_rfl
theorem fi73_1 : fieldI Try.prog 73 1 = some (1, 2, true) := by kernel_rfl
theorem ty74 : tyI Try.prog 74 = some ⟨false, 1, [(.slice none 0 0)], 24⟩ := by kernel_rfl
theorem el74 : elemI Try.prog 74 = some 78 := by kernel_rfl
theorem el75 : elemI Try.prog 75 = none := by kernel_rfl
theorem ty76 : tyI Try.prog 76 = some ⟨false, 1, [.nilFunc], 8⟩ := by kernel_rfl
theorem el76 : elemI Try.prog 76 = none := by kernel_rfl
theorem ty77 : tyI Try.prog 77 = some ⟨true, 2, [(.slice none 0 0), (.int .i64 0)], 32⟩ := by kernel_rfl
theorem el77 : elemI Try.prog 77 = none := by kernel_rfl
theorem pl77 : placesI Try.prog 77 = some [(0, 1), (1, 1)] := by kernel_rfl
theorem fi77_0 : fieldI Try.prog 77 0 = some (0, 1, false) := by kernel_rfl
theorem fi77_1 : fieldI Try.prog 77 1 = some (1, 1, false) := by kernel_rfl
theorem ty78 : tyI Try.prog 78 = some ⟨true, 2, [(.slice none 0 0), (.int .i64 0)], 32⟩ := by kernel_rfl
theorem el78 : elemI Try.prog 78 = none := by kernel_rfl
theorem pl78 : placesI Try.prog 78 = some [(0, 1), (1, 1)] := by kernel_rfl
theorem fi78_0 : fieldI Try.prog 78 0 = some (0, 1, false) := by kernel_rfl
theorem fi78_1 : fieldI Try.prog 78 1 = some (1, 1, false) := by kernel_rfl
theorem el79 : elemI Try.prog 79 = none := by kernel_rfl
theorem ty80 : tyI Try.prog 80 = some ⟨false, 1, [.nilFunc], 8⟩ := by kernel_rfl
theorem el80 : elemI Try.prog 80 = none := by kernel_rfl
theorem ty81 : tyI Try.prog 81 = some ⟨false, 1, [.nilFunc], 8⟩ := by kernel_rfl
theorem el81 : elemI Try.prog 81 = none := by kernel_rfl
theorem ty82 : tyI Try.prog 82 = some ⟨true, 5, [(.int .i64 0), (.int .i64 0), (.int .i64 0), (.int .i64 0), (.int .i64 0)], 40⟩ := by kernel_rfl
theorem el82 : elemI Try.prog 82 = none := by kernel_rfl
theorem ar82 : arrI Try.prog 82 = some (5, 3) := by kernel_rfl
theorem pl82 : placesI Try.prog 82 = some [(0, 1), (1, 1), (2, 1), (3, 1), (4, 1)] := by kernel_rfl
theorem ty83 : tyI Try.prog 83 = some ⟨false, 1, [.nilFunc], 8⟩ := by kernel_rfl
theorem el83 : elemI Try.prog 83 = none := by kernel_rfl
theorem ty84 : tyI Try.prog 84 = some ⟨false, 1, [(.slice none 0 0)], 24⟩ := by kernel_rfl
theorem el84 : elemI Try.prog 84 = some 28 := by kernel_rfl
theorem el85 : elemI Try.prog 85 = none := by kernel_rfl
theorem ty86 : tyI Try.prog 86 = some ⟨false, 1, [.nilFunc], 8⟩ := by kernel_rfl
theorem el86 : elemI Try.prog 86 = none := by kernel_rfl
theorem ty87 : tyI Try.prog 87 = some ⟨false, 1, [.nilFunc], 8⟩ := by kernel_rfl
theorem el87 : elemI Try.prog 87 = none := by kernel_rfl
theorem el88 : elemI Try.prog 88 = none := by kernel_rfl
theorem ty89 : tyI Try.prog 89 = some ⟨false, 1, [.nilFunc], 8⟩ := by kernel_rfl
theorem el89 : elemI Try.prog 89 = none := by kernel_rfl
theorem ty90 : tyI Try.prog 90 = some ⟨false, 1, [.nilFunc], 8⟩ := by kernel_rfl
theorem el90 : elemI Try.prog 90 = none := by kernel_rfl
theorem ty91 : tyI Try.prog 91 = some ⟨true, 7, [(.int .u8 0), (.int .u8 0), (.int .u8 0), (.int .u8 0), (.int .u8 0), (.int .u8 0), (.int .u8 0)], 7⟩ := by kernel_rfl
theorem el91 : elemI Try.prog 91 = none := by kernel_rfl
theorem ar91 : arrI Try.prog 91 = some (7, 5) := by kernel_rfl
theorem pl91 : placesI Try.prog 91 = some [(0, 1), (1, 1), (2, 1), (3, 1), (4, 1), (5, 1), (6, 1)] := by kernel_rfl
theorem ty92 : tyI Try.prog 92 = some ⟨true, 21, [(.int .u8 0), (.int .u8 0), (.int .u8 0), (.int .u8 0), (.int .u8 0), (.int .u8 0), (.int .u8 0), (.int .u8 0), (.int .u8 0), (.int .u8 0), (.int .u8 0), (.int .u8 0), (.int .u8 0), (.int .u8 0), (.int .u8 0), (.int .u8 0), (.int .u8 0), (.int .u8 0), (.int .u8 0), (.int .u8 0), (.int .u8 0)], 21⟩ := by kernel_rfl
theorem el92 : elemI Try.prog 92 = none := by kernel_rfl
theorem ar92 : arrI Try.prog 92 = some (3, 91) := by kernel_rfl
theorem pl92 : placesI Try.prog 92 = some [(0, 7), (7, 7), (14, 7)] := by kernel_rfl
theorem ty93 : tyI Try.prog 93 = some ⟨true, 3, [(.int .u8 0), (.int .u8 0), (.int .u8 0)], 3⟩ := by kernel_rfl
theorem el93 : elemI Try.prog 93 = none := by kernel_rfl
theorem ar93 : arrI Try.prog 93 = some (3, 5) := by kernel_rfl
theorem pl93 : placesI Try.prog 93 = some [(0, 1), (1, 1), (2, 1)] := by kernel_rfl
theorem ty94 : tyI Try.prog 94 = some ⟨true, 9, [(.int .u8 0), (.int .u8 0), (.int .u8 0), (.int .u8 0), (.int .u8 0), (.int .u8 0), (.int .u8 0), (.int .u8 0), (.int .u8 0)], 9⟩ := by kernel_rfl
theorem el94 : elemI Try.prog 94 = none := by kernel_rfl
theorem ar94 : arrI Try.prog 94 = some (3, 93) := by kernel_rfl
theorem pl94 : placesI Try.prog 94 = some [(0, 3), (3, 3), (6, 3)] := by kernel_rfl
theorem ty95 : tyI Try.prog 95 = some ⟨true, 31, [(.int .u8 0), (.int .u8 0), (.int .u8 0), (.int .u8 0), (.int .u8 0), (.int .u8 0), (.int .u8 0), (.int .u8 0), (.int .u8 0), (.int .u8 0), (.int .u8 0), (.int .u8 0), (.int .u8 0), (.int .u8 0), (.int .u8 0), (.int .u8 0), (.int .u8 0), (.int .u8 0), (.int .u8 0), (.int .u8 0), (.int .u8 0), (.int .u8 0), (.int .u8 0), (.int .u8 0), (.int .u8 0), (.int .u8 0), (.int .u8 0), (.int .u8 0), (.int .u8 0), (.int .u8 0), (.int .u8 0)], 31⟩ := by kernel_rfl
theorem el95 : elemI Try.prog 95 = none := by kernel_rfl
theorem pl95 : placesI Try.prog 95 = some [(0, 21), (21, 1), (22, 9)] := by kernel_rfl
theorem fi95_0 : fieldI Try.prog 95 0 = some (0, 21, true) := by kernel_rfl
theorem fi95_1 : fieldI Try.prog 95 1 = some (21, 1, false) := by kernel_rfl
theorem fi95_2 : fieldI Try.prog 95 2 = some (22, 9, true) := by kernel_rfl
theorem ty96 : tyI Try.prog 96 = some ⟨true, 31, [(.int .u8 0), (.int .u8 0), (.int .u8 0), (.int .u8 0), (.int .u8 0), (.int .u8 0), (.int .u8 0), (.int .u8 0), (.int .u8 0), (.int .u8 0), (.int .u8 0), (.int .u8 0), (.int .u8 0), (.int .u8 0), (.int .u8 0), (.int .u8 0), (.int .u8 0), (.int .u8 0), (.int .u8 0), (.int .u8 0), (.int .u8 0), (.int .u8 0), (.int .u8 0), (.int .u8 0), (.int .u8 0), (.int .u8 0), (.int .u8 0), (.int .u8 0), (.int .u8 0), (.int .u8 0), (.int .u8 0)], 31⟩ := by kernel_rfl
theorem el96 : elemI Try.prog 96 = none := by kernel_rfl
theorem pl96 : placesI Try.prog 96 = some [(0, 21), (21, 1), (22, 9)] := by kernel_rfl
theorem fi96_0 : fieldI Try.prog 96 0 = some (0, 21, true) := by kernel_rfl
theorem fi96_1 : fieldI Try.prog 96 1 = some (21, 1, false) := by kernel_rfl
theorem fi96_2 : fieldI Try.prog 96 2 = some (22, 9, true) := by kernel_rfl
theorem ty97 : tyI Try.prog 97 = some ⟨true, 12, [(.int .u8 0), (.int .u8 0), (.int .u8 0), (.int .u8 0), (.int .u8 0), (.int .u8 0), (.int .u8 0), (.int .u8 0), (.int .u8 0), (.int .u8 0), (.int .u8 0), (.int .u8 0)], 12⟩ := by kernel_rfl
theorem el97 : elemI Try.prog 97 = none := by kernel_rfl
theorem ar97 : arrI Try.prog 97 = some (3, 25) := by kernel_rfl
theorem pl97 : placesI Try.prog 97 = some [(0, 4), (4, 4), (8, 4)] := by kernel_rfl
theorem ty98 : tyI Try.prog 98 = some ⟨true, 6, [(.int .u8 0), (.int .u8 0), (.int .u8 0), (.int .u8 0), (.int .u8 0), (.int .u8 0)], 6⟩ := by kernel_rfl
theorem el98 : elemI Try.prog 98 = none := by kernel_rfl
theorem ar98 : arrI Try.prog 98 = some (2, 93) := by kernel_rfl
theorem pl98 : placesI Try.prog 98 = some [(0, 3), (3, 3)] := by kernel_rfl
theorem ty99 : tyI Try.prog 99 = some ⟨true, 25, [(.int .u8 0), (.int .u8 0), (.int .u8 0), (.int .u8 0), (.int .u8 0), (.int .u8 0), (.int .u8 0), (.int .u8 0), (.int .u8 0), (.int .u8 0), (.int .u8 0), (.int .u8 0), (.int .u8 0), (.int .u8 0), (.int .u8 0), (.int .u8 0), (.int .u8 0), (.int .u8 0), (.int .u8 0), (.int .u8 0), (.int .u8 0), (.int .u8 0), (.int .u8 0), (.int .u8 0), (.int .u8 0)], 25⟩ := by kernel_rfl
theorem el99 : elemI Try.prog 99 = none := by kernel_rfl
theorem pl99 : placesI Try.prog 99 = some [(0, 12), (12, 6), (18, 7)] := by kernel_rfl
theorem fi99_0 : fieldI Try.prog 99 0 = some (0, 12, true) := by kernel_rfl
theorem fi99_1 : fieldI Try.prog 99 1 = some (12, 6, true) := by kernel_rfl
theorem fi99_2 : fieldI Try.prog 99 2 = some (18, 7, true) := by kernel_rfl
theorem ty100 : tyI Try.prog 100 = some ⟨true, 25, [(.int .u8 0), (.int .u8 0), (.int .u8 0), (.int .u8 0), (.int .u8 0), (.int .u8 0), (.int .u8 0), (.int .u8 0), (.int .u8 0), (.int .u8 0), (.int .u8 0), (.int .u8 0), (.int .u8 0), (.int .u8 0), (.int .u8 0), (.int .u8 0), (.int .u8 0), (.int .u8 0), (.int .u8 0), (.int .u8 0), (.int .u8 0), (.int .u8 0), (.int .u8 0), (.int .u8 0), (.int .u8 0)], 25⟩ := by kernel_rfl
theorem el100 : elemI Try.prog 100 = none := by kernel_rfl
theorem pl100 : placesI Try.prog 100 = some [(0, 12), (12, 6), (18, 7)] := by kernel_rfl
theorem fi100_0 : fieldI Try.prog 100 0 = some (0, 12, true) := by kernel_rfl
theorem fi100_1 : fieldI Try.prog 100 1 = some (12, 6, true) := by kernel_rfl
theorem fi100_2 : fieldI Try.prog 100 2 = some (18, 7, true) := by kernel_rfl
theorem ty101 : tyI Try.prog 101 = some ⟨false, 1, [(.slice none 0 0)], 24⟩ := by kernel_rfl
theorem el101 : elemI Try.prog 101 = some 169 := by kernel_rfl
theorem el102 : elemI Try.prog 102 = none := by kernel_rfl
theorem ty103 : tyI Try.prog 103 = some ⟨false, 1, [.nilFunc], 8⟩ := by kernel_rfl
theorem el103 : elemI Try.prog 103 = none := by kernel_rfl
theorem el104 : elemI Try.prog 104 = none := by kernel_rfl
theorem ty105 : tyI Try.prog 105 = some ⟨false, 1, [.nilFunc], 8⟩ := by kernel_rfl
theorem el105 : elemI Try.prog 105 = none := by kernel_rfl
theorem ty106 : tyI Try.prog 106 = some ⟨false, 1, [.nilFunc], 8⟩ := by kernel_rfl
theorem el106 : elemI Try.prog 106 = none := by kernel_rfl
theorem ty107 : tyI Try.prog 107 = some ⟨false, 1, [.nilFunc], 8⟩ := by kernel_rfl
theorem el107 : elemI Try.prog 107 = none := by kernel_rfl
theorem ty108 : tyI Try.prog 108 = some ⟨true, 4, [(.int .i64 0), (.int .i64 0), (.int .i64 0), (.int .i64 0)], 32⟩ := by kernel_rfl
theorem el108 : elemI Try.prog 108 = none := by kernel_rfl
theorem eq108 : eqTy Try.prog 108 = some (.st [(0, 1, .it), (1, 1, .it), (2, 2, (.st [(0, 1, .it), (1, 1, .it)]))]) := by kernel_rfl
theorem pl108 : placesI Try.prog 108 = some [(0, 1), (1, 1), (2, 2)] := by kernel_rfl
theorem fi108_0 : fieldI Try.prog 108 0 = some (0, 1, false) := by kernel_rfl
theorem fi108_1 : fieldI Try.prog 108 1 = some (1, 1, false) := by kernel_rfl
theorem fi108_2 : fieldI Try.prog 108 2 = some (2, 2, true) := by kernel_rfl
theorem ty109 : tyI Try.prog 109 = some ⟨true, 4, [(.int .i64 0), (.int .i64 0), (.int .i64 0), (.int .i64 0)], 32⟩ := by kernel_rfl
theorem el109 : elemI Try.prog 109 = none := by kernel_rfl
theorem eq109 : eqTy Try.prog 109 = some (.st [(0, 1, .it), (1, 1, .it), (2, 2, (.st [(0, 1, .it), (1, 1, .it)]))]) := by kernel_rfl
theorem pl109 : placesI Try.prog 109 = some [(0, 1), (1, 1), (2, 2)] := by kernel_rfl
theorem fi109_0 : fieldI Try.prog 109 0 = some (0, 1, false) := by kernel_rfl
theorem fi109_1 : fieldI Try.prog 109 1 = some (1, 1, false) := by kernel_rfl
theorem fi109_2 : fieldI Try.prog 109 2 = some (2, 2, true) := by kernel_rfl
theorem ty110 : tyI Try.prog 110 = some ⟨true, 3, [(.slice none 0 0), (.slice none 0 0), (.slice none 0 0)], 72⟩ := by kernel_rfl
theorem el110 : elemI Try.prog 110 = none := by kernel_rfl
theorem ar110 : arrI Try.prog 110 = some (3, 84) := by kernel_rfl
theorem pl110 : placesI Try.prog 110 = some [(0, 1), (1, 1), (2, 1)] := by kernel_rfl
theorem ty111 : tyI Try.prog 111 = some ⟨true, 3, [(.int .i64 0), (.int .i64 0), (.int .i64 0)], 24⟩ := by kernel_rfl
theorem el111 : elemI Try.prog 111 = none := by kernel_rfl
theorem ar111 : arrI Try.prog 111 = some (3, 3) := by kernel_rfl
theorem pl111 : placesI Try.prog 111 = some [(0, 1), (1, 1), (2, 1)] := by kernel_rfl
theorem ty112 : tyI Try.prog 112 = some ⟨false, 1, [.nilFunc], 8⟩ := by kernel_rfl
theorem el112 : elemI Try.prog 112 = none := by kernel_rfl
theorem ty113 : tyI Try.prog 113 = some ⟨true, 2, [(.int .u8 0), (.int .u8 0)], 2⟩ := by kernel_rfl
theorem el113 : elemI Try.prog 113 = none := by kernel_rfl
theorem ar113 : arrI Try.prog 113 = some (2, 5) := by kernel_rfl
theorem pl113 : placesI Try.prog 113 = some [(0, 1), (1, 1)] := by kernel_rfl
theorem ty114 : tyI Try.prog 114 = some ⟨false, 1, [.nilFunc], 8⟩ := by kernel_rfl
theorem el114 : elemI Try.prog 114 = none := by kernel_rfl
theorem ty115 : tyI Try.prog 115 = some ⟨false, 1, [.nilFunc], 8⟩ := by kernel_rfl
theorem el115 : elemI Try.prog 115 = none := by kernel_rfl
theorem ty116 : tyI Try.prog 116 = some ⟨false, 1, [.nilFunc], 8⟩ := by kernel_rfl
theorem el116 : elemI Try.prog 116 = none := by kernel_rfl
theorem ty117 : tyI Try.prog 117 = some ⟨true, 6, [(.int .i64 0), (.int .i64 0), (.int .i64 0), (.int .i64 0), (.int .i64 0), (.slice none 0 0)], 64⟩ := by kernel_rfl
theorem el117 : elemI Try.prog 117 = none := by kernel_rfl
theorem pl117 : placesI Try.prog 117 = some [(0, 5), (5, 1)] := by kernel_rfl
theorem fi117_0 : fieldI Try.prog 117 0 = some (0, 5, true) := by kernel_rfl
theorem fi117_1 : fieldI Try.prog 117 1 = some (5, 1, false) := by kernel_rfl
theorem ty118 : tyI Try.prog 118 = some ⟨true, 6, [(.int .i64 0), (.int .i64 0), (.int .i64 0), (.int .i64 0), (.int .i64 0), (.slice none 0 0)], 64⟩ := by kernel_rfl
theorem el118 : elemI Try.prog 118 = none := by kernel_rfl
theorem pl118 : placesI Try.prog 118 = some [(0, 5), (5, 1)] := by kernel_rfl
theorem fi118_0 : fieldI Try.prog 118 0 = some (0, 5, true) := by kernel_rfl
theorem fi118_1 : fieldI Try.prog 118 1 = some (5, 1, false) := by kernel_rfl
theorem ty119 : tyI Try.prog 119 = some ⟨false, 1, [.nilFunc], 8⟩ := by kernel_rfl
theorem el119 : elemI Try.prog 119 = none := by kernel_rfl
theorem ty120 : tyI Try.prog 120 = some ⟨true, 6, [(.int .i64 0), (.int .i64 0), (.int .i64 0), (.int .i64 0), (.int .i64 0), (.int .i64 0)], 48⟩ := by kernel_rfl
theorem el120 : elemI Try.prog 120 = none := by kernel_rfl
theorem eq120 : eqTy Try.prog 120 = some (.st [(0, 1, .it), (1, 1, .it), (2, 1, .it), (3, 1, .it), (4, 1, .it), (5, 1, .it)]) := by kernel_rfl
theorem pl120 : placesI Try.prog 120 = some [(0, 1), (1, 1), (2, 1), (3, 1), (4, 1), (5, 1)] := by kernel_rfl
theorem fi120_0 : fieldI Try.prog 120 0 = some (0, 1, false) := by kernel_rfl
theorem fi120_1 : fieldI Try.prog 120 1 = some (1, 1, false) := by kernel_rfl
theorem fi120_2 : fieldI Try.prog 120 2 = some (2, 1, false) := by kernel_rfl
theorem fi120_3 : fieldI Try.prog 120 3 = some (3, 1, false) := by kernel_rfl
theorem fi120_4 : fieldI Try.prog 120 4 = some (4, 1, false) := by kernel_rfl
theorem fi120_5 : fieldI Try.prog 120 5 = some (5, 1, false) := by kernel_rfl
theorem ty121 : tyI Try.prog 121 = some ⟨true, 6, [(.int .i64 0), (.int .i64 0), (.int .i64 0), (.int .i64 0), (.int .i64 0), (.int .i64 0)], 48⟩ := by kernel_rfl
theorem el121 : elemI Try.prog 121 = none := by kernel_rfl
theorem eq121 : eqTy Try.prog 121 = some (.st [(0, 1, .it), (1, 1, .it), (2, 1, .it), (3, 1, .it), (4, 1, .it), (5, 1, .it)]) := by kernel_rfl
theorem pl121 : placesI Try.prog 121 = some [(0, 1), (1, 1), (2, 1), (3, 1), (4, 1), (5, 1)] := by kernel_rfl
theorem fi121_0 : fieldI Try.prog 121 0 = some (0, 1, false) := by kernel_rfl
theorem fi121_1 : fieldI Try.prog 121 1 = some (1, 1, false) := by kernel_rfl
theorem fi121_2 : fieldI Try.prog 121 2 = some (2, 1, false) := by kernel_rfl
theorem fi121_3 : fieldI Try.prog 121 3 = some (3, 1, false) := by kernel_rfl
theorem fi121_4 : fieldI Try.prog 121 4 = some (4, 1, false) := by kernel_rfl
theorem fi121_5 : fieldI Try.prog 121 5 = some (5, 1, false) := by kernel_rfl
theorem ty122 : tyI Try.prog 122 = some ⟨true, 7, [(.int .i64 0), (.int .i64 0), (.int .i64 0), (.int .i64 0), (.int .i64 0), (.int .i64 0), (.int .i64 0)], 56⟩ := by kernel_rfl
theorem el122 : elemI Try.prog 122 = none := by kernel_rfl
theorem eq122 : eqTy Try.prog 122 = some (.st [(0, 1, .it), (1, 1, .it), (2, 1, .it), (3, 2, (.st [(0, 1, .it), (1, 1, .it)])), (5, 2, (.st [(0, 1, .it), (1, 1, .it)]))]) := by kernel_rfl
theorem pl122 : placesI Try.prog 122 = some [(0, 1), (1, 1), (2, 1), (3, 2), (5, 2)] := by kernel_rfl
theorem fi122_0 : fieldI Try.prog 122 0 = some (0, 1, false) := by kernel_rfl
theorem fi122_1 : fieldI Try.prog 122 1 = some (1, 1, false) := by kernel_rfl
theorem fi122_2 : fieldI Try.prog 122 2 = some (2, 1, false) := by kernel_rfl
theorem fi122_3 : fieldI Try.prog 122 3 = some (3, 2, true) := by kernel_rfl
theorem fi122_4 : fieldI Try.prog 122 4 = some (5, 2, true) := by kernel_rfl
theorem ty123 : tyI Try.prog 123 = some ⟨true, 7, [(.int .i64 0), (.int .i64 0), (.int .i64 0), (.int .i64 0), (.int .i64 0), (.int .i64 0), (.int .i64 0)], 56⟩ := by kernel_rfl
theorem el123 : elemI Try.prog 123 = none := by kernel_rfl
theorem eq123 : eqTy Try.prog 123 = some (.st [(0, 1, .it), (1, 1, .it), (2, 1, .it), (3, 2, (.st [(0, 1, .it), (1, 1, .it)])), (5, 2, (.st [(0, 1, .it), (1, 1, .it)]))]) := by kernel_rfl
theorem pl123 : placesI Try.prog 123 = some [(0, 1), (1, 1), (2, 1), (3, 2), (5, 2)] := by kernel_rfl
theorem fi123_0 : fieldI Try.prog 123 0 = some (0, 1, false) := by kernel_rfl
theorem fi123_1 : fieldI Try.prog 123 1 = some (1, 1, false) := by kernel_rfl
theorem fi123_2 : fieldI Try.prog 123 2 = some (2, 1, false) := by kernel_rfl
theorem fi123_3 : fieldI Try.prog 123 3 = some (3, 2, true) := by kernel_rfl
theorem fi123_4 : fieldI Try.prog 123 4 = some (5, 2, true) := by kernel_rfl
theorem el124 : elemI Try.prog 124 = none := by kernel_rfl
theorem ty125 : tyI Try.prog 125 = some ⟨false, 1, [.nilFunc], 8⟩ := by kernel_rfl
theorem el125 : elemI Try.prog 125 = none := by kernel_rfl
theorem el126 : elemI Try.prog 126 = none := by kernel_rfl
theorem ty127 : tyI Try.prog 127 = some ⟨false, 1, [.nilFunc], 8⟩ := by kernel_rfl
theorem el127 : elemI Try.prog 127 = none := by kernel_rfl
theorem ty128 : tyI Try.prog 128 = some ⟨true, 3, [(.int .i64 0), (.int .i64 0), (.int .i64 0)], 24⟩ := by kernel_rfl
theorem el128 : elemI Try.prog 128 = none := by kernel_rfl
theorem eq128 : eqTy Try.prog 128 = some (.st [(0, 1, .it), (1, 2, (.st [(0, 1, .it), (1, 1, .it)]))]) := by kernel_rfl
theorem pl128 : placesI Try.prog 128 = some [(0, 1), (1, 2)] := by kernel_rfl
theorem fi128_0 : fieldI Try.prog 128 0 = some (0, 1, false) := by kernel_rfl
theorem fi128_1 : fieldI Try.prog 128 1 = some (1, 2, true) := by kernel_rfl
theorem ty129 : tyI Try.prog 129 = some ⟨true, 3, [(.int .i64 0), (.int .i64 0), (.int .i64 0)], 24⟩ := by kernel_rfl
theorem el129 : elemI Try.prog 129 = none := by kernel_rfl
theorem eq129 : eqTy Try.prog 129 = some (.st [(0, 1, .it), (1, 2, (.st [(0, 1, .it), (1, 1, .it)]))]) := by kernel_rfl
theorem pl129 : placesI Try.prog 129 = some [(0, 1), (1, 2)] := by kernel_rfl
theorem fi129_0 : fieldI Try.prog 129 0 = some (0, 1, false) := by kernel_rfl
theorem fi129_1 : fieldI Try.prog 129 1 = some (1, 2, true) := by kernel_rfl
theorem ty130 : tyI Try.prog 130 = some ⟨false, 1, [(.slice none 0 0)], 24⟩ := by kernel_rfl
theorem el130 : elemI Try.prog 130 = some 129 := by kernel_rfl
theorem ty131 : tyI Try.prog 131 = some ⟨false, 1, [.nilFunc], 8⟩ := by kernel_rfl
theorem el131 : elemI Try.prog 131 = none := by kernel_rfl
theorem ty132 : tyI Try.prog 132 = some ⟨false, 1, [.nilFunc], 8⟩ := by kernel_rfl
theorem el132 : elemI Try.prog 132 = none := by kernel_rfl
theorem el133 : elemI Try.prog 133 = none := by kernel_rfl
theorem ty134 : tyI Try.prog 134 = some ⟨false, 1, [.nilFunc], 8⟩ := by kernel_rfl
theorem el134 : elemI Try.prog 134 = none := by kernel_rfl
theorem ty135 : tyI Try.prog 135 = some ⟨false, 1, [.nilFunc], 8⟩ := by kernel_rfl
theorem el135 : elemI Try.prog 135 = none := by kernel_rfl
theorem ty136 : tyI Try.prog 136 = some ⟨false, 1, [.nilFunc], 8⟩ := by kernel_rfl
theorem el136 : elemI Try.prog 136 = none := by kernel_rfl
theorem ty137 : tyI Try.prog 137 = some ⟨false, 1, [.nilFunc], 8⟩ := by kernel_rfl
theorem el137 : elemI Try.prog 137 = none := by kernel_rfl
theorem ty138 : tyI Try.prog 138 = some ⟨true, 4, [(.int .i64 0), (.int .i64 0), (.int .i64 0), (.slice none 0 0)], 48⟩ := by kernel_rfl
theorem el138 : elemI Try.prog 138 = none := by kernel_rfl
theorem pl138 : placesI Try.prog 138 = some [(0, 4)] := by kernel_rfl
theorem fi138_0 : fieldI Try.prog 138 0 = some (0, 4, true) := by kernel_rfl
theorem ty139 : tyI Try.prog 139 = some ⟨true, 4, [(.int .i64 0), (.int .i64 0), (.int .i64 0), (.slice none 0 0)], 48⟩ := by kernel_rfl
theorem el139 : elemI Try.prog 139 = none := by kernel_rfl
theorem pl139 : placesI Try.prog 139 = some [(0, 4)] := by kernel_rfl
theorem fi139_0 : fieldI Try.prog 139 0 = some (0, 4, true) := by kernel_rfl
theorem ty140 : tyI Try.prog 140 = some ⟨false, 1, [.nilFunc], 8⟩ := by kernel_rfl
theorem el140 : elemI Try.prog 140 = none := by kernel_rfl
theorem ty141 : tyI Try.prog 141 = some ⟨false, 1, [.nilFunc], 8⟩ := by kernel_rfl
theorem el141 : elemI Try.prog 141 = none := by kernel_rfl
theorem ty142 : tyI Try.prog 142 = some ⟨true, 6, [(.int .u8 0), (.int .u8 0), (.int .u8 0), (.int .u8 0), (.int .u8 0), (.int .u8 0)], 6⟩ := by kernel_rfl
theorem el142 : elemI Try.prog 142 = none := by kernel_rfl
theorem ar142 : arrI Try.prog 142 = some (6, 5) := by kernel_rfl
theorem pl142 : placesI Try.prog 142 = some [(0, 1), (1, 1), (2, 1), (3, 1), (4, 1), (5, 1)] := by kernel_rfl
theorem ty143 : tyI Try.prog 143 = some ⟨false, 1, [(.int .i64 0)], 8⟩ := by kernel_rfl
theorem el143 : elemI Try.prog 143 = none := by kernel_rfl
theorem it143 : intI Try.prog 143 = some .i64 := by kernel_rfl
theorem ty144 : tyI Try.prog 144 = some ⟨true, 8, [(.int .i64 0), (.int .i64 0), (.int .i64 0), (.int .i64 0), (.int .i64 0), (.int .i64 0), (.int .i64 0), (.int .i64 0)], 64⟩ := by kernel_rfl
theorem el144 : elemI Try.prog 144 = none := by kernel_rfl
theorem eq144 : eqTy Try.prog 144 = some (.st [(0, 1, .it), (1, 1, .it), (2, 2, (.st [(0, 1, .it), (1, 1, .it)])), (4, 2, (.st [(0, 1, .it), (1, 1, .it)])), (6, 1, .it), (7, 1, .it)]) := by kernel_rfl
theorem pl144 : placesI Try.prog 144 = some [(0, 1), (1, 1), (2, 2), (4, 2), (6, 1), (7, 1)] := by kernel_rfl
theorem fi144_0 : fieldI Try.prog 144 0 = some (0, 1, false) := by kernel_rfl
theorem fi144_1 : fieldI Try.prog 144 1 = some (1, 1, false) := by kernel_rfl
theorem fi144_2 : fieldI Try.prog 144 2 = some (2, 2, true) := by kernel_rfl
theorem fi144_3 : fieldI Try.prog 144 3 = some (4, 2, true) := by kernel_rfl
theorem fi144_4 : fieldI Try.prog 144 4 = some (6, 1, false) := by kernel_rfl
theorem fi144_5 : fieldI Try.prog 144 5 = some (7, 1, false) := by kernel_rfl
theorem ty145 : tyI Try.prog 145 = some ⟨true, 8, [(.int .i64 0), (.int .i64 0), (.int .i64 0), (.int .i64 0), (.int .i64 0), (.int .i64 0), (.int .i64 0), (.int .i64 0)], 64⟩ := by kernel_rfl
theorem el145 : elemI Try.prog 145 = none := by kernel_rfl
theorem eq145 : eqTy Try.prog 145 = some (.st [(0, 1, .it), (1, 1, .it), (2, 2, (.st [(0, 1, .it), (1, 1, .it)])), (4, 2, (.st [(0, 1, .it), (1, 1, .it)])), (6, 1, .it), (7, 1, .it)]) := by kernel_rfl
theorem pl145 : placesI Try.prog 145 = some [(0, 1), (1, 1), (2, 2), (4, 2), (6, 1), (7, 1)] := by kernel_rfl
theorem fi145_0 : fieldI Try.prog 145 0 = some (0, 1, false) := by kernel_rfl
theorem fi145_1 : fieldI Try.prog 145 1 = some (1, 1, false) := by kernel_rfl
theorem fi145_2 : fieldI Try.prog 145 2 = some (2, 2, true) := by kernel_rfl
theorem fi145_3 : fieldI Try.prog 145 3 = some (4, 2, true) := by kernel_rfl
theorem fi145_4 : fieldI Try.prog 145 4 = some (6, 1, false) := by kernel_rfl
theorem fi145_5 : fieldI Try.prog 145 5 = some (7, 1, false) := by kernel_rfl
theorem ty146 : tyI Try.prog 146 = some ⟨true, 2, [(.slice none 0 0), (.slice none 0 0)], 48⟩ := by kernel_rfl
theorem el146 : elemI Try.prog 146 = none := by kernel_rfl
theorem ar146 : arrI Try.prog 146 = some (2, 41) := by kernel_rfl
theorem pl146 : placesI Try.prog 146 = some [(0, 1), (1, 1)] := by kernel_rfl
theorem ty147 : tyI Try.prog 147 = some ⟨true, 5, [(.int .i64 0), (.int .i64 0), (.int .i64 0), (.int .i64 0), (.slice none 0 0)], 56⟩ := by kernel_rfl
theorem el147 : elemI Try.prog 147 = none := by kernel_rfl
theorem pl147 : placesI Try.prog 147 = some [(0, 4), (4, 1)] := by kernel_rfl
theorem fi147_0 : fieldI Try.prog 147 0 = some (0, 4, true) := by kernel_rfl
theorem fi147_1 : fieldI Try.prog 147 1 = some (4, 1, false) := by kernel_rfl
theorem ty148 : tyI Try.prog 148 = some ⟨true, 5, [(.int .i64 0), (.int .i64 0), (.int .i64 0), (.int .i64 0), (.slice none 0 0)], 56⟩ := by kernel_rfl
theorem el148 : elemI Try.prog 148 = none := by kernel_rfl
theorem pl148 : placesI Try.prog 148 = some [(0, 4), (4, 1)] := by kernel_rfl
theorem fi148_0 : fieldI Try.prog 148 0 = some (0, 4, true) := by kernel_rfl
theorem fi148_1 : fieldI Try.prog 148 1 = some (4, 1, false) := by kernel_rfl
theorem el149 : elemI Try.prog 149 = none := by kernel_rfl
theorem ty150 : tyI Try.prog 150 = some ⟨false, 1, [.nilFunc], 8⟩ := by kernel_rfl
theorem el150 : elemI Try.prog 150 = none := by kernel_rfl
theorem el151 : elemI Try.prog 151 = none := by kernel_rfl
theorem ty152 : tyI Try.prog 152 = some ⟨false, 1, [.nilFunc], 8⟩ := by kernel_rfl
theorem el152 : elemI Try.prog 152 = none := by kernel_rfl
theorem ty153 : tyI Try.prog 153 = some ⟨false, 1, [.nilFunc], 8⟩ := by kernel_rfl
theorem el153 : elemI Try.prog 153 = none := by kernel_rfl
theorem ty154 : tyI Try.prog 154 = some ⟨false, 1, [.nilFunc], 8⟩ := by kernel_rfl
theorem el154 : elemI Try.prog 154 = none := by kernel_rfl
theorem ty155 : tyI Try.prog 155 = some ⟨false, 1, [(.slice none 0 0)], 24⟩ := by kernel_rfl
theorem el155 : elemI Try.prog 155 = some 41 := by kernel_rfl
theorem el156 : elemI Try.prog 156 = none := by kernel_rfl
theorem ty157 : tyI Try.prog 157 = some ⟨false, 1, [.nilFunc], 8⟩ := by kernel_rfl
theorem el157 : elemI Try.prog 157 = none := by kernel_rfl
theorem ty158 : tyI Try.prog 158 = some ⟨false, 1, [.nilFunc], 8⟩ := by kernel_rfl
theorem el158 : elemI Try.prog 158 = none := by kernel_rfl
theorem ty159 : tyI Try.prog 159 = some ⟨false, 1, [.nilFunc], 8⟩ := by kernel_rfl
theorem el159 : elemI Try.prog 159 = none := by kernel_rfl
theorem ty160 : tyI Try.prog 160 = some ⟨true, 5, [(.slice none 0 0), (.slice none 0 0), (.slice none 0 0), (.slice none 0 0), (.int .i64 0)], 104⟩ := by kernel_rfl
theorem el160 : elemI Try.prog 160 = none := by kernel_rfl
theorem pl160 : placesI Try.prog 160 = some [(0, 2), (2, 2), (4, 1)] := by kernel_rfl
theorem fi160_0 : fieldI Try.prog 160 0 = some (0, 2, true) := by kernel_rfl
theorem fi160_1 : fieldI Try.prog 160 1 = some (2, 2, true) := by kernel_rfl
theorem fi160_2 : fieldI Try.prog 160 2 = some (4, 1, false) := by kernel_rfl
theorem ty161 : tyI Try.prog 161 = some ⟨true, 5, [(.slice none 0 0), (.slice none 0 0), (.slice none 0 0), (.slice none 0 0), (.int .i64 0)], 104⟩ := by kernel_rfl
theorem el161 : elemI Try.prog 161 = none := by kernel_rfl
theorem pl161 : placesI Try.prog 161 = some [(0, 2), (2, 2), (4, 1)] := by kernel_rfl
theorem fi161_0 : fieldI Try.prog 161 0 = some (0, 2, true) := by kernel_rfl
theorem fi161_1 : fieldI Try.prog 161 1 = some (2, 2, true) := by kernel_rfl
theorem fi161_2 : fieldI Try.prog 161 2 = some (4, 1, false) := by kernel_rfl
theorem el162 : elemI Try.prog 162 = none := by kernel_rfl
theorem ty163 : tyI Try.prog 163 = some ⟨false, 1, [.nilFunc], 8⟩ := by kernel_rfl
theorem el163 : elemI Try.prog 163 = none := by kernel_rfl
theorem ty164 : tyI Try.prog 164 = some ⟨false, 1, [.nilFunc], 8⟩ := by kernel_rfl
theorem el164 : elemI Try.prog 164 = none := by kernel_rfl
theorem ty165 : tyI Try.prog 165 = some ⟨false, 1, [(.map none)], 8⟩ := by kernel_rfl
theorem el165 : elemI Try.prog 165 = none := by kernel_rfl
theorem mp165 : mapI Try.prog 165 = some ((.c (.v (.int .i64 0))), (.int .i64)) := by kernel_rfl
theorem ty166 : tyI Try.prog 166 = some ⟨false, 1, [.nilFunc], 8⟩ := by kernel_rfl
theorem el166 : elemI Try.prog 166 = none := by kernel_rfl
theorem ty167 : tyI Try.prog 167 = some ⟨false, 1, [.nilFunc], 8⟩ := by kernel_rfl
theorem el167 : elemI Try.prog 167 = none := by kernel_rfl
theorem ty168 : tyI Try.prog 168 = some ⟨true, 7, [(.int .i64 0), (.slice none 0 0), (.int .i64 0), (.slice none 0 0), (.slice none 0 0), (.int .i64 0), (.bool false)], 104⟩ := by kernel_rfl
theorem el168 : elemI Try.prog 168 = none := by kernel_rfl
theorem pl168 : placesI Try.prog 168 = some [(0, 1), (1, 1), (2, 1), (3, 1), (4, 1), (5, 1), (6, 1)] := by kernel_rfl
theorem fi168_0 : fieldI Try.prog 168 0 = some (0, 1, false) := by kernel_rfl
theorem fi168_1 : fieldI Try.prog 168 1 = some (1, 1, false) := by kernel_rfl
theorem fi168_2 : fieldI Try.prog 168 2 = some (2, 1, false) := by kernel_rfl
theorem fi168_3 : fieldI Try.prog 168 3 = some (3, 1, false) := by kernel_rfl
theorem fi168_4 : fieldI Try.prog 168 4 = some (4, 1, false) := by kernel_rfl
theorem fi168_5 : fieldI Try.prog 168 5 = some (5, 1, false) := by kernel_rfl
theorem fi168_6 : fieldI Try.prog 168 6 = some (6, 1, false) := by kernel_rfl
theorem ty169 : tyI Try.prog 169 = some ⟨true, 7, [(.int .i64 0), (.slice none 0 0), (.int .i64 0), (.slice none 0 0), (.slice none 0 0), (.int .i64 0), (.bool false)], 104⟩ := by kernel_rfl
theorem el169 : elemI Try.prog 169 = none := by kernel_rfl
theorem pl169 : placesI Try.prog 169 = some [(0, 1), (1, 1), (2, 1), (3, 1), (4, 1), (5, 1), (6, 1)] := by kernel_rfl
theorem fi169_0 : fieldI Try.prog 169 0 = some (0, 1, false) := by kernel_rfl
theorem fi169_1 : fieldI Try.prog 169 1 = some (1, 1, false) := by kernel_rfl
theorem fi169_2 : fieldI Try.prog 169 2 = some (2, 1, false) := by kernel_rfl
theorem fi169_3 : fieldI Try.prog 169 3 = some (3, 1, false) := by kernel_rfl
theorem fi169_4 : fieldI Try.prog 169 4 = some (4, 1, false) := by kernel_rfl
theorem fi169_5 : fieldI Try.prog 169 5 = some (5, 1, false) := by kernel_rfl
theorem fi169_6 : fieldI Try.prog 169 6 = some (6, 1, false) := by kernel_rfl
theorem ty170 : tyI Try.prog 170 = some ⟨false, 1, [.nilFunc], 8⟩ := by kernel_rfl
theorem el170 : elemI Try.prog 170 = none := by kernel_rfl
theorem el171 : elemI Try.prog 171 = none := by kernel_rfl
theorem ty172 : tyI Try.prog 172 = some ⟨false, 1, [.nilFunc], 8⟩ := by kernel_rfl
theorem el172 : elemI Try.prog 172 = none := by kernel_rfl
theorem ty173 : tyI Try.prog 173 = some ⟨false, 1, [.nilFunc], 8⟩ := by kernel_rfl
theorem el173 : elemI Try.prog 173 = none := by kernel_rfl
theorem el174 : elemI Try.prog 174 = none := by kernel_rfl
theorem ty175 : tyI Try.prog 175 = some ⟨false, 1, [.nilFunc], 8⟩ := by kernel_rfl
theorem el175 : elemI Try.prog 175 = none := by kernel_rfl
theorem ty176 : tyI Try.prog 176 = some ⟨false, 1, [.nilFunc], 8⟩ := by kernel_rfl
theorem el176 : elemI Try.prog 176 = none := by kernel_rfl
theorem ty177 : tyI Try.prog 177 = some ⟨false, 1, [.nilFunc], 8⟩ := by kernel_rfl
theorem el177 : elemI Try.prog 177 = none := by kernel_rfl
theorem ty178 : tyI Try.prog 178 = some ⟨false, 1, [.nilFunc], 8⟩ := by kernel_rfl
theorem el178 : elemI Try.prog 178 = none := by kernel_rfl
theorem ty179 : tyI Try.prog 179 = some ⟨false, 1, [.nilFunc], 8⟩ := by kernel_rfl
theorem el179 : elemI Try.prog 179 = none := by kernel_rfl
theorem ty180 : tyI Try.prog 180 = some ⟨false, 1, [.nilFunc], 8⟩ := by kernel_rfl
theorem el180 : elemI Try.prog 180 = none := by kernel_rfl
theorem ty181 : tyI Try.prog 181 = some ⟨false, 1, [.nilFunc], 8⟩ := by kernel_rfl
theorem el181 : elemI Try.prog 181 = none := by kernel_rfl
theorem ty182 : tyI Try.prog 182 = some ⟨false, 1, [.nilFunc], 8⟩ := by kernel_rfl
theorem el182 : elemI Try.prog 182 = none := by kernel_rfl
theorem ty183 : tyI Try.prog 183 = some ⟨true, 13, [(.int .i64 0), (.int .i64 0), (.int .i64 0), (.int .i64 0), (.int .i64 0), (.int .i64 0), (.int .i64 0), (.int .i64 0), (.int .i64 0), (.int .i64 0), (.int .i64 0), (.int .i64 0), (.int .i64 0)], 104⟩ := by kernel_rfl
theorem el183 : elemI Try.prog 183 = none := by kernel_rfl
theorem eq183 : eqTy Try.prog 183 = some (.st [(0, 6, (.st [(0, 1, .it), (1, 1, .it), (2, 1, .it), (3, 1, .it), (4, 1, .it), (5, 1, .it)])), (6, 7, (.st [(0, 1, .it), (1, 1, .it), (2, 1, .it), (3, 2, (.st [(0, 1, .it), (1, 1, .it)])), (5, 2, (.st [(0, 1, .it), (1, 1, .it)]))]))]) := by kernel_rfl
theorem pl183 : placesI Try.prog 183 = some [(0, 6), (6, 7)] := by kernel_rfl
theorem fi183_0 : fieldI Try.prog 183 0 = some (0, 6, true) := by kernel_rfl
theorem fi183_1 : fieldI Try.prog 183 1 = some (6, 7, true) := by kernel_rfl
theorem ty184 : tyI Try.prog 184 = some ⟨true, 13, [(.int .i64 0), (.int .i64 0), (.int .i64 0), (.int .i64 0), (.int .i64 0), (.int .i64 0), (.int .i64 0), (.int .i64 0), (.int .i64 0), (.int .i64 0), (.int .i64 0), (.int .i64 0), (.int .i64 0)], 104⟩ := by kernel_rfl
theorem el184 : elemI Try.prog 184 = none := by kernel_rfl
theorem eq184 : eqTy Try.prog 184 = some (.st [(0, 6, (.st [(0, 1, .it), (1, 1, .it), (2, 1, .it), (3, 1, .it), (4, 1, .it), (5, 1, .it)])), (6, 7, (.st [(0, 1, .it), (1, 1, .it), (2, 1, .it), (3, 2, (.st [(0, 1, .it), (1, 1, .it)])), (5, 2, (.st [(0, 1, .it), (1, 1, .it)]))]))]) := by kernel_rfl
theorem pl184 : placesI Try.prog 184 = some [(0, 6), (6, 7)] := by kernel_rfl
theorem fi184_0 : fieldI Try.prog 184 0 = some (0, 6, true) := by kernel_rfl
theorem fi184_1 : fieldI Try.prog 184 1 = some (6, 7, true) := by kernel_rfl
theorem ty185 : tyI Try.prog 185 = some ⟨true, 2, [(.int .i64 0), (.int .i64 0)], 16⟩ := by kernel_rfl
theorem el185 : elemI Try.prog 185 = none := by kernel_rfl
theorem eq185 : eqTy Try.prog 185 = some (.st [(0, 1, .it), (1, 1, .it)]) := by kernel_rfl
theorem pl185 : placesI Try.prog 185 = some [(0, 1), (1, 1)] := by kernel_rfl
theorem fi185_0 : fieldI Try.prog 185 0 = some (0, 1, false) := by kernel_rfl
theorem fi185_1 : fieldI Try.prog 185 1 = some (1, 1, false) := by kernel_rfl
theorem ty186 : tyI Try.prog 186 = some ⟨true, 2, [(.int .i64 0), (.int .i64 0)], 16⟩ := by kernel_rfl
theorem el186 : elemI Try.prog 186 = none := by kernel_rfl
theorem eq186 : eqTy Try.prog 186 = some (.st [(0, 1, .it), (1, 1, .it)]) := by kernel_rfl
theorem pl186 : placesI Try.prog 186 = some [(0, 1), (1, 1)] := by kernel_rfl
theorem fi186_0 : fieldI Try.prog 186 0 = some (0, 1, false) := by kernel_rfl
theorem fi186_1 : fieldI Try.prog 186 1 = some (1, 1, false) := by kernel_rfl
theorem ty187 : tyI Try.prog 187 = some ⟨true, 3, [(.int .i64 0), (.int .i64 0), (.int .i64 0)], 24⟩ := by kernel_rfl
theorem el187 : elemI Try.prog 187 = none := by kernel_rfl
theorem eq187 : eqTy Try.prog 187 = some (.st [(0, 1, .it), (1, 2, (.st [(0, 1, .it), (1, 1, .it)]))]) := by kernel_rfl
theorem pl187 : placesI Try.prog 187 = some [(0, 1), (1, 2)] := by kernel_rfl
theorem fi187_0 : fieldI Try.prog 187 0 = some (0, 1, false) := by kernel_rfl
theorem fi187_1 : fieldI Try.prog 187 1 = some (1, 2, true) := by kernel_rfl
theorem ty188 : tyI Try.prog 188 = some ⟨true, 3, [(.int .i64 0), (.int .i64 0), (.int .i64 0)], 24⟩ := by kernel_rfl
theorem el188 : elemI Try.prog 188 = none := by kernel_rfl
theorem eq188 : eqTy Try.prog 188 = some (.st [(0, 1, .it), (1, 2, (.st [(0, 1, .it), (1, 1, .it)]))]) := by kernel_rfl
theorem pl188 : placesI Try.prog 188 = some [(0, 1), (1, 2)] := by kernel_rfl
theorem fi188_0 : fieldI Try.prog 188 0 = some (0, 1, false) := by kernel_rfl
theorem fi188_1 : fieldI Try.prog 188 1 = some (1, 2, true) := by kernel_rfl
theorem ty189 : tyI Try.prog 189 = some ⟨false, 1, [(.pointer none)], 8⟩ := by kernel_rfl
theorem el189 : elemI Try.prog 189 = none := by kernel_rfl
theorem ty190 : tyI Try.prog 190 = some ⟨false, 1, [.nilFunc], 8⟩ := by kernel_rfl
theorem el190 : elemI Try.prog 190 = none := by kernel_rfl
theorem ty191 : tyI Try.prog 191 = some ⟨false, 1, [.nilFunc], 8⟩ := by kernel_rfl
theorem el191 : elemI Try.prog 191 = none := by kernel_rfl
theorem ty192 : tyI Try.prog 192 = some ⟨true, 2, [(.int .i64 0), (.int .i64 0)], 16⟩ := by kernel_rfl
theorem el192 : elemI Try.prog 192 = none := by kernel_rfl
theorem ar192 : arrI Try.prog 192 = some (2, 3) := by kernel_rfl
theorem pl192 : placesI Try.prog 192 = some [(0, 1), (1, 1)] := by kernel_rfl
theorem ty193 : tyI Try.prog 193 = some ⟨true, 2, [(.int .i64 0), (.int .i64 0)], 16⟩ := by kernel_rfl
theorem el193 : elemI Try.prog 193 = none := by kernel_rfl
theorem ar193 : arrI Try.prog 193 = some (2, 3) := by kernel_rfl
theorem pl193 : placesI Try.prog 193 = some [(0, 1), (1, 1)] := by kernel_rfl
theorem ty194 : tyI Try.prog 194 = some ⟨false, 1, [.nilFunc], 8⟩ := by kernel_rfl
theorem el194 : elemI Try.prog 194 = none := by kernel_rfl
theorem ty195 : tyI Try.prog 195 = some ⟨false, 1, [.nilFunc], 8⟩ := by kernel_rfl
theorem el195 : elemI Try.prog 195 = none := by kernel_rfl
theorem ty196 : tyI Try.prog 196 = some ⟨false, 1, [.nilFunc], 8⟩ := by kernel_rfl
theorem el196 : elemI Try.prog 196 = none := by kernel_rfl
theorem ty197 : tyI Try.prog 197 = some ⟨false, 1, [(.slice none 0 0)], 24⟩ := by kernel_rfl
theorem el197 : elemI Try.prog 197 = some 41 := by kernel_rfl
theorem ty198 : tyI Try.prog 198 = some ⟨false, 1, [.nilFunc], 8⟩ := by kernel_rfl
theorem el198 : elemI Try.prog 198 = none := by kernel_rfl
theorem ty199 : tyI Try.prog 199 = some ⟨false, 1, [.nilFunc], 8⟩ := by kernel_rfl
theorem el199 : elemI Try.prog 199 = none := by kernel_rfl
theorem ty200 : tyI Try.prog 200 = some ⟨false, 1, [.nilFunc], 8⟩ := by kernel_rfl
theorem el200 : elemI Try.prog 200 = none := by kernel_rfl
theorem ty201 : tyI Try.prog 201 = some ⟨false, 1, [.nilFunc], 8⟩ := by kernel_rfl
theorem el201 : elemI Try.prog 201 = none := by kernel_rfl
theorem ty202 : tyI Try.prog 202 = some ⟨false, 1, [.nilFunc], 8⟩ := by kernel_rfl
theorem el202 : elemI Try.prog 202 = none := by kernel_rfl
theorem ty203 : tyI Try.prog 203 = some ⟨false, 1, [.nilFunc], 8⟩ := by kernel_rfl
theorem el203 : elemI Try.prog 203 = none := by kernel_rfl
theorem ty204 : tyI Try.prog 204 = some ⟨false, 1, [.nilFunc], 8⟩ := by kernel_rfl
theorem el204 : elemI Try.prog 204 = none := by kernel_rfl
theorem ty205 : tyI Try.prog 205 = some ⟨false, 1, [.nilFunc], 8⟩ := by kernel_rfl
theorem el205 : elemI Try.prog 205 = none := by kernel_rfl
theorem ty206 : tyI Try.prog 206 = some ⟨false, 1, [.nilFunc], 8⟩ := by kernel_rfl
theorem el206 : elemI Try.prog 206 = none := by kernel_rfl
theorem ty207 : tyI Try.prog 207 = some ⟨false, 1, [(.pointer none)], 8⟩ := by kernel_rfl
theorem el207 : elemI Try.prog 207 = none := by kernel_rfl
theorem ty208 : tyI Try.prog 208 = some ⟨false, 1, [.nilFunc], 8⟩ := by kernel_rfl
theorem el208 : elemI Try.prog 208 = none := by kernel_rfl
theorem ty209 : tyI Try.prog 209 = some ⟨true, 9, [(.int .i64 0), (.int .i64 0), (.int .i64 0), (.int .i64 0), (.slice none 0 0), (.slice none 0 0), (.slice none 0 0), (.int .i64 0), (.bool false)], 120⟩ := by kernel_rfl
theorem el209 : elemI Try.prog 209 = none := by kernel_rfl
theorem pl209 : placesI Try.prog 209 = some [(0, 5), (5, 1), (6, 1), (7, 1), (8, 1)] := by kernel_rfl
theorem fi209_0 : fieldI Try.prog 209 0 = some (0, 5, true) := by kernel_rfl
theorem fi209_1 : fieldI Try.prog 209 1 = some (5, 1, false) := by kernel_rfl
theorem fi209_2 : fieldI Try.prog 209 2 = some (6, 1, false) := by kernel_rfl
theorem fi209_3 : fieldI Try.prog 209 3 = some (7, 1, false) := by kernel_rfl
theorem fi209_4 : fieldI Try.prog 209 4 = some (8, 1, false) := by kernel_rfl
theorem ty210 : tyI Try.prog 210 = some ⟨true, 9, [(.int .i64 0), (.int .i64 0), (.int .i64 0), (.int .i64 0), (.slice none 0 0), (.slice none 0 0), (.slice none 0 0), (.int .i64 0), (.bool false)], 120⟩ := by kernel_rfl
theorem el210 : elemI Try.prog 210 = none := by kernel_rfl
theorem pl210 : placesI Try.prog 210 = some [(0, 5), (5, 1), (6, 1), (7, 1), (8, 1)] := by kernel_rfl
theorem fi210_0 : fieldI Try.prog 210 0 = some (0, 5, true) := by kernel_rfl
theorem fi210_1 : fieldI Try.prog 210 1 = some (5, 1, false) := by kernel_rfl
theorem fi210_2 : fieldI Try.prog 210 2 = some (6, 1, false) := by kernel_rfl
theorem fi210_3 : fieldI Try.prog 210 3 = some (7, 1, false) := by kernel_rfl
theorem fi210_4 : fieldI Try.prog 210 4 = some (8, 1, false) := by kernel_rfl
theorem ty211 : tyI Try.prog 211 = some ⟨false, 1, [.nilFunc], 8⟩ := by kernel_rfl
theorem el211 : elemI Try.prog 211 = none := by kernel_rfl
theorem ty212 : tyI Try.prog 212 = some ⟨false, 1, [.nilFunc], 8⟩ := by kernel_rfl
theorem el212 : elemI Try.prog 212 = none := by kernel_rfl
theorem ty213 : tyI Try.prog 213 = some ⟨false, 1, [.nilFunc], 8⟩ := by kernel_rfl
theorem el213 : elemI Try.prog 213 = none := by kernel_rfl
theorem ty214 : tyI Try.prog 214 = some ⟨false, 1, [.nilFunc], 8⟩ := by kernel_rfl
theorem el214 : elemI Try.prog 214 = none := by kernel_rfl
theorem ty215 : tyI Try.prog 215 = some ⟨false, 1, [.nilFunc], 8⟩ := by kernel_rfl
theorem el215 : elemI Try.prog 215 = none := by kernel_rfl
theorem ty216 : tyI Try.prog 216 = some ⟨false, 1, [.nilFunc], 8⟩ := by kernel_rfl
theorem el216 : elemI Try.prog 216 = none := by kernel_rfl
theorem ty217 : tyI Try.prog 217 = some ⟨false, 1, [.nilFunc], 8⟩ := by kernel_rfl
theorem el217 : elemI Try.prog 217 = none := by kernel_rfl
theorem ty218 : tyI Try.prog 218 = some ⟨false, 1, [.nilFunc], 8⟩ := by kernel_rfl
theorem el218 : elemI Try.prog 218 = none := by kernel_rfl
theorem ty219 : tyI Try.prog 219 = some ⟨false, 1, [.nilFunc], 8⟩ := by kernel_rfl
theorem el219 : elemI Try.prog 219 = none := by kernel_rfl
theorem ty220 : tyI Try.prog 220 = some ⟨false, 1, [.nilFunc], 8⟩ := by kernel_rfl
theorem el220 : elemI Try.prog 220 = none := by kernel_rfl
theorem ty221 : tyI Try.prog 221 = some ⟨false, 1, [.nilFunc], 8⟩ := by kernel_rfl
theorem el221 : elemI Try.prog 221 = none := by kernel_rfl
theorem ty222 : tyI Try.prog 222 = some ⟨false, 1, [.nilFunc], 8⟩ := by kernel_rfl
theorem el222 : elemI Try.prog 222 = none := by kernel_rfl
theorem ty223 : tyI Try.prog 223 = some ⟨false, 1, [(.map none)], 8⟩ := by kernel_rfl
theorem el223 : elemI Try.prog 223 = none := by kernel_rfl
theorem mp223 : mapI Try.prog 223 = some ((.agg [.c (.v (.int .i64 0)), .c (.v (.int .i64 0)), .c (.v (.int .i64 0))]), (.arr .i64 2)) := by kernel_rfl
theorem ty224 : tyI Try.prog 224 = some ⟨true, 16, [(.int .i64 0), (.int .i64 0), (.int .i64 0), (.int .i64 0), (.int .i64 0), (.int .i64 0), (.int .i64 0), (.int .i64 0), (.int .i64 0), (.int .i64 0), (.int .i64 0), (.int .i64 0), (.int .i64 0), (.slice none 0 0), (.slice none 0 0), (.map none)], 160⟩ := by kernel_rfl
theorem el224 : elemI Try.prog 224 = none := by kernel_rfl
theorem pl224 : placesI Try.prog 224 = some [(0, 13), (13, 2), (15, 1)] := by kernel_rfl
theorem fi224_0 : fieldI Try.prog 224 0 = some (0, 13, true) := by kernel_rfl
theorem fi224_1 : fieldI Try.prog 224 1 = some (13, 2, true) := by kernel_rfl
theorem fi224_2 : fieldI Try.prog 224 2 = some (15, 1, false) := by kernel_rfl
theorem ty225 : tyI Try.prog 225 = some ⟨true, 16, [(.int .i64 0), (.int .i64 0), (.int .i64 0), (.int .i64 0), (.int .i64 0), (.int .i64 0), (.int .i64 0), (.int .i64 0), (.int .i64 0), (.int .i64 0), (.int .i64 0), (.int .i64 0), (.int .i64 0), (.slice none 0 0), (.slice none 0 0), (.map none)], 160⟩ := by kernel_rfl
theorem el225 : elemI Try.prog 225 = none := by kernel_rfl
theorem pl225 : placesI Try.prog 225 = some [(0, 13), (13, 2), (15, 1)] := by kernel_rfl
theorem fi225_0 : fieldI Try.prog 225 0 = some (0, 13, true) := by kernel_rfl
theorem fi225_1 : fieldI Try.prog 225 1 = some (13, 2, true) := by kernel_rfl
theorem fi225_2 : fieldI Try.prog 225 2 = some (15, 1, false) := by kernel_rfl
theorem ty226 : tyI Try.prog 226 = some ⟨false, 1, [.nilFunc], 8⟩ := by kernel_rfl
theorem el226 : elemI Try.prog 226 = none := by kernel_rfl
theorem el227 : elemI Try.prog 227 = none := by kernel_rfl
theorem el228 : elemI Try.prog 228 = none := by kernel_rfl
theorem ty229 : tyI Try.prog 229 = some ⟨false, 1, [.nilFunc], 8⟩ := by kernel_rfl
theorem el229 : elemI Try.prog 229 = none := by kernel_rfl
theorem ty230 : tyI Try.prog 230 = some ⟨false, 1, [.nilFunc], 8⟩ := by kernel_rfl
theorem el230 : elemI Try.prog 230 = none := by kernel_rfl
theorem ty231 : tyI Try.prog 231 = some ⟨false, 1, [.nilFunc], 8⟩ := by kernel_rfl
theorem el231 : elemI Try.prog 231 = none := by kernel_rfl
theorem el232 : elemI Try.prog 232 = none := by kernel_rfl
theorem ty233 : tyI Try.prog 233 = some ⟨false, 1, [.nilFunc], 8⟩ := by kernel_rfl
theorem el233 : elemI Try.prog 233 = none := by kernel_rfl
theorem ty234 : tyI Try.prog 234 = some ⟨false, 1, [.nilFunc], 8⟩ := by kernel_rfl
theorem el234 : elemI Try.prog 234 = none := by kernel_rfl
theorem ty235 : tyI Try.prog 235 = some ⟨false, 1, [.nilFunc], 8⟩ := by kernel_rfl
theorem el235 : elemI Try.prog 235 = none := by kernel_rfl
theorem ty236 : tyI Try.prog 236 = some ⟨false, 1, [.nilFunc], 8⟩ := by kernel_rfl
theorem el236 : elemI Try.prog 236 = none := by kernel_rfl
theorem ty237 : tyI Try.prog 237 = some ⟨false, 1, [.nilFunc], 8⟩ := by kernel_rfl
theorem el237 : elemI Try.prog 237 = none := by kernel_rfl
theorem ty238 : tyI Try.prog 238 = some ⟨false, 1, [.nilFunc], 8⟩ := by kernel_rfl
theorem el238 : elemI Try.prog 238 = none := by kernel_rfl
theorem ty239 : tyI Try.prog 239 = some ⟨false, 1, [.nilFunc], 8⟩ := by kernel_rfl
theorem el239 : elemI Try.prog 239 = none := by kernel_rfl
theorem ty240 : tyI Try.prog 240 = some ⟨false, 1, [.nilFunc], 8⟩ := by kernel_rfl
theorem el240 : elemI Try.prog 240 = none := by kernel_rfl
theorem ty241 : tyI Try.prog 241 = some ⟨false, 1, [.nilFunc], 8⟩ := by kernel_rfl
theorem el241 : elemI Try.prog 241 = none := by kernel_rfl
theorem ty242 : tyI Try.prog 242 = some ⟨false, 1, [.nilFunc], 8⟩ := by kernel_rfl
theorem el242 : elemI Try.prog 242 = none := by kernel_rfl
theorem ty243 : tyI Try.prog 243 = some ⟨false, 1, [.nilFunc], 8⟩ := by kernel_rfl
theorem el243 : elemI Try.prog 243 = none := by kernel_rfl
theorem ty244 : tyI Try.prog 244 = some ⟨false, 1, [.nilFunc], 8⟩ := by kernel_rfl
theorem el244 : elemI Try.prog 244 = none := by kernel_rfl
theorem ty245 : tyI Try.prog 245 = some ⟨false, 1, [.nilFunc], 8⟩ := by kernel_rfl
theorem el245 : elemI Try.prog 245 = none := by kernel_rfl
theorem ty246 : tyI Try.prog 246 = some ⟨false, 1, [.nilFunc], 8⟩ := by kernel_rfl
theorem el246 : elemI Try.prog 246 = none := by kernel_rfl
theorem ty247 : tyI Try.prog 247 = some ⟨false, 1, [.nilFunc], 8⟩ := by kernel_rfl
theorem el247 : elemI Try.prog 247 = none := by kernel_rfl
theorem ty248 : tyI Try.prog 248 = some ⟨false, 1, [.nilFunc], 8⟩ := by kernel_rfl
theorem el248 : elemI Try.prog 248 = none := by kernel_rfl
theorem ty249 : tyI Try.prog 249 = some ⟨false, 1, [.nilFunc], 8⟩ := by kernel_rfl
theorem el249 : elemI Try.prog 249 = none := by kernel_rfl
theorem ty250 : tyI Try.prog 250 = some ⟨false, 1, [(.slice none 0 0)], 24⟩ := by kernel_rfl
theorem el250 : elemI Try.prog 250 = some 143 := by kernel_rfl
theorem ty251 : tyI Try.prog 251 = some ⟨false, 1, [.nilFunc], 8⟩ := by kernel_rfl
theorem el251 : elemI Try.prog 251 = none := by kernel_rfl
theorem ty252 : tyI Try.prog 252 = some ⟨false, 1, [.nilFunc], 8⟩ := by kernel_rfl
theorem el252 : elemI Try.prog 252 = none := by kernel_rfl
theorem ty253 : tyI Try.prog 253 = some ⟨false, 1, [.nilFunc], 8⟩ := by kernel_rfl
theorem el253 : elemI Try.prog 253 = none := by kernel_rfl
theorem ty254 : tyI Try.prog 254 = some ⟨false, 1, [.nilFunc], 8⟩ := by kernel_rfl
theorem el254 : elemI Try.prog 254 = none := by kernel_rfl
theorem ty255 : tyI Try.prog 255 = some ⟨false, 1, [(.slice none 0 0)], 24⟩ := by kernel_rfl
theorem el255 : elemI Try.prog 255 = some 4 := by kernel_rfl
theorem ty256 : tyI Try.prog 256 = some ⟨false, 1, [.nilFunc], 8⟩ := by kernel_rfl
theorem el256 : elemI Try.prog 256 = none := by kernel_rfl
theorem ty257 : tyI Try.prog 257 = some ⟨true, 2, [(.bool false), (.bool false)], 2⟩ := by kernel_rfl
theorem el257 : elemI Try.prog 257 = none := by kernel_rfl
theorem ar257 : arrI Try.prog 257 = some (2, 4) := by kernel_rfl
theorem pl257 : placesI Try.prog 257 = some [(0, 1), (1, 1)] := by kernel_rfl
theorem ty258 : tyI Try.prog 258 = some ⟨false, 1, [(.map none)], 8⟩ := by kernel_rfl
theorem el258 : elemI Try.prog 258 = none := by kernel_rfl
theorem mp258 : mapI Try.prog 258 = some ((.agg [.c (.v (.int .i64 0)), .c (.v (.int .i64 0))]), .bool) := by kernel_rfl
theorem ty259 : tyI Try.prog 259 = some ⟨false, 1, [.nilFunc], 8⟩ := by kernel_rfl
theorem el259 : elemI Try.prog 259 = none := by kernel_rfl
theorem ty260 : tyI Try.prog 260 = some ⟨false, 1, [.nilFunc], 8⟩ := by kernel_rfl
theorem el260 : elemI Try.prog 260 = none := by kernel_rfl
theorem el261 : elemI Try.prog 261 = none := by kernel_rfl
theorem ty262 : tyI Try.prog 262 = some ⟨false, 1, [.nilFunc], 8⟩ := by kernel_rfl
theorem el262 : elemI Try.prog 262 = none := by kernel_rfl
theorem ty263 : tyI Try.prog 263 = some ⟨false, 1, [.nilFunc], 8⟩ := by kernel_rfl
theorem el263 : elemI Try.prog 263 = none := by kernel_rfl
theorem ty264 : tyI Try.prog 264 = some ⟨false, 1, [.nilFunc], 8⟩ := by kernel_rfl
theorem el264 : elemI Try.prog 264 = none := by kernel_rfl
theorem ty265 : tyI Try.prog 265 = some ⟨false, 1, [.nilFunc], 8⟩ := by kernel_rfl
theorem el265 : elemI Try.prog 265 = none := by kernel_rfl
theorem ty266 : tyI Try.prog 266 = some ⟨false, 1, [.nilFunc], 8⟩ := by kernel_rfl
theorem el266 : elemI Try.prog 266 = none := by kernel_rfl
theorem ty267 : tyI Try.prog 267 = some ⟨false, 1, [.nilFunc], 8⟩ := by kernel_rfl
theorem el267 : elemI Try.prog 267 = none := by kernel_rfl
theorem ty268 : tyI Try.prog 268 = some ⟨false, 1, [.nilFunc], 8⟩ := by kernel_rfl
theorem el268 : elemI Try.prog 268 = none := by kernel_rfl
theorem ty269 : tyI Try.prog 269 = some ⟨false, 1, [(.int .u32 0)], 4⟩ := by kernel_rfl
theorem el269 : elemI Try.prog 269 = none := by kernel_rfl
theorem it269 : intI Try.prog 269 = some .u32 := by kernel_rfl
theorem el270 : elemI Try.prog 270 = none := by kernel_rfl
theorem ty271 : tyI Try.prog 271 = some ⟨false, 1, [.nilFunc], 8⟩ := by kernel_rfl
theorem el271 : elemI Try.prog 271 = none := by kernel_rfl
theorem ty272 : tyI Try.prog 272 = some ⟨false, 1, [(.int .u64 0)], 8⟩ := by kernel_rfl
theorem el272 : elemI Try.prog 272 = none := by kernel_rfl
theorem it272 : intI Try.prog 272 = some .u64 := by kernel_rfl
theorem el273 : elemI Try.prog 273 = none := by kernel_rfl
theorem ty274 : tyI Try.prog 274 = some ⟨false, 1, [.nilFunc], 8⟩ := by kernel_rfl
theorem el274 : elemI Try.prog 274 = none := by kernel_rfl
theorem ty275 : tyI Try.prog 275 = some ⟨false, 1, [.nilFunc], 8⟩ := by kernel_rfl
theorem el275 : elemI Try.prog 275 = none := by kernel_rfl
theorem ty276 : tyI Try.prog 276 = some ⟨false, 1, [.nilFunc], 8⟩ := by kernel_rfl
theorem el276 : elemI Try.prog 276 = none := by kernel_rfl
theorem ty277 : tyI Try.prog 277 = some ⟨false, 1, [.nilFunc], 8⟩ := by kernel_rfl
theorem el277 : elemI Try.prog 277 = none := by kernel_rfl
theorem ty278 : tyI Try.prog 278 = some ⟨true, 4, [(.pointer none), (.pointer none), (.pointer none), (.string ⟨#[]⟩)], 40⟩ := by kernel_rfl
theorem el278 : elemI Try.prog 278 = none := by kernel_rfl
theorem pl278 : placesI Try.prog 278 = some [(0, 1), (1, 1), (2, 1), (3, 1)] := by kernel_rfl
theorem fi278_0 : fieldI Try.prog 278 0 = some (0, 1, false) := by kernel_rfl
theorem fi278_1 : fieldI Try.prog 278 1 = some (1, 1, false) := by kernel_rfl
theorem fi278_2 : fieldI Try.prog 278 2 = some (2, 1, false) := by kernel_rfl
theorem fi278_3 : fieldI Try.prog 278 3 = some (3, 1, false) := by kernel_rfl
theorem ty279 : tyI Try.prog 279 = some ⟨true, 4, [(.pointer none), (.pointer none), (.pointer none), (.string ⟨#[]⟩)], 40⟩ := by kernel_rfl
theorem el279 : elemI Try.prog 279 = none := by kernel_rfl
theorem pl279 : placesI Try.prog 279 = some [(0, 1), (1, 1), (2, 1), (3, 1)] := by kernel_rfl
theorem fi279_0 : fieldI Try.prog 279 0 = some (0, 1, false) := by kernel_rfl
theorem fi279_1 : fieldI Try.prog 279 1 = some (1, 1, false) := by kernel_rfl
theorem fi279_2 : fieldI Try.prog 279 2 = some (2, 1, false) := by kernel_rfl
theorem fi279_3 : fieldI Try.prog 279 3 = some (3, 1, false) := by kernel_rfl
theorem ty280 : tyI Try.prog 280 = some ⟨true, 0, [], 0⟩ := by kernel_rfl
theorem el280 : elemI Try.prog 280 = none := by kernel_rfl
theorem ar280 : arrI Try.prog 280 = some (0, 16) := by kernel_rfl
theorem pl280 : placesI Try.prog 280 = some [] := by kernel_rfl
theorem ty281 : tyI Try.prog 281 = some ⟨true, 0, [], 0⟩ := by kernel_rfl
theorem el281 : elemI Try.prog 281 = none := by kernel_rfl
theorem pl281 : placesI Try.prog 281 = some [(0, 0)] := by kernel_rfl
theorem ty282 : tyI Try.prog 282 = some ⟨true, 0, [], 0⟩ := by kernel_rfl
theorem el282 : elemI Try.prog 282 = none := by kernel_rfl
theorem pl282 : placesI Try.prog 282 = some [(0, 0)] := by kernel_rfl
theorem ty283 : tyI Try.prog 283 = some ⟨false, 1, [(.int .u8 0)], 1⟩ := by kernel_rfl
theorem el283 : elemI Try.prog 283 = none := by kernel_rfl
theorem it283 : intI Try.prog 283 = some .u8 := by kernel_rfl
theorem ty284 : tyI Try.prog 284 = some ⟨false, 1, [(.int .u8 0)], 1⟩ := by kernel_rfl
theorem el284 : elemI Try.prog 284 = none := by kernel_rfl
theorem it284 : intI Try.prog 284 = some .u8 := by kernel_rfl
theorem ty285 : tyI Try.prog 285 = some ⟨false, 1, [.nilFunc], 8⟩ := by kernel_rfl
theorem el285 : elemI Try.prog 285 = none := by kernel_rfl
theorem ty286 : tyI Try.prog 286 = some ⟨false, 1, [(.pointer none)], 8⟩ := by kernel_rfl
theorem el286 : elemI Try.prog 286 = none := by kernel_rfl
theorem ty287 : tyI Try.prog 287 = some ⟨false, 1, [(.int .i32 0)], 4⟩ := by kernel_rfl
theorem el287 : elemI Try.prog 287 = none := by kernel_rfl
theorem it287 : intI Try.prog 287 = some .i32 := by kernel_rfl
theorem ty288 : tyI Try.prog 288 = some ⟨false, 1, [(.int .i32 0)], 4⟩ := by kernel_rfl
theorem el288 : elemI Try.prog 288 = none := by kernel_rfl
theorem it288 : intI Try.prog 288 = some .i32 := by kernel_rfl
theorem ty289 : tyI Try.prog 289 = some ⟨true, 11, [(.int .u64 0), (.int .u64 0), (.int .u32 0), (.int .u8 0), (.int .u8 0), (.int .u8 0), (.int .u8 0), .nilFunc, (.pointer none), (.int .i32 0), (.int .i32 0)], 48⟩ := by kernel_rfl
theorem el289 : elemI Try.prog 289 = none := by kernel_rfl
theorem pl289 : placesI Try.prog 289 = some [(0, 1), (1, 1), (2, 1), (3, 1), (4, 1), (5, 1), (6, 1), (7, 1), (8, 1), (9, 1), (10, 1)] := by kernel_rfl
theorem fi289_0 : fieldI Try.prog 289 0 = some (0, 1, false) := by kernel_rfl
theorem fi289_1 : fieldI Try.prog 289 1 = some (1, 1, false) := by kernel_rfl
theorem fi289_2 : fieldI Try.prog 289 2 = some (2, 1, false) := by kernel_rfl
theorem fi289_3 : fieldI Try.prog 289 3 = some (3, 1, false) := by kernel_rfl
theorem fi289_4 : fieldI Try.prog 289 4 = some (4, 1, false) := by kernel_rfl
theorem fi289_5 : fieldI Try.prog 289 5 = some (5, 1, false) := by kernel_rfl
theorem fi289_6 : fieldI Try.prog 289 6 = some (6, 1, false) := by kernel_rfl
theorem fi289_7 : fieldI Try.prog 289 7 = some (7, 1, false) := by kernel_rfl
theorem fi289_8 : fieldI Try.prog 289 8 = some (8, 1, false) := by kernel_rfl
theorem fi289_9 : fieldI Try.prog 289 9 = some (9, 1, false) := by kernel_rfl
theorem fi289_10 : fieldI Try.prog 289 10 = some (10, 1, false) := by kernel_rfl
theorem ty290 : tyI Try.prog 290 = some ⟨true, 11, [(.int .u64 0), (.int .u64 0), (.int .u32 0), (.int .u8 0), (.int .u8 0), (.int .u8 0), (.int .u8 0), .nilFunc, (.pointer none), (.int .i32 0), (.int .i32 0)], 48⟩ := by kernel_rfl
theorem el290 : elemI Try.prog 290 = none := by kernel_rfl
theorem pl290 : placesI Try.prog 290 = some [(0, 1), (1, 1), (2, 1), (3, 1), (4, 1), (5, 1), (6, 1), (7, 1), (8, 1), (9, 1), (10, 1)] := by kernel_rfl
theorem fi290_0 : fieldI Try.prog 290 0 = some (0, 1, false) := by kernel_rfl
theorem fi290_1 : fieldI Try.prog 290 1 = some (1, 1, false) := by kernel_rfl
theorem fi290_2 : fieldI Try.prog 290 2 = some (2, 1, false) := by kernel_rfl
theorem fi290_3 : fieldI Try.prog 290 3 = some (3, 1, false) := by kernel_rfl
theorem fi290_4 : fieldI Try.prog 290 4 = some (4, 1, false) := by kernel_rfl
theorem fi290_5 : fieldI Try.prog 290 5 = some (5, 1, false) := by kernel_rfl
theorem fi290_6 : fieldI Try.prog 290 6 = some (6, 1, false) := by kernel_rfl
theorem fi290_7 : fieldI Try.prog 290 7 = some (7, 1, false) := by kernel_rfl
theorem fi290_8 : fieldI Try.prog 290 8 = some (8, 1, false) := by kernel_rfl
theorem fi290_9 : fieldI Try.prog 290 9 = some (9, 1, false) := by kernel_rfl
theorem fi290_10 : fieldI Try.prog 290 10 = some (10, 1, false) := by kernel_rfl
theorem ty291 : tyI Try.prog 291 = some ⟨false, 1, [.nilFunc], 8⟩ := by kernel_rfl
theorem el291 : elemI Try.prog 291 = none := by kernel_rfl
theorem ty292 : tyI Try.prog 292 = some ⟨false, 1, [(.pointer none)], 8⟩ := by kernel_rfl
theorem el292 : elemI Try.prog 292 = none := by kernel_rfl
attribute [go_sem] el0 ty1 el1 ty2 el2 it2 ty3 el3 it3 ty4 el4 bl4 ty5 el5 it5 ty6 el6 it6 ty7 el7 eq7 pl7 fi7_0 fi7_1 fi7_2 fi7_3 ty8 el8 eq8 pl8 fi8_0 fi8_1 fi8_2 fi8_3 ty9 el9 ty10 el10 ty11 el11 ty12 el12 it12 ty13 el13 pl13 fi13_0 fi13_1 ty14 el14 pl14 fi14_0 fi14_1 ty15 el15 ty16 el16 ty17 el17 ty18 el18 pl18 fi18_0 ty19 el19 pl19 fi19_0 ty20 el20 ty21 el21 it21 ty22 el22 ty23 el23 pl23 fi23_0 fi23_1 ty24 el24 pl24 fi24_0 fi24_1 ty25 el25 ar25 pl25 ty26 el26 ty27 el27 eq27 pl27 fi27_0 fi27_1 ty28 el28 eq28 pl28 fi28_0 fi28_1 ty29 el29 ty30 el30 pl30 fi30_0 fi30_1 fi30_2 ty31 el31 pl31 fi31_0 fi31_1 fi31_2 ty32 el32 ty33 el33 ty34 el34 eq34 pl34 fi34_0 fi34_1 ty35 el35 eq35 pl35 fi35_0 fi35_1 ty36 el36 ty37 el37 eq37 pl37 fi37_0 fi37_1 ty38 el38 eq38 pl38 fi38_0 fi38_1 ty39 el39 eq39 pl39 fi39_0 fi39_1 fi39_2 fi39_3 fi39_4 ty40 el40 eq40 pl40 fi40_0 fi40_1 fi40_2 fi40_3 fi40_4 ty41 el41 ty42 el42 it42 el43 ty44 el44 ty45 el45 ty46 el46 ty47 el47 mp47 ty48 el48 el49 ty50 el50 el51 ty52 el52 ty53 el53 ty54 el54 ty55 el55 ty56 el56 ty57 el57 pl57 fi57_0 fi57_1 fi57_2 ty58 el58 pl58 fi58_0 fi58_1 fi58_2 ty59 el59 ar59 pl59 ty60 el60 ty61 el61 ty62 el62 pl62 fi62_0 fi62_1 ty63 el63 pl63 fi63_0 fi63_1 ty64 el64 ty65 el65 pl65 fi65_0 fi65_1 ty66 el66 pl66 fi66_0 fi66_1 ty67 el67 ty68 el68 eq68 pl68 fi68_0 fi68_1 fi68_2 ty69 el69 eq69 pl69 fi69_0 fi69_1 fi69_2 ty70 el70 ty71 el71 it71 ty72 el72 eq72 pl72 fi72_0 fi72_1 ty73 el73 eq73 pl73 fi73_0 fi73_1 ty74 el74 el75 ty76 el76 ty77 el77 pl77 fi77_0 fi77_1 ty78 el78 pl78 fi78_0 fi78_1 el79 ty80 el80 ty81 el81 ty82 el82 ar82 pl82 ty83 el83 ty84 el84 el85 ty86 el86 ty87 el87 el88 ty89 el89 ty90 el90 ty91 el91 ar91 pl91 ty92 el92 ar92 pl92 ty93 el93 ar93 pl93 ty94 el94 ar94 pl94 ty95 el95 pl95 fi95_0 fi95_1 fi95_2 ty96 el96 pl96 fi96_0 fi96_1 fi96_2 ty97 el97 ar97 pl97 ty98 el98 ar98 pl98 ty99 el99 pl99 fi99_0 fi99_1 fi99_2 ty100 el100 pl100 fi100_0 fi100_1 fi100_2 ty101 el101 el102 ty103 el103 el104 ty105 el105 ty106 el106 ty107 el107 ty108 el108 eq108 pl108 fi108_0 fi108_1 fi108_2 ty109 el109 eq109 pl109 fi109_0 fi109_1 fi109_2 ty110 el110 ar110 pl110 ty111 el111 ar111 pl111 ty112 el112 ty113 el113 ar113 pl113 ty114 el114 ty115 el115 ty116 el116 ty117 el117 pl117 fi117_0 fi117_1 ty118 el118 pl118 fi118_0 fi118_1 ty119 el119 ty120 el120 eq120 pl120 fi120_0 fi120_1 fi120_2 fi120_3 fi120_4 fi120_5 ty121 el121 eq121 pl121 fi121_0 fi121_1 fi121_2 fi121_3 fi121_4 fi121_5 ty122 el122 eq122 pl122 fi122_0 fi122_1 fi122_2 fi122_3 fi122_4 ty123 el123 eq123 pl123 fi123_0 fi123_1 fi123_2 fi123_3 fi123_4 el124 ty125 el125 el126 ty127 el127 ty128 el128 eq128 pl128 fi128_0 fi128_1 ty129 el129 eq129 pl129 fi129_0 fi129_1 ty130 el130 ty131 el131 ty132 el132 el133 ty134 el134 ty135 el135 ty136 el136 ty137 el137 ty138 el138 pl138 fi138_0 ty139 el139 pl139 fi139_0 ty140 el140 ty141 el141 ty142 el142 ar142 pl142 ty143 el143 it143 ty144 el144 eq144 pl144 fi144_0 fi144_1 fi144_2 fi144_3 fi144_4 fi144_5 ty145 el145 eq145 pl145 fi145_0 fi145_1 fi145_2 fi145_3 fi145_4 fi145_5 ty146 el146 ar146 pl146 ty147 el147 pl147 fi147_0 fi147_1 ty148 el148 pl148 fi148_0 fi148_1 el149 ty150 el150 el151 ty152 el152 ty153 el153 ty154 el154 ty155 el155 el156 ty157 el157 ty158 el158 ty159 el159 ty160 el160 pl160 fi160_0 fi160_1 fi160_2 ty161 el161 pl161 fi161_0 fi161_1 fi161_2 el162 ty163 el163 ty164 el164 ty165 el165 mp165 ty166 el166 ty167 el167 ty168 el168 pl168 fi168_0 fi168_1 fi168_2 fi168_3 fi168_4 fi168_5 fi168_6 ty169 el169 pl169 fi169_0 fi169_1 fi169_2 fi169_3 fi169_4 fi169_5 fi169_6 ty170 el170 el171 ty172 el172 ty173 el173 el174 ty175 el175 ty176 el176 ty177 el177 ty178 el178 ty179 el179 ty180 el180 ty181 el181 ty182 el182 ty183 el183 eq183 pl183 fi183_0 fi183_1 ty184 el184 eq184 pl184 fi184_0 fi184_1 ty185 el185 eq185 pl185 fi185_0 fi185_1 ty186 el186 eq186 pl186 fi186_0 fi186_1 ty187 el187 eq187 pl187 fi187_0 fi187_1 ty188 el188 eq188 pl188 fi188_0 fi188_1 ty189 el189 ty190 el190 ty191 el191 ty192 el192 ar192 pl192 ty193 el193 ar193 pl193 ty194 el194 ty195 el195 ty196 el196 ty197 el197 ty198 el198 ty199 el199 ty200 el200 ty201 el201 ty202 el202 ty203 el203 ty204 el204 ty205 el205 ty206 el206 ty207 el207 ty208 el208 ty209 el209 pl209 fi209_0 fi209_1 fi209_2 fi209_3 fi209_4 ty210 el210 pl210 fi210_0 fi210_1 fi210_2 fi210_3 fi210_4 ty211 el211 ty212 el212 ty213 el213 ty214 el214 ty215 el215 ty216 el216 ty217 el217 ty218 el218 ty219 el219 ty220 el220 ty221 el221 ty222 el222 ty223 el223 mp223 ty224 el224 pl224 fi224_0 fi224_1 fi224_2 ty225 el225 pl225 fi225_0 fi225_1 fi225_2 ty226 el226 el227 el228 ty229 el229 ty230 el230 ty231 el231 el232 ty233 el233 ty234 el234 ty235 el235 ty236 el236 ty237 el237 ty238 el238 ty239 el239 ty240 el240 ty241 el241 ty242 el242 ty243 el243 ty244 el244 ty245 el245 ty246 el246 ty247 el247 ty248 el248 ty249 el249 ty250 el250 ty251 el251 ty252 el252 ty253 el253 ty254 el254 ty255 el255 ty256 el256 ty257 el257 ar257 pl257 ty258 el258 mp258 ty259 el259 ty260 el260 el261 ty262 el262 ty263 el263 ty264 el264 ty265 el265 ty266 el266 ty267 el267 ty268 el268 ty269 el269 it269 el270 ty271 el271 ty272 el272 it272 el273 ty274 el274 ty275 el275 ty276 el276 ty277 el277 ty278 el278 pl278 fi278_0 fi278_1 fi278_2 fi278_3 ty279 el279 pl279 fi279_0 fi279_1 fi279_2 fi279_3 ty280 el280 ar280 pl280 ty281 el281 pl281 ty282 el282 pl282 ty283 el283 it283 ty284 el284 it284 ty285 el285 ty286 el286 ty287 el287 it287 ty288 el288 it288 ty289 el289 pl289 fi289_0 fi289_1 fi289_2 fi289_3 fi289_4 fi289_5 fi289_6 fi289_7 fi289_8 fi289_9 fi289_10 ty290 el290 pl290 fi290_0 fi290_1 fi290_2 fi290_3 fi290_4 fi290_5 fi290_6 fi290_7 fi290_8 fi290_9 fi290_10 ty291 el291 ty292 el292
end Go.Dw.Seat
end
section
namespace Go.Dw.Seat
open Go Go.Dw
def Tm (n : Nat) : Operand := .tmp n
def Kn (n : Int) : Operand := .const (.int .i64 n)
def Kb (b : Bool) : Operand := .const (.bool b)
def Mv (a c : Nat) : SO := ⟨some a, .move (.tmp c), none⟩
def Sg (a c : Nat) : SO := ⟨some a, .assign (.tmp c), none⟩
def Sk (a : Nat) (c : Operand) : SO := ⟨some a, .assign c, none⟩
def Ld (a b c : Nat) : SO := ⟨some a, .load b (.tmp c), none⟩
def Fa (a b c d : Nat) : SO := ⟨some a, .fieldAddr b (.tmp c) d, none⟩
def Xt (a c d : Nat) : SO := ⟨some a, .extract (.tmp c) d, none⟩
def Ix (a b c d : Nat) : SO := ⟨some a, .indexAddr b (.tmp c) (.tmp d), none⟩
def Lq (a c t : Nat) : SO := ⟨some a, .call { callee := .builtin .len, args := #[.tmp c], argTypes := #[t] }, none⟩
def Cl (a f : Nat) (x : Array Operand) (y : Array TypeId) : SO := ⟨some a, .call { callee := .value (.func f), args := x, argTypes := y }, none⟩
def Bo (a : Nat) (o : BinOp) (t : Nat) (x y : Operand) (u : Nat) : SO := ⟨some a, .binOp o t x y u, none⟩
def Pk (a x : Nat) (y z : Operand) : SO := ⟨some a, .pick (.tmp x) y z, none⟩
def Sr (t : Nat) (x y : Operand) : SO := ⟨none, .store t x y, none⟩
def Nk (a c : Nat) : SO := ⟨some a, .nilCheck (.tmp c), none⟩
def Oo (a : Nat) (o : Op) : SO := ⟨some a, o, none⟩
def Gm (a c g : Nat) (b : Bool) : SO := ⟨some a, .move (.tmp c), some (g, b)⟩
def Gl (a t c g : Nat) (b : Bool) : SO := ⟨some a, .load t (.tmp c), some (g, b)⟩
def Gf (a t c d g : Nat) (b : Bool) : SO := ⟨some a, .fieldAddr t (.tmp c) d, some (g, b)⟩
def Gx (a t c d g : Nat) (b : Bool) : SO := ⟨some a, .indexAddr t (.tmp c) (.tmp d), some (g, b)⟩
def Gc (a f : Nat) (x : Array Operand) (y : Array TypeId) (g : Nat) (b : Bool) : SO := ⟨some a, .call { callee := .value (.func f), args := x, argTypes := y }, some (g, b)⟩
def Gb (a : Nat) (o : BinOp) (t : Nat) (x y : Operand) (u g : Nat) (b : Bool) : SO := ⟨some a, .binOp o t x y u, some (g, b)⟩
def Og (a : Nat) (o : Op) (g : Nat) (b : Bool) : SO := ⟨some a, o, some (g, b)⟩
abbrev R0 (l : List SO) : SC := .reg false l
abbrev R1 (l : List SO) : SC := .reg true l
attribute [go_sem] Tm Kn Kb Mv Sg Sk Ld Fa Xt Ix Lq Cl Bo Pk Sr Nk Oo Gm Gl Gf Gx Gc Gb Og
end Go.Dw.Seat
namespace Go.Dw.Seat
open Go Go.Dw Go.Proofs
def o3_0 : SO := (Mv 171 14)
def o3_1 : SO := (Mv 172 8)
def o3_2 : SO := (Mv 173 12)
def o3_3 : SO := (Mv 174 21)
def o3_4 : SO := (Ix 175 41 173 174)
def o3_5 : SO := (Ld 176 3 175)
def o3_6 : SO := (Ix 177 33 172 176)
def o3_7 : SO := (Ld 178 38 177)
def o3_8 : SO := (Oo 179 (.buildSlice 33 1 #[(0, (Tm 178))]))
def o3_9 : SO := (Oo 180 (.call { callee := .builtin .append, args := #[Tm 171, Tm 179], argTypes := #[33, 33] }))
def o3_10 : SO := (Fa 181 31 16 2)
def o3_11 : SO := (Ld 182 29 181)
def o3_12 : SO := (Fa 183 31 7 2)
def o3_13 : SO := (Ld 184 29 183)
def o3_14 : SO := (Mv 185 12)
def o3_15 : SO := (Mv 186 21)
def o3_16 : SO := (Ix 187 41 185 186)
def o3_17 : SO := (Ld 188 3 187)
def o3_18 : SO := (Ix 189 29 184 188)
def o3_19 : SO := (Ld 190 35 189)
def o3_20 : SO := (Oo 191 (.buildSlice 29 1 #[(0, (Tm 190))]))
def o3_21 : SO := (Oo 192 (.call { callee := .builtin .append, args := #[Tm 182, Tm 191], argTypes := #[29, 29] }))
def o3_22 : SO := (Sg 14 180)
def o3_23 : SO := (Fa 193 31 16 2)
def o3_24 : SO := (Sr 29 (Tm 193) (Tm 192))
def s3 : SF := ⟨333, [.tmp 6], (.seq (R0 [Oo 3 (.box 24 (Tm 0)), Oo 4 (.box 25 (Tm 1)), Sk 6 (Kb false)]) (.seq (R0 [Ld 31 24 3, Oo 32 (.build 28 #[(0, (Kn 10)), (1, (Kn 7))]), Cl 33 6 #[Tm 31, Tm 32] #[24, 28], Oo 7 (.alloc 31), Sr 31 (Tm 7) (Tm 33)]) (.seq (R0 [Oo 34 (.buildSlice 33 0 #[]), Sg 8 34, Sk 9 (Kn 0)]) (.seq (.seq (R0 [Sk 10 (Kn 0)]) (.block 0 (.loop (.seq (.seq (R0 [Mv 35 10, Fa 36 31 7 2, Ld 37 29 36, Lq 38 37 29, Bo 39 .lss 3 (Tm 35) (Tm 38) 3]) (.cond (Tm 39) .skip (.exit 0))) (.seq (.block 1 (.seq (R1 [Mv 42 8, Oo 43 (.indexAddr 25 (Tm 4) (Kn 0)), Ld 44 5 43, Oo 45 (.convert 5 3 (Tm 44)), Bo 46 .rem 3 (Tm 45) (Kn 50) 3, Bo 47 .add 3 (Kn 100) (Tm 46) 3, Fa 48 31 7 2, Ld 49 29 48, Mv 50 10, Ix 51 29 49 50, Fa 52 35 51 0, Ld 53 3 52, Bo 54 .mul 3 (Kn 3) (Tm 53) 3, Fa 55 31 7 2, Ld 56 29 55, Mv 57 10, Ix 58 29 56 57, Fa 59 35 58 1, Ld 60 3 59, Bo 61 .mul 3 (Kn 3) (Tm 60) 3, Cl 62 7 #[Tm 54, Tm 61] #[3, 3], Oo 63 (.build 38 #[(0, (Tm 47)), (1, (Tm 62))]), Oo 64 (.buildSlice 33 1 #[(0, (Tm 63))]), Oo 65 (.call { callee := .builtin .append, args := #[Tm 42, Tm 64], argTypes := #[33, 33] }), Sg 8 65]) (R0 [Mv 66 9, Oo 67 (.indexAddr 25 (Tm 4) (Kn 0)), Ld 68 5 67, Oo 69 (.convert 5 3 (Tm 68)), Bo 70 .rem 3 (Tm 69) (Kn 50) 3, Bo 71 .add 3 (Kn 100) (Tm 70) 3, Bo 72 .add 3 (Tm 66) (Tm 71) 3, Sg 9 72]))) (R0 [Mv 40 10, Bo 41 .add 3 (Tm 40) (Kn 1) 3, Sg 10 41])))))) (.seq (R0 [Mv 73 9, Bo 74 .add 3 (Tm 73) (Kn 20) 3, Oo 75 (.indexAddr 25 (Tm 4) (Kn 1)), Ld 76 5 75, Oo 77 (.convert 5 3 (Tm 76)), Bo 78 .add 3 (Tm 74) (Tm 77) 3, Oo 79 (.indexAddr 25 (Tm 4) (Kn 2)), Ld 80 5 79, Oo 81 (.convert 5 3 (Tm 80)), Bo 82 .rem 3 (Tm 81) (Kn 20) 3, Mv 83 9, Oo 84 (.indexAddr 25 (Tm 4) (Kn 1)), Ld 85 5 84, Oo 86 (.convert 5 3 (Tm 85)), Bo 87 .add 3 (Tm 83) (Tm 86) 3, Oo 88 (.indexAddr 25 (Tm 4) (Kn 2)), Ld 89 5 88, Oo 90 (.convert 5 3 (Tm 89)), Bo 91 .quo 3 (Tm 90) (Kn 2) 3, Bo 92 .add 3 (Kn 100) (Tm 91) 3, Bo 93 .mul 3 (Tm 87) (Tm 92) 3, Bo 94 .quo 3 (Tm 93) (Kn 300) 3, Bo 95 .add 3 (Kn 20) (Tm 94) 3, Oo 96 (.indexAddr 25 (Tm 4) (Kn 3)), Ld 97 5 96, Oo 98 (.convert 5 3 (Tm 97)), Bo 99 .mul 3 (Kn 200) (Tm 98) 3, Oo 100 (.indexAddr 25 (Tm 4) (Kn 3)), Ld 101 5 100, Oo 102 (.convert 5 3 (Tm 101)), Bo 103 .mul 3 (Kn 150) (Tm 102) 3, Bo 104 .sub 3 (Kn 60000) (Tm 103) 3, Oo 105 (.build 40 #[(0, (Tm 78)), (1, (Tm 82)), (2, (Tm 95)), (3, (Tm 99)), (4, (Tm 104))]), Oo 11 (.alloc 40), Sr 40 (Tm 11) (Tm 105)]) (.seq (R1 [Ld 107 40 11, Mv 108 8, Cl 109 9 #[Tm 108] #[33], Cl 110 8 #[Tm 107, Tm 109] #[40, 33], Mv 106 110, Xt 111 106 0, Xt 112 106 1, Sg 12 111, Sg 13 112]) (.seq (.seq (R0 [Mv 113 13, Bo 114 .neq 42 (Tm 113) (Kn 0) 42]) (.cond (Tm 114) (.seq (R0 [Mv 115 13, Bo 116 .eql 42 (Tm 115) (Kn 9) 42, Mv 117 116, Gm 118 12 117 true, Og 119 (.call { callee := .builtin .len, args := #[Tm 118], argTypes := #[41] }) 117 true, Gb 120 .eql 3 (Tm 119) (Kn 0) 3 117 true, Pk 121 117 (Tm 120) (Kb false), Mv 122 121, Gc 123 10 #[] #[] 122 true, Pk 124 122 (Tm 123) (Kb false), Mv 125 124, Gc 126 11 #[] #[] 125 true, Pk 127 125 (Tm 126) (Kb false), Sg 6 127]) .ret) .skip)) (.seq (R1 [Oo 128 (.buildSlice 33 0 #[]), Oo 129 (.makeMap 47 none), Fa 130 31 7 0, Ld 131 28 130, Fa 132 31 7 1, Ld 133 3 132, Oo 134 (.build 31 #[(0, (Tm 131)), (1, (Tm 133))]), Oo 16 (.alloc 31), Sg 14 128, Sg 15 129, Sr 31 (Tm 16) (Tm 134), Sk 17 (Kn 0)]) (.seq (R0 [Ld 135 31 7, Mv 136 2, Cl 137 12 #[Tm 135, Tm 136] #[31, 26], Sg 18 137]) (.seq (R0 [Sk 19 (Kn 0), Sk 20 (Kn 0)]) (.seq (.seq (R0 [Sk 21 (Kn 0)]) (.block 2 (.loop (.seq (.seq (R0 [Mv 138 21, Mv 139 12, Lq 140 139 41, Bo 141 .lss 3 (Tm 138) (Tm 140) 3]) (.cond (Tm 141) .skip (.exit 2))) (.seq (.block 3 (.seq (.seq (R0 [Mv 144 12, Mv 145 21, Ix 146 41 144 145, Ld 147 3 146, Bo 148 .lss 3 (Tm 147) (Kn 0) 3, Mv 149 148, Gm 150 12 149 false, Gm 151 21 149 false, Gx 152 41 150 151 149 false, Gl 153 3 152 149 false, Gm 154 8 149 false, Og 155 (.call { callee := .builtin .len, args := #[Tm 154], argTypes := #[33] }) 149 false, Gb 156 .geq 3 (Tm 153) (Tm 155) 3 149 false, Pk 157 149 (Kb true) (Tm 156), Mv 158 157, Gm 159 15 158 false, Gm 160 12 158 false, Gm 161 21 158 false, Gx 162 41 160 161 158 false, Gl 163 3 162 158 false, Og 164 (.lookup 47 (Tm 159) (Tm 163) false) 158 false, Pk 165 158 (Kb true) (Tm 164)]) (.cond (Tm 165) (.seq (R0 [Sk 6 (Kb false)]) .ret) .skip)) (.seq (R0 [Mv 166 15, Mv 167 12, Mv 168 21, Ix 169 41 167 168, Ld 170 3 169, ⟨none, .mapUpdate 47 (Tm 166) (Tm 170) (Kb true), none⟩]) (.seq (.ord (.op o3_0 (.op o3_1 (.op o3_2 (.op o3_3 (.op o3_4 (.op o3_5 (.op o3_6 (.op o3_7 (.op o3_8 (.app o3_9 [16, 181, 7, 183, 12, 21, 185, 186, 187, 184, 188, 189, 190] [181, 182, 183, 184, 185, 186, 187, 188, 189, 190, 191] (.op o3_10 (.op o3_11 (.op o3_12 (.op o3_13 (.op o3_14 (.op o3_15 (.op o3_16 (.op o3_17 (.op o3_18 (.op o3_19 (.op o3_20 (.op o3_21 (.op o3_22 (.op o3_23 (.op o3_24 .done)))))))))))))))))))))))))) (.seq (R0 [Mv 194 18, Mv 195 12, Mv 196 21, Ix 197 41 195 196, Ld 198 3 197, Ix 199 41 194 198, Ld 200 3 199, Bo 201 .mul 3 (Kn 3) (Tm 200) 3, Sg 22 201]) (.seq (R1 [Mv 202 17, Mv 203 22, Bo 204 .add 3 (Tm 202) (Tm 203) 3, Mv 205 20, Mv 206 22, Mv 207 19, Bo 208 .mul 3 (Kn 2) (Tm 207) 3, Mv 209 8, Mv 210 12, Mv 211 21, Ix 212 41 210 211, Ld 213 3 212, Ix 214 33 209 213, Fa 215 38 214 0, Ld 216 3 215, Bo 217 .add 3 (Tm 208) (Tm 216) 3, Fa 218 40 11 1, Ld 219 3 218, Bo 220 .mul 3 (Kn 2) (Tm 219) 3, Bo 221 .sub 3 (Tm 217) (Tm 220) 3, Bo 222 .mul 3 (Tm 206) (Tm 221) 3, Bo 223 .add 3 (Tm 205) (Tm 222) 3, Sg 17 204, Sg 20 223]) (R0 [Mv 224 19, Mv 225 8, Mv 226 12, Mv 227 21, Ix 228 41 226 227, Ld 229 3 228, Ix 230 33 225 229, Fa 231 38 230 0, Ld 232 3 231, Bo 233 .add 3 (Tm 224) (Tm 232) 3, Sg 19 233]))))))) (R0 [Mv 142 21, Bo 143 .add 3 (Tm 142) (Kn 1) 3, Sg 21 143])))))) (.seq (R0 [Fa 234 40 11 2, Ld 235 3 234, Fa 236 40 11 1, Ld 237 3 236, Bo 238 .sub 3 (Tm 235) (Tm 237) 3, Bo 239 .mul 3 (Kn 2) (Tm 238) 3, Sg 23 239]) (.seq (.seq (R0 [Mv 240 12, Lq 241 240 41, Mv 242 8, Lq 243 242 33, Bo 244 .neq 3 (Tm 241) (Tm 243) 3, Mv 245 244, Gm 246 20 245 false, Gb 247 .lss 3 (Tm 246) (Kn 0) 3 245 false, Pk 248 245 (Kb true) (Tm 247), Mv 249 248, Gm 250 20 249 false, Gf 251 40 11 4 249 false, Gl 252 3 251 249 false, Gm 253 23 249 false, Gb 254 .mul 3 (Tm 252) (Tm 253) 3 249 false, Gb 255 .gtr 3 (Tm 250) (Tm 254) 3 249 false, Pk 256 249 (Kb true) (Tm 255), Mv 257 256, Gm 258 17 257 false, Gm 259 23 257 false, Gb 260 .mul 3 (Tm 258) (Tm 259) 3 257 false, Gm 261 20 257 false, Gb 262 .sub 3 (Tm 260) (Tm 261) 3 257 false, Gb 263 .lss 3 (Tm 262) (Kn 0) 3 257 false, Pk 264 257 (Kb true) (Tm 263), Mv 265 264, Gm 266 17 265 false, Gm 267 23 265 false, Gb 268 .mul 3 (Tm 266) (Tm 267) 3 265 false, Gm 269 20 265 false, Gb 270 .sub 3 (Tm 268) (Tm 269) 3 265 false, Gf 271 40 11 3 265 false, Gl 272 3 271 265 false, Gm 273 23 265 false, Gb 274 .mul 3 (Tm 272) (Tm 273) 3 265 false, Gb 275 .gtr 3 (Tm 270) (Tm 274) 3 265 false, Pk 276 265 (Kb true) (Tm 275)]) (.cond (Tm 276) (.seq (R0 [Sk 6 (Kb false)]) .ret) .skip)) (.seq (R0 [Ld 278 40 11, Mv 279 14, Cl 280 13 #[Tm 278, Tm 279] #[40, 33], Mv 277 280, Xt 281 277 0, Xt 282 277 1, Xt 283 277 2, Oo 24 (.alloc 35), Oo 25 (.alloc 35), Sr 35 (Tm 24) (Tm 281), Sr 35 (Tm 25) (Tm 282), Sg 26 283]) (.seq (R0 [Ld 285 31 7, Cl 286 15 #[Tm 285] #[31], Cl 287 14 #[Tm 286] #[31], Mv 284 287, Xt 288 284 0, Xt 289 284 1, Oo 27 (.alloc 35), Sr 35 (Tm 27) (Tm 288), Sg 28 289]) (.seq (R0 [Ld 291 31 16, Cl 292 14 #[Tm 291] #[31], Mv 290 292, Xt 293 290 0, Xt 294 290 1, Oo 29 (.alloc 35), Sr 35 (Tm 29) (Tm 293), Sg 30 294]) (.seq (R0 [Mv 295 26, Bo 296 .eql 42 (Tm 295) (Kn 0) 42, Mv 297 296, Gm 298 28 297 true, Gb 299 .eql 42 (Tm 298) (Kn 0) 42 297 true, Pk 300 297 (Tm 299) (Kb false), Mv 301 300, Gm 302 30 301 true, Gb 303 .eql 42 (Tm 302) (Kn 0) 42 301 true, Pk 304 301 (Tm 303) (Kb false), Mv 305 304, Gm 306 20 305 true, Gf 307 35 25 0 305 true, Gl 308 3 307 305 true, Gm 309 23 305 true, Gb 310 .mul 3 (Tm 308) (Tm 309) 3 305 true, Gb 311 .geq 3 (Tm 306) (Tm 310) 3 305 true, Pk 312 305 (Tm 311) (Kb false), Mv 313 312, Gm 314 20 313 true, Gf 315 35 25 1 313 true, Gl 316 3 315 313 true, Gb 317 .add 3 (Tm 316) (Kn 1) 3 313 true, Gm 318 23 313 true, Gb 319 .mul 3 (Tm 317) (Tm 318) 3 313 true, Gb 320 .lss 3 (Tm 314) (Tm 319) 3 313 true, Pk 321 313 (Tm 320) (Kb false), Mv 322 321, Gl 323 35 27 322 true, Gl 324 35 29 322 true, Gb 325 .eql 35 (Tm 323) (Tm 324) 35 322 true, Pk 326 322 (Tm 325) (Kb false), Mv 327 326, Gc 328 10 #[] #[] 327 true, Pk 329 327 (Tm 328) (Kb false), Mv 330 329, Gc 331 11 #[] #[] 330 true, Pk 332 330 (Tm 331) (Kb false), Sg 6 332]) .ret)))))))))))))))))⟩
theorem sf3 : sfOf Try.f3 = some s3 := by kernel_rfl
theorem hb3 : hasBody Try.prog 3 = true := by kernel_rfl
def o4_0 : SO := (Oo 35 (.indexAddr 59 (Tm 3) (Kn 0)))
def o4_1 : SO := (Ld 36 5 35)
def o4_2 : SO := (Oo 37 (.convert 5 3 (Tm 36)))
def o4_3 : SO := (Bo 38 .mul 3 (Kn 4) (Tm 37) 3)
def o4_4 : SO := (Bo 39 .add 3 (Kn 500) (Tm 38) 3)
def o4_5 : SO := (Oo 40 (.indexAddr 59 (Tm 3) (Kn 1)))
def o4_6 : SO := (Ld 41 5 40)
def o4_7 : SO := (Oo 42 (.convert 5 3 (Tm 41)))
def o4_8 : SO := (Bo 43 .mul 3 (Kn 3) (Tm 42) 3)
def o4_9 : SO := (Bo 44 .add 3 (Kn 40) (Tm 43) 3)
def o4_10 : SO := (Cl 45 7 #[Kn 0, Tm 44] #[3, 3])
def o4_11 : SO := (Oo 46 (.indexAddr 59 (Tm 3) (Kn 2)))
def o4_12 : SO := (Ld 47 5 46)
def o4_13 : SO := (Oo 48 (.convert 5 3 (Tm 47)))
def o4_14 : SO := (Bo 49 .rem 3 (Tm 48) (Kn 3) 3)
def o4_15 : SO := (Bo 50 .add 3 (Kn 2) (Tm 49) 3)
def o4_16 : SO := (Oo 51 (.build 69 #[(0, (Tm 39)), (1, (Tm 45)), (2, (Tm 50))]))
def o4_17 : SO := (Oo 7 (.alloc 69))
def o4_18 : SO := (Sr 69 (Tm 7) (Tm 51))
def o4_19 : SO := (Oo 52 (.buildSlice 70 0 #[]))
def o4_20 : SO := (Sg 8 52)
def o4_21 : SO := (Oo 93 (.buildSlice 70 0 #[]))
def o4_22 : SO := (Mv 94 8)
def o4_23 : SO := (Ld 92 69 7)
def o4_24 : SO := (Oo 95 (.call { callee := .builtin .append, args := #[Tm 93, Tm 94], argTypes := #[70, 70] }))
def o4_25 : SO := (Cl 96 18 #[Tm 92, Tm 95] #[69, 70])
def o4_26 : SO := (Mv 91 96)
def o4_27 : SO := (Xt 97 91 0)
def o4_28 : SO := (Xt 98 91 1)
def o4_29 : SO := (Sg 10 97)
def o4_30 : SO := (Sg 11 98)
def o4_31 : SO := (Oo 147 (.buildSlice 70 0 #[]))
def o4_32 : SO := (Mv 148 8)
def o4_33 : SO := (Ld 146 69 7)
def o4_34 : SO := (Oo 149 (.call { callee := .builtin .append, args := #[Tm 147, Tm 148], argTypes := #[70, 70] }))
def o4_35 : SO := (Mv 150 10)
def o4_36 : SO := (Cl 151 21 #[Tm 146, Tm 149, Tm 150] #[69, 70, 74])
def o4_37 : SO := (Mv 145 151)
def o4_38 : SO := (Xt 152 145 0)
def o4_39 : SO := (Xt 153 145 1)
def o4_40 : SO := (Xt 154 145 2)
def o4_41 : SO := (Xt 155 145 3)
def o4_42 : SO := (Sg 14 152)
def o4_43 : SO := (Sg 15 153)
def o4_44 : SO := (Sg 16 154)
def o4_45 : SO := (Sg 17 155)
def o4_46 : SO := (Ld 175 63 5)
def o4_47 : SO := (Ld 176 66 6)
def o4_48 : SO := (Cl 177 22 #[Tm 175, Tm 176] #[63, 66])
def o4_49 : SO := (Oo 178 (.build 82 #[]))
def o4_50 : SO := (Oo 19 (.alloc 82))
def o4_51 : SO := (Oo 20 (.alloc 82))
def o4_52 : SO := (Sg 18 177)
def o4_53 : SO := (Mv 179 15)
def o4_54 : SO := (Fa 180 69 7 0)
def o4_55 : SO := (Ld 181 3 180)
def o4_56 : SO := (Mv 182 12)
def o4_57 : SO := (Bo 183 .mul 3 (Tm 181) (Tm 182) 3)
def o4_58 : SO := (Oo 184 (.build 82 #[(0, (Kn 0)), (1, (Kn 0)), (2, (Kn 0)), (3, (Tm 179)), (4, (Tm 183))]))
def o4_59 : SO := (Sr 82 (Tm 19) (Tm 178))
def o4_60 : SO := (Sr 82 (Tm 20) (Tm 184))
def s4 : SF := ⟨305, [.tmp 4], (.seq (R0 [Oo 2 (.box 58 (Tm 0)), Oo 3 (.box 59 (Tm 1)), Sk 4 (Kb false)]) (.seq (R1 [Ld 31 58 2, Cl 32 16 #[Tm 31] #[58], Ld 33 58 2, Cl 34 17 #[Tm 33] #[58], Oo 5 (.alloc 63), Oo 6 (.alloc 66), Sr 63 (Tm 5) (Tm 32), Sr 66 (Tm 6) (Tm 34)]) (.seq (.ord (.op o4_0 (.op o4_1 (.op o4_2 (.op o4_3 (.op o4_4 (.op o4_5 (.op o4_6 (.op o4_7 (.op o4_8 (.op o4_9 (.op o4_10 (.op o4_11 (.op o4_12 (.op o4_13 (.op o4_14 (.op o4_15 (.op o4_16 (.op o4_17 (.app o4_18 [] [52] (.op o4_19 (.op o4_20 .done)))))))))))))))))))))) (.seq (.seq (R0 [Sk 9 (Kn 0)]) (.block 0 (.loop (.seq (.seq (R0 [Mv 53 9, Bo 54 .lss 3 (Tm 53) (Kn 3) 3]) (.cond (Tm 54) .skip (.exit 0))) (.seq (.block 1 (R1 [Mv 57 8, Mv 58 9, Bo 59 .add 3 (Kn 3) (Tm 58) 3, Ix 60 59 3 59, Ld 61 5 60, Oo 62 (.convert 5 3 (Tm 61)), Bo 63 .mul 3 (Kn 2) (Tm 62) 3, Bo 64 .add 3 (Kn 150) (Tm 63) 3, Oo 65 (.indexAddr 59 (Tm 3) (Kn 6)), Ld 66 5 65, Oo 67 (.convert 5 3 (Tm 66)), Mv 68 9, Bo 69 .mul 3 (Kn 2) (Tm 68) 3, Oo 70 (.convert 3 71 (Tm 69)), Bo 71 .shr 3 (Tm 67) (Tm 70) 71, Bo 72 .rem 3 (Tm 71) (Kn 4) 3, Oo 73 (.indexAddr 59 (Tm 3) (Kn 6)), Ld 74 5 73, Oo 75 (.convert 5 3 (Tm 74)), Mv 76 9, Bo 77 .mul 3 (Kn 2) (Tm 76) 3, Oo 78 (.convert 3 71 (Tm 77)), Bo 79 .shr 3 (Tm 75) (Tm 78) 71, Bo 80 .rem 3 (Tm 79) (Kn 4) 3, Bo 81 .add 3 (Tm 80) (Kn 1) 3, Oo 82 (.indexAddr 59 (Tm 3) (Kn 7)), Ld 83 5 82, Oo 84 (.convert 5 3 (Tm 83)), Bo 85 .rem 3 (Tm 84) (Kn 8) 3, Bo 86 .add 3 (Tm 81) (Tm 85) 3, Cl 87 7 #[Tm 72, Tm 86] #[3, 3], Oo 88 (.build 73 #[(0, (Tm 64)), (1, (Tm 87))]), Oo 89 (.buildSlice 70 1 #[(0, (Tm 88))]), Oo 90 (.call { callee := .builtin .append, args := #[Tm 57, Tm 89], argTypes := #[70, 70] }), Sg 8 90])) (R0 [Mv 55 9, Bo 56 .add 3 (Tm 55) (Kn 1) 3, Sg 9 56])))))) (.seq (.ord (.op o4_21 (.op o4_22 (.alt (.op o4_23 (.op o4_24 (.op o4_25 (.op o4_26 (.op o4_27 (.op o4_28 (.op o4_29 (.op o4_30 .done)))))))) (.op o4_24 (.op o4_23 (.op o4_25 (.op o4_26 (.op o4_27 (.op o4_28 (.op o4_29 (.op o4_30 .done)))))))))))) (.seq (.seq (R0 [Mv 99 11, Bo 100 .neq 42 (Tm 99) (Kn 0) 42]) (.cond (Tm 100) (.seq (R0 [Mv 101 11, Bo 102 .eql 42 (Tm 101) (Kn 9) 42, Mv 103 102, Gm 104 10 103 true, Og 105 (.call { callee := .builtin .len, args := #[Tm 104], argTypes := #[74] }) 103 true, Gb 106 .eql 3 (Tm 105) (Kn 0) 3 103 true, Pk 107 103 (Tm 106) (Kb false), Mv 108 107, Gc 109 19 #[] #[] 108 true, Pk 110 108 (Tm 109) (Kb false), Mv 111 110, Gc 112 20 #[] #[] 111 true, Pk 113 111 (Tm 112) (Kb false), Sg 4 113]) .ret) .skip)) (.seq (R0 [Sk 12 (Kn 0)]) (.seq (.seq (R0 [Sk 13 (Kn 0)]) (.block 2 (.loop (.seq (.seq (R0 [Mv 114 13, Mv 115 10, Lq 116 115 74, Bo 117 .lss 3 (Tm 114) (Tm 116) 3]) (.cond (Tm 117) .skip (.exit 2))) (.seq (.block 3 (.seq (.seq (R0 [Mv 120 10, Mv 121 13, Ix 122 74 120 121, Fa 123 78 122 1, Ld 124 3 123, Bo 125 .lss 3 (Tm 124) (Kn 1) 3, Mv 126 125, Gm 127 10 126 false, Gm 128 13 126 false, Gx 129 74 127 128 126 false, Gf 130 78 129 1 126 false, Gl 131 3 130 126 false, Gb 132 .gtr 3 (Tm 131) (Kn 30) 3 126 false, Pk 133 126 (Kb true) (Tm 132), Mv 134 133, Gm 135 13 134 false, Gb 136 .geq 3 (Tm 135) (Kn 3) 3 134 false, Pk 137 134 (Kb true) (Tm 136)]) (.cond (Tm 137) (.seq (R0 [Sk 4 (Kb false)]) .ret) .skip)) (R0 [Mv 138 12, Mv 139 10, Mv 140 13, Ix 141 74 139 140, Fa 142 78 141 1, Ld 143 3 142, Bo 144 .add 3 (Tm 138) (Tm 143) 3, Sg 12 144]))) (R0 [Mv 118 13, Bo 119 .add 3 (Tm 118) (Kn 1) 3, Sg 13 119])))))) (.seq (.ord (.op o4_31 (.op o4_32 (.alt (.op o4_33 (.alt (.op o4_34 (.op o4_35 (.op o4_36 (.op o4_37 (.op o4_38 (.op o4_39 (.op o4_40 (.op o4_41 (.op o4_42 (.op o4_43 (.op o4_44 (.op o4_45 .done)))))))))))) (.op o4_35 (.op o4_34 (.op o4_36 (.op o4_37 (.op o4_38 (.op o4_39 (.op o4_40 (.op o4_41 (.op o4_42 (.op o4_43 (.op o4_44 (.op o4_45 .done)))))))))))))) (.alt (.op o4_34 (.op o4_33 (.op o4_35 (.op o4_36 (.op o4_37 (.op o4_38 (.op o4_39 (.op o4_40 (.op o4_41 (.op o4_42 (.op o4_43 (.op o4_44 (.op o4_45 .done))))))))))))) (.op o4_35 (.alt (.op o4_33 (.op o4_34 (.op o4_36 (.op o4_37 (.op o4_38 (.op o4_39 (.op o4_40 (.op o4_41 (.op o4_42 (.op o4_43 (.op o4_44 (.op o4_45 .done)))))))))))) (.op o4_34 (.op o4_33 (.op o4_36 (.op o4_37 (.op o4_38 (.op o4_39 (.op o4_40 (.op o4_41 (.op o4_42 (.op o4_43 (.op o4_44 (.op o4_45 .done))))))))))))))))))) (.seq (.seq (R0 [Mv 156 17, Bo 157 .neq 42 (Tm 156) (Kn 0) 42, Mv 158 157, Gm 159 14 158 false, Og 160 (.call { callee := .builtin .len, args := #[Tm 159], argTypes := #[41] }) 158 false, Gb 161 .neq 3 (Tm 160) (Kn 3) 3 158 false, Pk 162 158 (Kb true) (Tm 161), Mv 163 162, Gm 164 15 163 false, Gb 165 .lss 3 (Tm 164) (Kn 0) 3 163 false, Pk 166 163 (Kb true) (Tm 165), Mv 167 166, Gm 168 15 167 false, Gf 169 69 7 0 167 false, Gl 170 3 169 167 false, Gm 171 12 167 false, Gb 172 .mul 3 (Tm 170) (Tm 171) 3 167 false, Gb 173 .gtr 3 (Tm 168) (Tm 172) 3 167 false, Pk 174 167 (Kb true) (Tm 173)]) (.cond (Tm 174) (.seq (R0 [Sk 4 (Kb false)]) .ret) .skip)) (.seq (.ord (.op o4_46 (.op o4_47 (.op o4_48 (.op o4_49 (.op o4_50 (.op o4_51 (.op o4_52 (.alt (.op o4_53 (.alt (.op o4_54 (.alt (.op o4_55 (.alt (.op o4_56 (.alt (.op o4_57 (.alt (.op o4_58 (.op o4_59 (.op o4_60 .done))) (.op o4_59 (.op o4_58 (.op o4_60 .done))))) (.op o4_59 (.op o4_57 (.op o4_58 (.op o4_60 .done)))))) (.op o4_59 (.op o4_56 (.op o4_57 (.op o4_58 (.op o4_60 .done))))))) (.alt (.op o4_56 (.alt (.op o4_55 (.alt (.op o4_57 (.alt (.op o4_58 (.op o4_59 (.op o4_60 .done))) (.op o4_59 (.op o4_58 (.op o4_60 .done))))) (.op o4_59 (.op o4_57 (.op o4_58 (.op o4_60 .done)))))) (.op o4_59 (.op o4_55 (.op o4_57 (.op o4_58 (.op o4_60 .done))))))) (.op o4_59 (.op o4_55 (.op o4_56 (.op o4_57 (.op o4_58 (.op o4_60 .done))))))))) (.alt (.op o4_56 (.alt (.op o4_54 (.alt (.op o4_55 (.alt (.op o4_57 (.alt (.op o4_58 (.op o4_59 (.op o4_60 .done))) (.op o4_59 (.op o4_58 (.op o4_60 .done))))) (.op o4_59 (.op o4_57 (.op o4_58 (.op o4_60 .done)))))) (.op o4_59 (.op o4_55 (.op o4_57 (.op o4_58 (.op o4_60 .done))))))) (.op o4_59 (.op o4_54 (.op o4_55 (.op o4_57 (.op o4_58 (.op o4_60 .done)))))))) (.op o4_59 (.op o4_54 (.op o4_55 (.op o4_56 (.op o4_57 (.op o4_58 (.op o4_60 .done)))))))))) (.alt (.op o4_54 (.alt (.op o4_53 (.alt (.op o4_55 (.alt (.op o4_56 (.alt (.op o4_57 (.alt (.op o4_58 (.op o4_59 (.op o4_60 .done))) (.op o4_59 (.op o4_58 (.op o4_60 .done))))) (.op o4_59 (.op o4_57 (.op o4_58 (.op o4_60 .done)))))) (.op o4_59 (.op o4_56 (.op o4_57 (.op o4_58 (.op o4_60 .done))))))) (.alt (.op o4_56 (.alt (.op o4_55 (.alt (.op o4_57 (.alt (.op o4_58 (.op o4_59 (.op o4_60 .done))) (.op o4_59 (.op o4_58 (.op o4_60 .done))))) (.op o4_59 (.op o4_57 (.op o4_58 (.op o4_60 .done)))))) (.op o4_59 (.op o4_55 (.op o4_57 (.op o4_58 (.op o4_60 .done))))))) (.op o4_59 (.op o4_55 (.op o4_56 (.op o4_57 (.op o4_58 (.op o4_60 .done))))))))) (.alt (.op o4_55 (.alt (.op o4_53 (.alt (.op o4_56 (.alt (.op o4_57 (.alt (.op o4_58 (.op o4_59 (.op o4_60 .done))) (.op o4_59 (.op o4_58 (.op o4_60 .done))))) (.op o4_59 (.op o4_57 (.op o4_58 (.op o4_60 .done)))))) (.op o4_59 (.op o4_56 (.op o4_57 (.op o4_58 (.op o4_60 .done))))))) (.alt (.op o4_56 (.alt (.op o4_53 (.alt (.op o4_57 (.alt (.op o4_58 (.op o4_59 (.op o4_60 .done))) (.op o4_59 (.op o4_58 (.op o4_60 .done))))) (.op o4_59 (.op o4_57 (.op o4_58 (.op o4_60 .done)))))) (.alt (.op o4_57 (.alt (.op o4_53 (.alt (.op o4_58 (.op o4_59 (.op o4_60 .done))) (.op o4_59 (.op o4_58 (.op o4_60 .done))))) (.op o4_59 (.op o4_53 (.op o4_58 (.op o4_60 .done)))))) (.op o4_59 (.op o4_53 (.op o4_57 (.op o4_58 (.op o4_60 .done)))))))) (.op o4_59 (.op o4_53 (.op o4_56 (.op o4_57 (.op o4_58 (.op o4_60 .done))))))))) (.alt (.op o4_56 (.alt (.op o4_53 (.alt (.op o4_55 (.alt (.op o4_57 (.alt (.op o4_58 (.op o4_59 (.op o4_60 .done))) (.op o4_59 (.op o4_58 (.op o4_60 .done))))) (.op o4_59 (.op o4_57 (.op o4_58 (.op o4_60 .done)))))) (.op o4_59 (.op o4_55 (.op o4_57 (.op o4_58 (.op o4_60 .done))))))) (.alt (.op o4_55 (.alt (.op o4_53 (.alt (.op o4_57 (.alt (.op o4_58 (.op o4_59 (.op o4_60 .done))) (.op o4_59 (.op o4_58 (.op o4_60 .done))))) (.op o4_59 (.op o4_57 (.op o4_58 (.op o4_60 .done)))))) (.alt (.op o4_57 (.alt (.op o4_53 (.alt (.op o4_58 (.op o4_59 (.op o4_60 .done))) (.op o4_59 (.op o4_58 (.op o4_60 .done))))) (.op o4_59 (.op o4_53 (.op o4_58 (.op o4_60 .done)))))) (.op o4_59 (.op o4_53 (.op o4_57 (.op o4_58 (.op o4_60 .done)))))))) (.op o4_59 (.op o4_53 (.op o4_55 (.op o4_57 (.op o4_58 (.op o4_60 .done))))))))) (.op o4_59 (.op o4_53 (.op o4_55 (.op o4_56 (.op o4_57 (.op o4_58 (.op o4_60 .done))))))))))) (.alt (.op o4_56 (.alt (.op o4_53 (.alt (.op o4_54 (.alt (.op o4_55 (.alt (.op o4_57 (.alt (.op o4_58 (.op o4_59 (.op o4_60 .done))) (.op o4_59 (.op o4_58 (.op o4_60 .done))))) (.op o4_59 (.op o4_57 (.op o4_58 (.op o4_60 .done)))))) (.op o4_59 (.op o4_55 (.op o4_57 (.op o4_58 (.op o4_60 .done))))))) (.op o4_59 (.op o4_54 (.op o4_55 (.op o4_57 (.op o4_58 (.op o4_60 .done)))))))) (.alt (.op o4_54 (.alt (.op o4_53 (.alt (.op o4_55 (.alt (.op o4_57 (.alt (.op o4_58 (.op o4_59 (.op o4_60 .done))) (.op o4_59 (.op o4_58 (.op o4_60 .done))))) (.op o4_59 (.op o4_57 (.op o4_58 (.op o4_60 .done)))))) (.op o4_59 (.op o4_55 (.op o4_57 (.op o4_58 (.op o4_60 .done))))))) (.alt (.op o4_55 (.alt (.op o4_53 (.alt (.op o4_57 (.alt (.op o4_58 (.op o4_59 (.op o4_60 .done))) (.op o4_59 (.op o4_58 (.op o4_60 .done))))) (.op o4_59 (.op o4_57 (.op o4_58 (.op o4_60 .done)))))) (.alt (.op o4_57 (.alt (.op o4_53 (.alt (.op o4_58 (.op o4_59 (.op o4_60 .done))) (.op o4_59 (.op o4_58 (.op o4_60 .done))))) (.op o4_59 (.op o4_53 (.op o4_58 (.op o4_60 .done)))))) (.op o4_59 (.op o4_53 (.op o4_57 (.op o4_58 (.op o4_60 .done)))))))) (.op o4_59 (.op o4_53 (.op o4_55 (.op o4_57 (.op o4_58 (.op o4_60 .done))))))))) (.op o4_59 (.op o4_53 (.op o4_54 (.op o4_55 (.op o4_57 (.op o4_58 (.op o4_60 .done)))))))))) (.op o4_59 (.op o4_53 (.op o4_54 (.op o4_55 (.op o4_56 (.op o4_57 (.op o4_58 (.op o4_60 .done))))))))))))))))))) (.seq (.seq (R0 [Sk 21 (Kn 0)]) (.block 4 (.loop (.seq (.seq (R0 [Mv 185 21, Bo 186 .lss 3 (Tm 185) (Kn 3) 3]) (.cond (Tm 186) .skip (.exit 4))) (.seq (.block 5 (.seq (.seq (R0 [Mv 189 14, Mv 190 21, Ix 191 41 189 190, Ld 192 3 191, Bo 193 .lss 3 (Tm 192) (Kn 0) 3, Mv 194 193, Gm 195 14 194 false, Gm 196 21 194 false, Gx 197 41 195 196 194 false, Gl 198 3 197 194 false, Gb 199 .gtr 3 (Tm 198) (Kn 400) 3 194 false, Pk 200 194 (Kb true) (Tm 199)]) (.cond (Tm 200) (.seq (R0 [Sk 4 (Kb false)]) .ret) .skip)) (R1 [Mv 201 21, Mv 202 14, Mv 203 21, Ix 204 41 202 203, Ld 205 3 204, Mv 206 8, Mv 207 21, Ix 208 70 206 207, Fa 209 73 208 0, Ld 210 3 209, Bo 211 .mul 3 (Tm 205) (Tm 210) 3, Ix 212 82 20 201, Sr 3 (Tm 212) (Tm 211)]))) (R0 [Mv 187 21, Bo 188 .add 3 (Tm 187) (Kn 1) 3, Sg 21 188])))))) (.seq (R0 [Oo 213 (.build 66 #[]), Oo 22 (.alloc 66), Sr 66 (Tm 22) (Tm 213)]) (.seq (.seq (R0 [Fa 214 66 6 0, Ld 215 41 214, Lq 216 215 41, Bo 217 .sub 3 (Tm 216) (Kn 1) 3, Sg 23 217]) (.block 6 (.loop (.seq (.seq (R0 [Mv 218 23, Bo 219 .geq 3 (Tm 218) (Kn 0) 3]) (.cond (Tm 219) .skip (.exit 6))) (.seq (.block 7 (R1 [Fa 222 66 22 0, Ld 223 41 222, Fa 224 66 6 0, Ld 225 41 224, Mv 226 23, Ix 227 41 225 226, Ld 228 3 227, Oo 229 (.buildSlice 41 1 #[(0, (Tm 228))]), Oo 230 (.call { callee := .builtin .append, args := #[Tm 223, Tm 229], argTypes := #[41, 41] }), Fa 231 66 22 0, Sr 41 (Tm 231) (Tm 230)])) (R0 [Mv 220 23, Bo 221 .sub 3 (Tm 220) (Kn 1) 3, Sg 23 221])))))) (.seq (.seq (R0 [Fa 232 66 6 1, Ld 233 41 232, Lq 234 233 41, Bo 235 .sub 3 (Tm 234) (Kn 1) 3, Sg 24 235]) (.block 8 (.loop (.seq (.seq (R0 [Mv 236 24, Bo 237 .geq 3 (Tm 236) (Kn 0) 3]) (.cond (Tm 237) .skip (.exit 8))) (.seq (.block 9 (R1 [Fa 240 66 22 1, Ld 241 41 240, Fa 242 66 6 1, Ld 243 41 242, Mv 244 24, Ix 245 41 243 244, Ld 246 3 245, Oo 247 (.buildSlice 41 1 #[(0, (Tm 246))]), Oo 248 (.call { callee := .builtin .append, args := #[Tm 241, Tm 247], argTypes := #[41, 41] }), Fa 249 66 22 1, Sr 41 (Tm 249) (Tm 248)])) (R0 [Mv 238 24, Bo 239 .sub 3 (Tm 238) (Kn 1) 3, Sg 24 239])))))) (.seq (.seq (R0 [Sk 25 (Kn 0)]) (.block 10 (.loop (.seq (.seq (R0 [Mv 250 25, Bo 251 .lss 3 (Tm 250) (Kn 5) 3]) (.cond (Tm 251) .skip (.exit 10))) (.seq (.block 11 (.seq (R0 [Ld 254 66 6, Cl 255 23 #[Tm 254] #[66], Oo 26 (.alloc 66), Sr 66 (Tm 26) (Tm 255)]) (.seq (.seq (R0 [Mv 256 25, Bo 257 .eql 3 (Tm 256) (Kn 4) 3]) (.cond (Tm 257) (R0 [Ld 258 66 22, Cl 259 23 #[Tm 258] #[66], Sr 66 (Tm 26) (Tm 259)]) .skip)) (.seq (R1 [Ld 261 63 5, Cl 262 25 #[Tm 261] #[63], Ld 263 66 26, Mv 264 25, Ix 265 82 20 264, Ld 266 3 265, Cl 267 24 #[Tm 262, Tm 263, Tm 266] #[63, 66, 3], Mv 260 267, Xt 268 260 0, Xt 269 260 1, Sg 27 268, Sg 28 269]) (.seq (R0 [Mv 271 27, Mv 272 18, Cl 273 26 #[Tm 271, Tm 272] #[84, 3], Mv 270 273, Xt 274 270 0, Xt 275 270 1, Sg 29 274, Sg 30 275]) (.seq (R0 [Mv 276 25, Mv 277 29, Ix 278 82 19 276, Sr 3 (Tm 278) (Tm 277)]) (.seq (R0 [Mv 279 28, Bo 280 .neq 42 (Tm 279) (Kn 0) 42, Mv 281 280, Gm 282 30 281 false, Og 283 (.unOp .not 4 (Tm 282)) 281 false, Pk 284 281 (Kb true) (Tm 283)]) (.cond (Tm 284) (.seq (R0 [Sk 4 (Kb false)]) .ret) .skip)))))))) (R0 [Mv 252 25, Bo 253 .add 3 (Tm 252) (Kn 1) 3, Sg 25 253])))))) (.seq (R0 [Oo 285 (.indexAddr 82 (Tm 19) (Kn 0)), Ld 286 3 285, Oo 287 (.indexAddr 82 (Tm 19) (Kn 1)), Ld 288 3 287, Bo 289 .add 3 (Tm 286) (Tm 288) 3, Oo 290 (.indexAddr 82 (Tm 19) (Kn 2)), Ld 291 3 290, Bo 292 .add 3 (Tm 289) (Tm 291) 3, Oo 293 (.indexAddr 82 (Tm 19) (Kn 3)), Ld 294 3 293, Bo 295 .add 3 (Tm 292) (Tm 294) 3, Oo 296 (.indexAddr 82 (Tm 19) (Kn 4)), Ld 297 3 296, Bo 298 .eql 3 (Tm 295) (Tm 297) 3, Mv 299 298, Gc 300 19 #[] #[] 299 true, Pk 301 299 (Tm 300) (Kb false), Mv 302 301, Gc 303 20 #[] #[] 302 true, Pk 304 302 (Tm 303) (Kb false), Sg 4 304]) .ret)))))))))))))))))⟩
def s5 : SF := ⟨215, [.tmp 4], (.seq (R0 [Oo 2 (.box 96 (Tm 0)), Oo 3 (.box 100 (Tm 1)), Sk 4 (Kb false)]) (.seq (R0 [Ld 31 96 2, Cl 32 27 #[Tm 31] #[96], Mv 30 32, Xt 33 30 0, Xt 34 30 1, Xt 35 30 2, Xt 36 30 3, Sg 5 33, Sg 6 34, Sg 7 35, Sg 8 36]) (.seq (.seq (R0 [Mv 37 8, Oo 38 (.unOp .not 4 (Tm 37))]) (.cond (Tm 38) (.seq (R0 [Sk 4 (Kb false)]) .ret) .skip)) (.seq (R0 [Ld 40 96 2, Mv 41 7, Cl 42 28 #[Tm 40, Tm 41] #[96, 41], Mv 39 42, Xt 43 39 0, Xt 44 39 1, Xt 45 39 2, Oo 9 (.alloc 69), Sr 69 (Tm 9) (Tm 43), Sg 10 44, Sg 11 45]) (.seq (R1 [Ld 47 69 9, Mv 48 10, Cl 49 29 #[Tm 48] #[70], Mv 50 11, Cl 51 30 #[Tm 50] #[74], Cl 52 21 #[Tm 47, Tm 49, Tm 51] #[69, 70, 74], Mv 46 52, Xt 53 46 0, Xt 54 46 1, Xt 55 46 2, Xt 56 46 3, Sg 12 53, Sg 13 54, Sg 14 55, Sg 15 56]) (.seq (.seq (R0 [Mv 57 15, Bo 58 .neq 42 (Tm 57) (Kn 0) 42, Mv 59 58, Gm 60 12 59 false, Og 61 (.call { callee := .builtin .len, args := #[Tm 60], argTypes := #[41] }) 59 false, Gb 62 .neq 3 (Tm 61) (Kn 3) 3 59 false, Pk 63 59 (Kb true) (Tm 62)]) (.cond (Tm 63) (.seq (R0 [Sk 4 (Kb false)]) .ret) .skip)) (.seq (R0 [Sk 16 (Kn 0), Sk 17 (Kn 0)]) (.seq (.seq (R0 [Sk 18 (Kn 0)]) (.block 0 (.loop (.seq (.seq (R0 [Mv 64 18, Mv 65 11, Lq 66 65 74, Bo 67 .lss 3 (Tm 64) (Tm 66) 3]) (.cond (Tm 67) .skip (.exit 0))) (.seq (.block 1 (R0 [Mv 70 16, Mv 71 11, Mv 72 18, Ix 73 74 71 72, Fa 74 78 73 1, Ld 75 3 74, Bo 76 .add 3 (Tm 70) (Tm 75) 3, Sg 16 76])) (R0 [Mv 68 18, Bo 69 .add 3 (Tm 68) (Kn 1) 3, Sg 18 69])))))) (.seq (.seq (R0 [Sk 19 (Kn 0)]) (.block 2 (.loop (.seq (.seq (R0 [Mv 77 19, Bo 78 .lss 3 (Tm 77) (Kn 3) 3]) (.cond (Tm 78) .skip (.exit 2))) (.seq (.block 3 (R1 [Mv 81 17, Mv 82 10, Mv 83 19, Ix 84 70 82 83, Fa 85 73 84 0, Ld 86 3 85, Mv 87 12, Mv 88 19, Ix 89 41 87 88, Ld 90 3 89, Bo 91 .mul 3 (Tm 86) (Tm 90) 3, Bo 92 .add 3 (Tm 81) (Tm 91) 3, Sg 17 92])) (R0 [Mv 79 19, Bo 80 .add 3 (Tm 79) (Kn 1) 3, Sg 19 80])))))) (.seq (.seq (R0 [Fa 93 69 9 0, Ld 94 3 93, Mv 95 16, Bo 96 .mul 3 (Tm 94) (Tm 95) 3, Mv 97 17, Mv 98 13, Bo 99 .add 3 (Tm 97) (Tm 98) 3, Bo 100 .neq 3 (Tm 96) (Tm 99) 3]) (.cond (Tm 100) (.seq (R0 [Sk 4 (Kb false)]) .ret) .skip)) (.seq (R0 [Ld 101 100 3, Cl 102 31 #[Tm 101] #[100], Oo 20 (.alloc 63), Sr 63 (Tm 20) (Tm 102)]) (.seq (R0 [Fa 103 63 20 1, Ld 104 61 103, Oo 105 (.indexAddr 61 (Tm 104) (Kn 0)), Fa 106 109 105 0, Ld 107 3 106, Sg 21 107]) (.seq (R0 [Oo 108 (.build 110 #[]), Oo 22 (.alloc 110), Sr 110 (Tm 22) (Tm 108)]) (.seq (.seq (R0 [Sk 23 (Kn 0)]) (.block 4 (.loop (.seq (.seq (R0 [Mv 109 23, Bo 110 .lss 3 (Tm 109) (Kn 3) 3]) (.cond (Tm 110) .skip (.exit 4))) (.seq (.block 5 (.seq (R1 [Ld 114 63 20, Cl 115 32 #[Tm 114] #[63], Cl 116 33 #[] #[], Mv 117 17, Mv 118 13, Fa 119 69 9 0, Ld 120 3 119, Mv 121 16, Bo 122 .mul 3 (Tm 120) (Tm 121) 3, Oo 123 (.build 111 #[(0, (Tm 117)), (1, (Tm 118)), (2, (Tm 122))]), Mv 124 23, Oo 125 (.index 111 (Tm 123) (Tm 124)), Cl 126 24 #[Tm 115, Tm 116, Tm 125] #[63, 66, 3], Mv 113 126, Xt 127 113 0, Xt 128 113 1, Sg 24 127, Sg 25 128]) (.seq (.seq (R0 [Mv 129 25, Bo 130 .neq 42 (Tm 129) (Kn 0) 42, Mv 131 130, Gm 132 24 131 false, Og 133 (.call { callee := .builtin .len, args := #[Tm 132], argTypes := #[84] }) 131 false, Gb 134 .neq 3 (Tm 133) (Kn 3) 3 131 false, Pk 135 131 (Kb true) (Tm 134)]) (.cond (Tm 135) (.seq (R0 [Sk 4 (Kb false)]) .ret) .skip)) (.seq (.seq (R0 [Sk 26 (Kn 0)]) (.block 6 (.loop (.seq (.seq (R0 [Mv 136 26, Bo 137 .lss 3 (Tm 136) (Kn 3) 3]) (.cond (Tm 137) .skip (.exit 6))) (.seq (.block 7 (.seq (R0 [Mv 140 24, Mv 141 26, Ix 142 84 140 141, Fa 143 28 142 1, Ld 144 3 143, Bo 145 .lss 3 (Tm 144) (Kn 1) 3, Mv 146 145, Gm 147 21 146 false, Gm 148 24 146 false, Gm 149 26 146 false, Gx 150 84 148 149 146 false, Gf 151 28 150 1 146 false, Gl 152 3 151 146 false, Gb 153 .rem 3 (Tm 147) (Tm 152) 3 146 false, Gb 154 .neq 3 (Tm 153) (Kn 0) 3 146 false, Pk 155 146 (Kb true) (Tm 154), Mv 156 155, Gm 157 24 156 false, Gm 158 26 156 false, Gx 159 84 157 158 156 false, Gf 160 28 159 0 156 false, Gl 161 3 160 156 false, Gb 162 .lss 3 (Tm 161) (Kn 0) 3 156 false, Pk 163 156 (Kb true) (Tm 162), Mv 164 163, Gm 165 24 164 false, Gm 166 26 164 false, Gx 167 84 165 166 164 false, Gf 168 28 167 0 164 false, Gl 169 3 168 164 false, Gb 170 .gtr 3 (Tm 169) (Kn 35184372088832) 3 164 false, Pk 171 164 (Kb true) (Tm 170)]) (.cond (Tm 171) (.seq (R0 [Sk 4 (Kb false)]) .ret) .skip))) (R0 [Mv 138 26, Bo 139 .add 3 (Tm 138) (Kn 1) 3, Sg 26 139])))))) (R0 [Mv 172 23, Mv 173 24, Ix 174 110 22 172, Sr 84 (Tm 174) (Tm 173)]))))) (R0 [Mv 111 23, Bo 112 .add 3 (Tm 111) (Kn 1) 3, Sg 23 112])))))) (.seq (.seq (R0 [Sk 27 (Kn 0)]) (.block 8 (.loop (.seq (.seq (R0 [Mv 175 27, Bo 176 .lss 3 (Tm 175) (Kn 3) 3]) (.cond (Tm 176) .skip (.exit 8))) (.seq (.block 9 (.seq (R0 [Oo 179 (.build 111 #[]), Oo 28 (.alloc 111), Sr 111 (Tm 28) (Tm 179)]) (.seq (.seq (R0 [Sk 29 (Kn 0)]) (.block 10 (.loop (.seq (.seq (R0 [Mv 180 29, Bo 181 .lss 3 (Tm 180) (Kn 3) 3]) (.cond (Tm 181) .skip (.exit 10))) (.seq (.block 11 (R1 [Mv 184 29, Mv 185 29, Ix 186 110 22 185, Ld 187 84 186, Mv 188 27, Ix 189 84 187 188, Fa 190 28 189 0, Ld 191 3 190, Mv 192 21, Mv 193 29, Ix 194 110 22 193, Ld 195 84 194, Mv 196 27, Ix 197 84 195 196, Fa 198 28 197 1, Ld 199 3 198, Bo 200 .quo 3 (Tm 192) (Tm 199) 3, Bo 201 .mul 3 (Tm 191) (Tm 200) 3, Ix 202 111 28 184, Sr 3 (Tm 202) (Tm 201)])) (R0 [Mv 182 29, Bo 183 .add 3 (Tm 182) (Kn 1) 3, Sg 29 183])))))) (.seq (R0 [Oo 203 (.indexAddr 111 (Tm 28) (Kn 0)), Ld 204 3 203, Oo 205 (.indexAddr 111 (Tm 28) (Kn 1)), Ld 206 3 205, Bo 207 .add 3 (Tm 204) (Tm 206) 3, Oo 208 (.indexAddr 111 (Tm 28) (Kn 2)), Ld 209 3 208, Bo 210 .neq 3 (Tm 207) (Tm 209) 3]) (.cond (Tm 210) (.seq (R0 [Sk 4 (Kb false)]) .ret) .skip))))) (R0 [Mv 177 27, Bo 178 .add 3 (Tm 177) (Kn 1) 3, Sg 27 178])))))) (.seq (R0 [Cl 211 34 #[] #[], Mv 212 211, Gc 213 35 #[] #[] 212 true, Pk 214 212 (Tm 213) (Kb false), Sg 4 214]) .ret))))))))))))))))⟩
def s6 : SF := ⟨55, [.cell 4 31], (.seq (R0 [Oo 2 (.box 24 (Tm 0)), Oo 3 (.box 28 (Tm 1)), Oo 4 (.alloc 31)]) (.seq (R0 [Ld 8 28 3, Fa 9 24 2 0, Ld 10 5 9, Oo 11 (.convert 5 3 (Tm 10)), Bo 12 .rem 3 (Tm 11) (Kn 50) 3, Oo 13 (.build 31 #[(0, (Tm 8)), (1, (Tm 12))]), Oo 5 (.alloc 31), Sr 31 (Tm 5) (Tm 13)]) (.seq (.seq (R0 [Sk 6 (Kn 0)]) (.block 0 (.loop (.seq (.seq (R0 [Mv 14 6, Fa 15 24 2 1, Ld 16 22 15, Lq 17 16 22, Bo 18 .lss 3 (Tm 14) (Tm 17) 3, Mv 19 18, Gm 20 6 19 true, Gb 21 .lss 3 (Tm 20) (Kn 5) 3 19 true, Pk 22 19 (Tm 21) (Kb false)]) (.cond (Tm 22) .skip (.exit 0))) (.seq (.block 1 (.seq (R1 [Fa 25 31 5 1, Ld 26 3 25, Bo 27 .add 3 (Tm 26) (Kn 1) 3, Fa 28 24 2 1, Ld 29 22 28, Mv 30 6, Ix 31 22 29 30, Oo 32 (.indexAddr 113 (Tm 31) (Kn 0)), Ld 33 5 32, Oo 34 (.convert 5 3 (Tm 33)), Bo 35 .mul 3 (Kn 10) (Tm 34) 3, Bo 36 .add 3 (Tm 27) (Tm 35) 3, Sg 7 36]) (R1 [Fa 37 31 5 2, Ld 38 29 37, Mv 39 7, Mv 40 7, Fa 41 24 2 1, Ld 42 22 41, Mv 43 6, Ix 44 22 42 43, Oo 45 (.indexAddr 113 (Tm 44) (Kn 1)), Ld 46 5 45, Oo 47 (.convert 5 3 (Tm 46)), Bo 48 .rem 3 (Tm 47) (Kn 40) 3, Bo 49 .add 3 (Tm 40) (Tm 48) 3, Cl 50 7 #[Tm 39, Tm 49] #[3, 3], Oo 51 (.buildSlice 29 1 #[(0, (Tm 50))]), Oo 52 (.call { callee := .builtin .append, args := #[Tm 38, Tm 51], argTypes := #[29, 29] }), Fa 53 31 5 2, Sr 29 (Tm 53) (Tm 52)]))) (R0 [Mv 23 6, Bo 24 .add 3 (Tm 23) (Kn 1) 3, Sg 6 24])))))) (.seq (R0 [Ld 54 31 5, Sr 31 (Tm 4) (Tm 54)]) .ret))))⟩
theorem sf6 : sfOf Try.f6 = some s6 := by kernel_rfl
theorem hb6 : hasBody Try.prog 6 = true := by kernel_rfl
def s7 : SF := ⟨8, [.cell 4 35], (.seq (R0 [Oo 4 (.alloc 35)]) (.seq (R0 [Mv 5 0, Mv 6 1, Oo 7 (.build 35 #[(0, (Tm 5)), (1, (Tm 6))]), Sr 35 (Tm 4) (Tm 7)]) .ret))⟩
theorem sf7 : sfOf Try.f7 = some s7 := by kernel_rfl
theorem hb7 : hasBody Try.prog 7 = true := by kernel_rfl
def s8 : SF := ⟨43, [.cell 4 41, .cell 5 42], (.seq (R0 [Oo 2 (.box 40 (Tm 0)), Oo 3 (.box 33 (Tm 1)), Oo 4 (.alloc 41), Oo 5 (.alloc 42)]) (.seq (.seq (R0 [Ld 11 40 2, Ld 12 33 3, Cl 13 36 #[Tm 11, Tm 12] #[40, 33], Sg 6 13]) (.seq (R0 [Mv 14 6, Bo 15 .neq 42 (Tm 14) (Kn 0) 42]) (.cond (Tm 15) (.seq (R0 [Mv 16 6, Sr 41 (Tm 4) (.const (.slice none 0 0)), Sr 42 (Tm 5) (Tm 16)]) .ret) .skip))) (.seq (.seq (R0 [Ld 17 33 3, Lq 18 17 33, Cl 19 37 #[Tm 18] #[3]]) (.block 0 (.rng (Tm 19) [20] (R0 [Sg 7 20]) (.block 1 (.seq (R0 [Ld 21 40 2, Oo 22 (.build 118 #[(0, (Tm 21))]), Oo 8 (.alloc 118), Sr 118 (Tm 8) (Tm 22)]) (.seq (.seq (R0 [Mv 23 7, Lq 24 23 41, Oo 25 (.move (Kn 0))]) (.block 2 (.loop (.seq (R0 [Bo 26 .lss 3 (Tm 25) (Tm 24) 3]) (.seq (.cond (Tm 26) .skip (.exit 2)) (.seq (.block 3 (.seq (R0 [Ix 27 41 23 25, Ld 28 3 27, Sg 10 28]) (R1 [Fa 29 118 8 1, Ld 30 33 29, Ld 31 33 3, Mv 32 10, Ix 33 33 31 32, Ld 34 38 33, Oo 35 (.buildSlice 33 1 #[(0, (Tm 34))]), Oo 36 (.call { callee := .builtin .append, args := #[Tm 30, Tm 35], argTypes := #[33, 33] }), Fa 37 118 8 1, Sr 33 (Tm 37) (Tm 36)]))) (R0 [Bo 38 .add 3 (Tm 25) (Kn 1) 3, Mv 25 38]))))))) (.seq (R0 [Ld 39 118 8, Cl 40 38 #[Tm 39] #[118]]) (.cond (Tm 40) (.seq (R0 [Mv 41 7, Cl 42 39 #[Tm 41] #[41], Sr 41 (Tm 4) (Tm 42), Sr 42 (Tm 5) (Kn 0)]) .ret) .skip)))))))) (.seq (R0 [Sr 41 (Tm 4) (.const (.slice none 0 0)), Sr 42 (Tm 5) (Kn 9)]) .ret))))⟩
theorem sf8 : sfOf Try.f8 = some s8 := by kernel_rfl
theorem hb8 : hasBody Try.prog 8 = true := by kernel_rfl
def s9 : SF := ⟨6, [.tmp 2], (.seq (R0 [Oo 2 (.assign (.const (.slice none 0 0)))]) (.seq (R0 [Oo 3 (.buildSlice 33 0 #[]), Mv 4 0, Oo 5 (.call { callee := .builtin .append, args := #[Tm 3, Tm 4], argTypes := #[33, 33] }), Sg 2 5]) .ret))⟩
theorem sf9 : sfOf Try.f9 = some s9 := by kernel_rfl
theorem hb9 : hasBody Try.prog 9 = true := by kernel_rfl
def s10 : SF := ⟨44, [.tmp 0], (.seq (R0 [Sk 0 (Kb false)]) (.seq (R0 [Oo 8 (.build 121 #[(0, (Kn 120)), (1, (Kn 80)), (2, (Kn 15)), (3, (Kn 5)), (4, (Kn 180)), (5, (Kn 500000))]), Oo 1 (.alloc 121), Sr 121 (Tm 1) (Tm 8)]) (.seq (R0 [Cl 9 7 #[Kn 5000, Kn 6000] #[3, 3], Cl 10 7 #[Kn 900, Kn 1000] #[3, 3], Oo 11 (.build 123 #[(0, (Kn 40)), (1, (Kn 30)), (2, (Kn 25)), (3, (Tm 9)), (4, (Tm 10))]), Oo 2 (.alloc 123), Sr 123 (Tm 2) (Tm 11)]) (.seq (R0 [Ld 13 121 1, Ld 14 123 2, Cl 15 40 #[Tm 13, Tm 14] #[121, 123], Mv 12 15, Xt 16 12 0, Xt 17 12 1, Sg 3 16, Sg 4 17]) (.seq (R0 [Oo 19 (.build 40 #[(0, (Kn 600)), (1, (Kn 100)), (2, (Kn 500)), (3, (Kn 3000000)), (4, (Kn 3000000))]), Cl 20 7 #[Kn 1000000, Kn 1000000] #[3, 3], Oo 21 (.build 38 #[(0, (Kn 120)), (1, (Tm 20))]), Cl 22 7 #[Kn 800000, Kn 900000] #[3, 3], Oo 23 (.build 38 #[(0, (Kn 120)), (1, (Tm 22))]), Oo 24 (.buildSlice 33 2 #[(0, (Tm 21)), (1, (Tm 23))]), Cl 25 13 #[Tm 19, Tm 24] #[40, 33], Mv 18 25, Xt 26 18 0, Xt 27 18 1, Xt 28 18 2, Oo 5 (.alloc 35), Oo 6 (.alloc 35), Sr 35 (Tm 5) (Tm 26), Sr 35 (Tm 6) (Tm 27), Sg 7 28]) (.seq (R1 [Mv 29 4, Bo 30 .eql 42 (Tm 29) (Kn 0) 42, Mv 31 30, Gm 32 7 31 true, Gb 33 .eql 42 (Tm 32) (Kn 0) 42 31 true, Pk 34 31 (Tm 33) (Kb false), Mv 35 34, Gm 36 3 35 true, Gb 37 .eql 3 (Tm 36) (Kn 9) 3 35 true, Pk 38 35 (Tm 37) (Kb false), Mv 39 38, Gl 40 35 6 39 true, Gc 41 7 #[Kn 60000, Kn 80000] #[3, 3] 39 true, Gb 42 .eql 35 (Tm 40) (Tm 41) 35 39 true, Pk 43 39 (Tm 42) (Kb false), Sg 0 43]) .ret))))))⟩
theorem sf10 : sfOf Try.f10 = some s10 := by kernel_rfl
theorem hb10 : hasBody Try.prog 10 = true := by kernel_rfl
def s11 : SF := ⟨47, [.tmp 0], (.seq (R0 [Sk 0 (Kb false)]) (.seq (R0 [Oo 6 (.build 28 #[(0, (Kn 3)), (1, (Kn 2))]), Cl 7 7 #[Kn 3100, Kn 3160] #[3, 3], Cl 8 7 #[Kn 6100, Kn 6100] #[3, 3], Oo 9 (.buildSlice 29 2 #[(0, (Tm 7)), (1, (Tm 8))]), Oo 10 (.build 31 #[(0, (Tm 6)), (1, (Kn 100)), (2, (Tm 9))]), Oo 1 (.alloc 31), Sr 31 (Tm 1) (Tm 10)]) (.seq (R0 [Ld 12 31 1, Cl 13 14 #[Tm 12] #[31], Mv 11 13, Xt 14 11 0, Xt 15 11 1, Oo 2 (.alloc 35), Sr 35 (Tm 2) (Tm 14), Sg 3 15]) (.seq (R1 [Ld 17 31 1, Cl 18 7 #[Kn 2010, Kn 2012] #[3, 3], Oo 19 (.build 129 #[(1, (Tm 18))]), Oo 20 (.buildSlice 130 1 #[(0, (Tm 19))]), Cl 21 41 #[Tm 17, Tm 20] #[31, 130], Mv 16 21, Xt 22 16 0, Xt 23 16 1, Sg 4 22, Sg 5 23]) (.seq (R1 [Mv 24 3, Bo 25 .eql 42 (Tm 24) (Kn 0) 42, Mv 26 25, Gm 27 5 26 true, Gb 28 .eql 42 (Tm 27) (Kn 0) 42 26 true, Pk 29 26 (Tm 28) (Kb false), Mv 30 29, Gl 31 35 2 30 true, Gc 32 7 #[Kn 6000, Kn 6040] #[3, 3] 30 true, Gb 33 .eql 35 (Tm 31) (Tm 32) 35 30 true, Pk 34 30 (Tm 33) (Kb false), Mv 35 34, Gm 36 4 35 true, Og 37 (.call { callee := .builtin .len, args := #[Tm 36], argTypes := #[29] }) 35 true, Gb 38 .eql 3 (Tm 37) (Kn 2) 3 35 true, Pk 39 35 (Tm 38) (Kb false), Mv 40 39, Gm 41 4 40 true, Og 42 (.indexAddr 29 (Tm 41) (Kn 0)) 40 true, Gl 43 35 42 40 true, Gc 44 7 #[Kn 3115, Kn 3119] #[3, 3] 40 true, Gb 45 .eql 35 (Tm 43) (Tm 44) 35 40 true, Pk 46 40 (Tm 45) (Kb false), Sg 0 46]) .ret)))))⟩
theorem sf11 : sfOf Try.f11 = some s11 := by kernel_rfl
theorem hb11 : hasBody Try.prog 11 = true := by kernel_rfl
def s12 : SF := ⟨28, [.tmp 4], (.seq (R0 [Oo 2 (.box 31 (Tm 0)), Oo 4 (.assign (.const (.slice none 0 0)))]) (.seq (R0 [Oo 7 (.buildSlice 41 0 #[]), Sg 5 7]) (.seq (.seq (R0 [Sk 6 (Kn 0)]) (.block 0 (.loop (.seq (.seq (R0 [Mv 8 6, Fa 9 31 2 2, Ld 10 29 9, Lq 11 10 29, Bo 12 .lss 3 (Tm 8) (Tm 11) 3]) (.cond (Tm 12) .skip (.exit 0))) (.seq (.block 1 (R1 [Mv 15 5, Fa 16 31 2 2, Ld 17 29 16, Mv 18 6, Ix 19 29 17 18, Ld 20 35 19, Mv 21 1, Mv 22 6, Cl 23 43 #[Tm 21, Tm 22] #[26, 3], Cl 24 42 #[Tm 20, Tm 23] #[35, 3], Oo 25 (.buildSlice 41 1 #[(0, (Tm 24))]), Oo 26 (.call { callee := .builtin .append, args := #[Tm 15, Tm 25], argTypes := #[41, 41] }), Sg 5 26])) (R0 [Mv 13 6, Bo 14 .add 3 (Tm 13) (Kn 1) 3, Sg 6 14])))))) (.seq (R0 [Mv 27 5, Sg 4 27]) .ret))))⟩
theorem sf12 : sfOf Try.f12 = some s12 := by kernel_rfl
theorem hb12 : hasBody Try.prog 12 = true := by kernel_rfl
def o13_0 : SO := (Ld 14 35 4)
def o13_1 : SO := (Ld 15 35 5)
def o13_2 : SO := (Mv 16 7)
def o13_3 : SO := (Sr 35 (Tm 4) (Tm 14))
def o13_4 : SO := (Sr 35 (Tm 5) (Tm 15))
def o13_5 : SO := (Sg 6 16)
def s13 : SF := ⟨33, [.cell 4 35, .cell 5 35, .tmp 6], (.seq (R0 [Oo 2 (.box 40 (Tm 0)), Oo 4 (.alloc 35), Oo 5 (.alloc 35), Sk 6 (Kn 0)]) (.seq (.seq (R0 [Ld 9 40 2, Mv 10 1, Cl 11 36 #[Tm 9, Tm 10] #[40, 33], Sg 7 11]) (.seq (R0 [Mv 12 7, Bo 13 .neq 42 (Tm 12) (Kn 0) 42]) (.cond (Tm 13) (.seq (.ord (.op o13_0 (.alt (.op o13_1 (.alt (.op o13_2 (.op o13_3 (.op o13_4 (.op o13_5 .done)))) (.op o13_3 (.alt (.op o13_2 (.op o13_4 (.op o13_5 .done))) (.op o13_4 (.op o13_2 (.op o13_5 .done))))))) (.alt (.op o13_2 (.alt (.op o13_1 (.op o13_3 (.op o13_4 (.op o13_5 .done)))) (.op o13_3 (.op o13_1 (.op o13_4 (.op o13_5 .done)))))) (.op o13_3 (.op o13_1 (.alt (.op o13_2 (.op o13_4 (.op o13_5 .done))) (.op o13_4 (.op o13_2 (.op o13_5 .done)))))))))) .ret) .skip))) (.seq (R0 [Ld 17 40 2, Mv 18 1, Oo 19 (.build 118 #[(0, (Tm 17)), (1, (Tm 18))]), Oo 8 (.alloc 118), Sr 118 (Tm 8) (Tm 19)]) (.seq (R0 [Ld 21 118 8, Cl 22 44 #[Tm 21] #[118], Mv 20 22, Xt 23 20 0, Xt 24 20 1, Sr 35 (Tm 4) (Tm 23), Sr 35 (Tm 5) (Tm 24)]) (.seq (R1 [Ld 25 35 4, Ld 26 118 8, Cl 27 46 #[Tm 26] #[118], Cl 28 45 #[Tm 25, Tm 27] #[35, 3], Ld 29 35 5, Ld 30 118 8, Cl 31 46 #[Tm 30] #[118], Cl 32 45 #[Tm 29, Tm 31] #[35, 3], Sr 35 (Tm 4) (Tm 28), Sr 35 (Tm 5) (Tm 32), Sk 6 (Kn 0)]) .ret)))))⟩
theorem sf13 : sfOf Try.f13 = some s13 := by kernel_rfl
theorem hb13 : hasBody Try.prog 13 = true := by kernel_rfl
def s14 : SF := ⟨17, [.cell 2 35, .tmp 3], (.seq (R0 [Oo 1 (.box 31 (Tm 0)), Oo 2 (.alloc 35), Sk 3 (Kn 0)]) (.seq (.seq (R0 [Ld 5 31 1, Cl 6 47 #[Tm 5] #[31], Sg 4 6]) (.seq (R0 [Mv 7 4, Bo 8 .neq 42 (Tm 7) (Kn 0) 42]) (.cond (Tm 8) (.seq (R0 [Oo 9 (.build 35 #[]), Mv 10 4, Sr 35 (Tm 2) (Tm 9), Sg 3 10]) .ret) .skip))) (.seq (R1 [Ld 11 31 1, Oo 12 (.build 139 #[(0, (Tm 11))]), Ld 13 31 1, Oo 14 (.build 139 #[(0, (Tm 13))]), Cl 15 49 #[Tm 14] #[139], Cl 16 48 #[Tm 12, Tm 15] #[139, 35], Sr 35 (Tm 2) (Tm 16), Sk 3 (Kn 0)]) .ret)))⟩
theorem sf14 : sfOf Try.f14 = some s14 := by kernel_rfl
theorem hb14 : hasBody Try.prog 14 = true := by kernel_rfl
end Go.Dw.Seat
end
section
namespace Go.Dw.Seat
open Go Go.Dw Go.Proofs
def o15_0 : SO := (Oo 7 (.buildSlice 29 0 #[]))
def o15_1 : SO := (Fa 8 31 1 2)
def o15_2 : SO := (Ld 9 29 8)
def o15_3 : SO := (Fa 3 31 1 0)
def o15_4 : SO := (Ld 4 28 3)
def o15_5 : SO := (Fa 5 31 1 1)
def o15_6 : SO := (Ld 6 3 5)
def o15_7 : SO := (Oo 10 (.call { callee := .builtin .append, args := #[Tm 7, Tm 9], argTypes := #[29, 29] }))
def o15_8 : SO := (Oo 11 (.build 31 #[(0, (Tm 4)), (1, (Tm 6)), (2, (Tm 10))]))
def o15_9 : SO := (Sr 31 (Tm 2) (Tm 11))
def s15 : SF := ⟨12, [.cell 2 31], (.seq (R0 [Oo 1 (.box 31 (Tm 0)), Oo 2 (.alloc 31)]) (.seq (.ord (.op o15_0 (.op o15_1 (.op o15_2 (.alt (.op o15_3 (.alt (.op o15_4 (.alt (.op o15_5 (.alt (.op o15_6 (.op o15_7 (.op o15_8 (.op o15_9 .done)))) (.op o15_7 (.op o15_6 (.op o15_8 (.op o15_9 .done)))))) (.op o15_7 (.op o15_5 (.op o15_6 (.op o15_8 (.op o15_9 .done))))))) (.alt (.op o15_5 (.alt (.op o15_4 (.alt (.op o15_6 (.op o15_7 (.op o15_8 (.op o15_9 .done)))) (.op o15_7 (.op o15_6 (.op o15_8 (.op o15_9 .done)))))) (.alt (.op o15_6 (.alt (.op o15_4 (.op o15_7 (.op o15_8 (.op o15_9 .done)))) (.op o15_7 (.op o15_4 (.op o15_8 (.op o15_9 .done)))))) (.op o15_7 (.op o15_4 (.op o15_6 (.op o15_8 (.op o15_9 .done)))))))) (.op o15_7 (.op o15_4 (.op o15_5 (.op o15_6 (.op o15_8 (.op o15_9 .done))))))))) (.alt (.op o15_5 (.alt (.op o15_3 (.alt (.op o15_4 (.alt (.op o15_6 (.op o15_7 (.op o15_8 (.op o15_9 .done)))) (.op o15_7 (.op o15_6 (.op o15_8 (.op o15_9 .done)))))) (.alt (.op o15_6 (.alt (.op o15_4 (.op o15_7 (.op o15_8 (.op o15_9 .done)))) (.op o15_7 (.op o15_4 (.op o15_8 (.op o15_9 .done)))))) (.op o15_7 (.op o15_4 (.op o15_6 (.op o15_8 (.op o15_9 .done)))))))) (.alt (.op o15_6 (.alt (.op o15_3 (.alt (.op o15_4 (.op o15_7 (.op o15_8 (.op o15_9 .done)))) (.op o15_7 (.op o15_4 (.op o15_8 (.op o15_9 .done)))))) (.op o15_7 (.op o15_3 (.op o15_4 (.op o15_8 (.op o15_9 .done))))))) (.op o15_7 (.op o15_3 (.op o15_4 (.op o15_6 (.op o15_8 (.op o15_9 .done))))))))) (.op o15_7 (.op o15_3 (.op o15_4 (.op o15_5 (.op o15_6 (.op o15_8 (.op o15_9 .done))))))))))))) .ret))⟩
theorem sf15 : sfOf Try.f15 = some s15 := by kernel_rfl
theorem hb15 : hasBody Try.prog 15 = true := by kernel_rfl
def s36 : SF := ⟨59, [.tmp 4], (.seq (R0 [Oo 2 (.box 40 (Tm 0)), Sk 4 (Kn 0)]) (.seq (R0 [Oo 5 (.assign (.func 71))]) (.seq (.block 0 (.seq (.seq (R0 [Fa 10 40 2 0, Ld 11 3 10, Oo 12 (.buildSlice 41 1 #[(0, (Tm 11))]), Cl 13 72 #[Kn 1, Kn 2000, Tm 12] #[3, 3, 41], Oo 14 (.unOp .not 4 (Tm 13)), Sg 9 14]) (.cond (Tm 9) .skip (.seq (R0 [Fa 15 40 2 0, Ld 16 3 15, Fa 17 40 2 1, Ld 18 3 17, Fa 19 40 2 2, Ld 20 3 19, Oo 21 (.buildSlice 41 2 #[(0, (Tm 18)), (1, (Tm 20))]), Cl 22 72 #[Kn 0, Tm 16, Tm 21] #[3, 3, 41], Oo 23 (.unOp .not 4 (Tm 22)), Sg 9 23]) (.cond (Tm 9) .skip (.seq (R0 [Fa 24 40 2 1, Ld 25 3 24, Fa 26 40 2 2, Ld 27 3 26, Bo 28 .geq 3 (Tm 25) (Tm 27) 3, Sg 9 28]) (.cond (Tm 9) .skip (R0 [Fa 29 40 2 3, Ld 30 3 29, Fa 31 40 2 4, Ld 32 3 31, Oo 33 (.buildSlice 41 2 #[(0, (Tm 30)), (1, (Tm 32))]), Cl 34 72 #[Kn 0, Kn 40000000, Tm 33] #[3, 3, 41], Oo 35 (.unOp .not 4 (Tm 34)), Sg 9 35]))))))) (.cond (Tm 9) (.seq (R0 [Sk 4 (Kn 2)]) .ret) (.seq (R0 [Mv 37 1, Lq 38 37 33, Bo 39 .gtr 3 (Tm 38) (Kn 7) 3, Sg 36 39]) (.cond (Tm 36) (.seq (R0 [Sk 4 (Kn 5)]) .ret) (.seq (R0 [Mv 41 1, Mv 42 5, Cl 43 74 #[Tm 41, Tm 42] #[33, 178], Sg 40 43]) (.cond (Tm 40) (.seq (R0 [Sk 4 (Kn 4)]) .ret) .skip))))))) (.seq (R0 [Sk 6 (Kn 0)]) (.seq (.seq (R0 [Mv 44 1, Lq 45 44 33, Oo 46 (.move (Kn 0))]) (.block 1 (.loop (.seq (R0 [Bo 47 .lss 3 (Tm 46) (Tm 45) 3]) (.seq (.cond (Tm 47) .skip (.exit 1)) (.seq (.block 2 (.seq (R0 [Ix 48 33 44 46, Ld 49 38 48, Oo 8 (.alloc 38), Sr 38 (Tm 8) (Tm 49)]) (R0 [Mv 50 6, Fa 51 38 8 0, Ld 52 3 51, Bo 53 .add 3 (Tm 50) (Tm 52) 3, Sg 6 53]))) (R0 [Bo 54 .add 3 (Tm 46) (Kn 1) 3, Mv 46 54]))))))) (.seq (.seq (R0 [Mv 55 6, Fa 56 40 2 0, Ld 57 3 56, Bo 58 .gtr 3 (Tm 55) (Tm 57) 3]) (.cond (Tm 58) (.seq (R0 [Sk 4 (Kn 3)]) .ret) .skip)) (.seq (R0 [Sk 4 (Kn 0)]) .ret)))))))⟩
theorem sf36 : sfOf Try.f36 = some s36 := by kernel_rfl
theorem hb36 : hasBody Try.prog 36 = true := by kernel_rfl
def s37 : SF := ⟨4, [.tmp 2], (.seq (R0 [Oo 1 (.box 3 (Tm 0)), Oo 2 (.assign (.const .nilFunc))]) (.seq (R0 [Oo 3 (.makeFunc (.func 75) #[] #[Tm 1]), Sg 2 3]) .ret))⟩
theorem sf37 : sfOf Try.f37 = some s37 := by kernel_rfl
theorem hb37 : hasBody Try.prog 37 = true := by kernel_rfl
def s38 : SF := ⟨28, [.tmp 2], (.seq (R0 [Oo 1 (.box 118 (Tm 0)), Sk 2 (Kb false)]) (.seq (R0 [Ld 6 118 1, Cl 7 44 #[Tm 6] #[118], Mv 5 7, Xt 8 5 0, Xt 9 5 1, Oo 3 (.alloc 35), Oo 4 (.alloc 35), Sr 35 (Tm 3) (Tm 8), Sr 35 (Tm 4) (Tm 9)]) (.seq (R1 [Ld 10 35 3, Fa 11 118 1 0, Fa 12 40 11 3, Ld 13 3 12, Ld 14 118 1, Cl 15 46 #[Tm 14] #[118], Bo 16 .mul 3 (Tm 13) (Tm 15) 3, Cl 17 73 #[Tm 10, Kn 0, Tm 16] #[35, 3, 3], Mv 18 17, Gl 19 35 4 18 true, Gf 20 118 1 0 18 true, Gf 21 40 20 4 18 true, Gl 22 3 21 18 true, Gl 23 118 1 18 true, Gc 24 46 #[Tm 23] #[118] 18 true, Gb 25 .mul 3 (Tm 22) (Tm 24) 3 18 true, Gc 26 73 #[Tm 19, Kn 0, Tm 25] #[35, 3, 3] 18 true, Pk 27 18 (Tm 26) (Kb false), Sg 2 27]) .ret)))⟩
theorem sf38 : sfOf Try.f38 = some s38 := by kernel_rfl
theorem hb38 : hasBody Try.prog 38 = true := by kernel_rfl
def s39 : SF := ⟨8, [.tmp 2], (.seq (R0 [Oo 2 (.assign (.const (.slice none 0 0)))]) (.seq (.seq (R0 [Mv 3 0, Bo 4 .eql 41 (Tm 3) (.const (.slice none 0 0)) 41]) (.cond (Tm 4) (.seq (R0 [Oo 2 (.assign (.const (.slice none 0 0)))]) .ret) .skip)) (.seq (R0 [Oo 5 (.buildSlice 41 0 #[]), Mv 6 0, Oo 7 (.call { callee := .builtin .append, args := #[Tm 5, Tm 6], argTypes := #[41, 41] }), Sg 2 7]) .ret)))⟩
theorem sf39 : sfOf Try.f39 = some s39 := by kernel_rfl
theorem hb39 : hasBody Try.prog 39 = true := by kernel_rfl
def o40_0 : SO := (Ld 17 184 7)
def o40_1 : SO := (Ld 19 184 7)
def o40_2 : SO := (Cl 20 80 #[Tm 19] #[184])
def o40_3 : SO := (Oo 22 (.field 188 (Tm 21) 0))
def o40_4 : SO := (Sg 4 22)
def o40_5 : SO := (Sk 5 (Kn 0))
def s40 : SF := ⟨23, [.tmp 4, .tmp 5], (.seq (R0 [Oo 2 (.box 121 (Tm 0)), Oo 3 (.box 123 (Tm 1)), Sk 4 (Kn 0), Sk 5 (Kn 0)]) (.seq (.seq (R0 [Ld 8 121 2, Ld 9 123 3, Cl 10 77 #[Tm 8, Tm 9] #[121, 123], Sg 6 10]) (.seq (R0 [Mv 11 6, Bo 12 .neq 42 (Tm 11) (Kn 0) 42]) (.cond (Tm 12) (.seq (R0 [Mv 13 6, Sk 4 (Kn 0), Sg 5 13]) .ret) .skip))) (.seq (R0 [Ld 14 121 2, Ld 15 123 3, Oo 16 (.build 184 #[(0, (Tm 14)), (1, (Tm 15))]), Oo 7 (.alloc 184), Sr 184 (Tm 7) (Tm 16)]) (.seq (.ord (.op o40_0 (.alt (.lop (Cl 18 78 #[Tm 17] #[184]) (.op o40_1 (.op o40_2 (.lop (Cl 21 79 #[Tm 18, Tm 20] #[189, 193]) (.op o40_3 (.op o40_4 (.op o40_5 .done))))))) (.op o40_1 (.lop (Cl 18 78 #[Tm 17] #[184]) (.op o40_2 (.lop (Cl 21 79 #[Tm 18, Tm 20] #[189, 193]) (.op o40_3 (.op o40_4 (.op o40_5 .done)))))))))) .ret))))⟩
theorem sf40 : sfOf Try.f40 = some s40 := by kernel_rfl
theorem hb40 : hasBody Try.prog 40 = true := by kernel_rfl
def s41 : SF := ⟨114, [.tmp 4, .tmp 5], (.seq (R0 [Oo 2 (.box 31 (Tm 0)), Oo 4 (.assign (.const (.slice none 0 0))), Sk 5 (Kn 0)]) (.seq (.seq (R0 [Ld 13 31 2, Cl 14 47 #[Tm 13] #[31], Sg 6 14]) (.block 0 (.seq (R0 [Mv 16 6, Bo 17 .neq 42 (Tm 16) (Kn 0) 42, Sg 15 17]) (.cond (Tm 15) (.seq (R0 [Mv 18 6, Oo 4 (.assign (.const (.slice none 0 0))), Sg 5 18]) .ret) (.seq (R0 [Mv 20 1, Lq 21 20 130, Bo 22 .gtr 3 (Tm 21) (Kn 12) 3, Sg 19 22]) (.cond (Tm 19) (.seq (R0 [Oo 4 (.assign (.const (.slice none 0 0))), Sk 5 (Kn 8)]) .ret) (.seq (R0 [Mv 24 1, Cl 25 81 #[Tm 24, .func 82] #[130, 196], Sg 23 25]) (.cond (Tm 23) (.seq (R0 [Oo 4 (.assign (.const (.slice none 0 0))), Sk 5 (Kn 3)]) .ret) (.seq (R0 [Mv 27 1, Oo 28 (.makeFunc (.func 84) #[] #[Tm 2]), Cl 29 81 #[Tm 27, Tm 28] #[130, 196], Sg 26 29]) (.cond (Tm 26) (.seq (R0 [Oo 4 (.assign (.const (.slice none 0 0))), Sk 5 (Kn 7)]) .ret) .skip)))))))))) (.seq (R0 [Fa 30 31 2 2, Ld 31 29 30, Lq 32 31 29, Bo 33 .add 3 (Tm 32) (Kn 1) 3, Cl 34 86 #[Tm 33] #[3], Sg 7 34]) (.seq (.seq (R0 [Fa 35 31 2 2, Ld 36 29 35, Lq 37 36 29, Oo 38 (.move (Kn 0))]) (.block 1 (.loop (.seq (R0 [Bo 39 .lss 3 (Tm 38) (Tm 37) 3]) (.seq (.cond (Tm 39) .skip (.exit 1)) (.seq (.block 2 (.seq (R0 [Mv 40 38, Ix 41 29 36 38, Ld 42 35 41, Oo 9 (.alloc 35), Sg 8 40, Sr 35 (Tm 9) (Tm 42)]) (R0 [Mv 43 7, Mv 44 8, Mv 45 8, Bo 46 .add 3 (Tm 45) (Kn 1) 3, Fa 47 35 9 0, Ld 48 3 47, Fa 49 31 2 1, Ld 50 3 49, Bo 51 .sub 3 (Tm 48) (Tm 50) 3, Fa 52 35 9 1, Ld 53 3 52, Fa 54 31 2 1, Ld 55 3 54, Bo 56 .sub 3 (Tm 53) (Tm 55) 3, Oo 57 (.build 35 #[(0, (Tm 51)), (1, (Tm 56))]), Cl 58 87 #[Tm 43, Tm 44, Tm 46, Tm 57] #[197, 3, 3, 35]]))) (R0 [Bo 59 .add 3 (Tm 38) (Kn 1) 3, Mv 38 59]))))))) (.seq (.seq (R0 [Mv 60 1, Lq 61 60 130, Oo 62 (.move (Kn 0))]) (.block 3 (.loop (.seq (R0 [Bo 63 .lss 3 (Tm 62) (Tm 61) 3]) (.seq (.cond (Tm 63) .skip (.exit 3)) (.seq (.block 4 (.seq (R0 [Ix 64 130 60 62, Ld 65 129 64, Oo 11 (.alloc 129), Sr 129 (Tm 11) (Tm 65)]) (.regL [Mv 66 7, Fa 67 129 11 0, Ld 68 3 67, Bo 69 .add 3 (Tm 68) (Kn 1) 3, Ld 70 31 2, Oo 71 (.build 139 #[(0, (Tm 70))]), Fa 72 129 11 1, Ld 73 35 72, Cl 74 88 #[Tm 71, Tm 73] #[139, 35]] (Cl 75 87 #[Tm 66, Kn 0, Tm 69, Tm 74] #[197, 3, 3, 35]) []))) (R0 [Bo 76 .add 3 (Tm 62) (Kn 1) 3, Mv 62 76]))))))) (.seq (.seq (R0 [Mv 77 7, Cl 78 89 #[Tm 77] #[197], Oo 79 (.unOp .not 4 (Tm 78))]) (.cond (Tm 79) (.seq (R0 [Oo 4 (.assign (.const (.slice none 0 0))), Sk 5 (Kn 9)]) .ret) .skip)) (.seq (.seq (R0 [Fa 80 31 2 2, Ld 81 29 80, Lq 82 81 29, Oo 83 (.move (Kn 0))]) (.block 5 (.loop (.seq (R0 [Bo 84 .lss 3 (Tm 83) (Tm 82) 3]) (.seq (.cond (Tm 84) .skip (.exit 5)) (.seq (.block 6 (.seq (R0 [Mv 85 83, Sg 12 85]) (R1 [Mv 86 4, Fa 87 31 2 1, Ld 88 3 87, Mv 89 7, Mv 90 12, Bo 91 .add 3 (Tm 90) (Kn 1) 3, Ix 92 197 89 91, Ld 93 41 92, Mv 94 12, Ix 95 41 93 94, Ld 96 3 95, Bo 97 .sub 3 (Tm 88) (Tm 96) 3, Fa 98 31 2 1, Ld 99 3 98, Mv 100 7, Mv 101 12, Ix 102 197 100 101, Ld 103 41 102, Mv 104 12, Bo 105 .add 3 (Tm 104) (Kn 1) 3, Ix 106 41 103 105, Ld 107 3 106, Bo 108 .add 3 (Tm 99) (Tm 107) 3, Oo 109 (.build 35 #[(0, (Tm 97)), (1, (Tm 108))]), Oo 110 (.buildSlice 29 1 #[(0, (Tm 109))]), Oo 111 (.call { callee := .builtin .append, args := #[Tm 86, Tm 110], argTypes := #[29, 29] }), Sg 4 111]))) (R0 [Bo 112 .add 3 (Tm 83) (Kn 1) 3, Mv 83 112]))))))) (.seq (R0 [Mv 113 4, Sg 4 113, Sk 5 (Kn 0)]) .ret))))))))⟩
theorem sf41 : sfOf Try.f41 = some s41 := by kernel_rfl
theorem hb41 : hasBody Try.prog 41 = true := by kernel_rfl
def s42 : SF := ⟨16, [.tmp 4], (.seq (R0 [Oo 2 (.box 35 (Tm 0)), Sk 4 (Kn 0)]) (.seq (R0 [Fa 5 35 2 0, Ld 6 3 5, Mv 7 1, Fa 8 35 2 1, Ld 9 3 8, Fa 10 35 2 0, Ld 11 3 10, Bo 12 .sub 3 (Tm 9) (Tm 11) 3, Bo 13 .mul 3 (Tm 7) (Tm 12) 3, Bo 14 .quo 3 (Tm 13) (Kn 255) 3, Bo 15 .add 3 (Tm 6) (Tm 14) 3, Sg 4 15]) .ret))⟩
theorem sf42 : sfOf Try.f42 = some s42 := by kernel_rfl
theorem hb42 : hasBody Try.prog 42 = true := by kernel_rfl
def s43 : SF := ⟨16, [.tmp 4], (.seq (R0 [Sk 4 (Kn 0)]) (.seq (.seq (R0 [Mv 5 0, Lq 6 5 26, Bo 7 .eql 3 (Tm 6) (Kn 0) 3]) (.cond (Tm 7) (.seq (R0 [Sk 4 (Kn 0)]) .ret) .skip)) (.seq (R0 [Mv 8 0, Mv 9 1, Mv 10 0, Lq 11 10 26, Bo 12 .rem 3 (Tm 9) (Tm 11) 3, Ix 13 26 8 12, Ld 14 5 13, Oo 15 (.convert 5 3 (Tm 14)), Sg 4 15]) .ret)))⟩
theorem sf43 : sfOf Try.f43 = some s43 := by kernel_rfl
theorem hb43 : hasBody Try.prog 43 = true := by kernel_rfl
def o44_0 : SO := (Ld 47 35 2)
def o44_1 : SO := (Ld 48 35 3)
def o44_2 : SO := (Sr 35 (Tm 2) (Tm 47))
def o44_3 : SO := (Sr 35 (Tm 3) (Tm 48))
def s44 : SF := ⟨49, [.cell 2 35, .cell 3 35], (.seq (R0 [Oo 1 (.box 118 (Tm 0)), Oo 2 (.alloc 35), Oo 3 (.alloc 35)]) (.seq (R0 [Sk 4 (Kn 0)]) (.seq (.seq (R0 [Fa 8 118 1 1, Ld 9 33 8, Lq 10 9 33, Oo 11 (.move (Kn 0))]) (.block 0 (.loop (.seq (R0 [Bo 12 .lss 3 (Tm 11) (Tm 10) 3]) (.seq (.cond (Tm 12) .skip (.exit 0)) (.seq (.block 1 (.seq (R0 [Ix 13 33 9 11, Ld 14 38 13, Oo 6 (.alloc 38), Sr 38 (Tm 6) (Tm 14)]) (.seq (R0 [Mv 15 4, Bo 16 .mul 3 (Kn 2) (Tm 15) 3, Fa 17 38 6 0, Ld 18 3 17, Bo 19 .add 3 (Tm 16) (Tm 18) 3, Sg 7 19]) (.seq (R1 [Ld 20 35 2, Fa 21 38 6 1, Ld 22 35 21, Fa 23 118 1 0, Fa 24 40 23 2, Ld 25 3 24, Bo 26 .mul 3 (Kn 2) (Tm 25) 3, Mv 27 7, Bo 28 .sub 3 (Tm 26) (Tm 27) 3, Cl 29 91 #[Tm 22, Tm 28] #[35, 3], Cl 30 90 #[Tm 20, Tm 29] #[35, 35], Ld 31 35 3, Fa 32 38 6 1, Ld 33 35 32, Mv 34 7, Fa 35 118 1 0, Fa 36 40 35 1, Ld 37 3 36, Bo 38 .mul 3 (Kn 2) (Tm 37) 3, Bo 39 .sub 3 (Tm 34) (Tm 38) 3, Cl 40 91 #[Tm 33, Tm 39] #[35, 3], Cl 41 90 #[Tm 31, Tm 40] #[35, 35], Sr 35 (Tm 2) (Tm 30), Sr 35 (Tm 3) (Tm 41)]) (R0 [Mv 42 4, Fa 43 38 6 0, Ld 44 3 43, Bo 45 .add 3 (Tm 42) (Tm 44) 3, Sg 4 45]))))) (R0 [Bo 46 .add 3 (Tm 11) (Kn 1) 3, Mv 11 46]))))))) (.seq (.ord (.op o44_0 (.alt (.op o44_1 (.op o44_2 (.op o44_3 .done))) (.op o44_2 (.op o44_1 (.op o44_3 .done)))))) .ret))))⟩
theorem sf44 : sfOf Try.f44 = some s44 := by kernel_rfl
theorem hb44 : hasBody Try.prog 44 = true := by kernel_rfl
end Go.Dw.Seat
end
section
namespace Go.Dw.Seat
open Go Go.Dw Go.Proofs
def s45 : SF := ⟨16, [.cell 4 35], (.seq (R0 [Oo 2 (.box 35 (Tm 0)), Oo 3 (.box 3 (Tm 1)), Oo 4 (.alloc 35)]) (.seq (R0 [Oo 6 (.makeFunc (.func 92) #[] #[Tm 3]), Sg 5 6]) (.seq (R1 [Mv 7 5, Fa 8 35 2 0, Ld 9 3 8, Oo 10 (.call { callee := .value (Tm 7), args := #[Tm 9], argTypes := #[3] }), Mv 11 5, Fa 12 35 2 1, Ld 13 3 12, Oo 14 (.call { callee := .value (Tm 11), args := #[Tm 13], argTypes := #[3] }), Oo 15 (.build 35 #[(0, (Tm 10)), (1, (Tm 14))]), Sr 35 (Tm 4) (Tm 15)]) .ret)))⟩
theorem sf45 : sfOf Try.f45 = some s45 := by kernel_rfl
theorem hb45 : hasBody Try.prog 45 = true := by kernel_rfl
def s46 : SF := ⟨11, [.tmp 2], (.seq (R0 [Oo 1 (.box 118 (Tm 0)), Sk 2 (Kn 0)]) (.seq (R0 [Fa 3 118 1 0, Fa 4 40 3 2, Ld 5 3 4, Fa 6 118 1 0, Fa 7 40 6 1, Ld 8 3 7, Bo 9 .sub 3 (Tm 5) (Tm 8) 3, Bo 10 .mul 3 (Kn 2) (Tm 9) 3, Sg 2 10]) .ret))⟩
theorem sf46 : sfOf Try.f46 = some s46 := by kernel_rfl
theorem hb46 : hasBody Try.prog 46 = true := by kernel_rfl
def s47 : SF := ⟨38, [.tmp 2], (.seq (R0 [Oo 1 (.box 31 (Tm 0)), Sk 2 (Kn 0)]) (.seq (.block 0 (.seq (.seq (R0 [Fa 4 31 1 0, Fa 5 28 4 1, Ld 6 3 5, Oo 7 (.buildSlice 41 1 #[(0, (Tm 6))]), Cl 8 85 #[Kn 1, Kn 10000, Tm 7] #[3, 3, 41], Oo 9 (.unOp .not 4 (Tm 8)), Sg 3 9]) (.cond (Tm 3) .skip (.seq (R0 [Fa 10 31 1 0, Fa 11 28 10 1, Ld 12 3 11, Fa 13 31 1 0, Fa 14 28 13 1, Ld 15 3 14, Bo 16 .mul 3 (Kn 2) (Tm 15) 3, Fa 17 31 1 0, Fa 18 28 17 0, Ld 19 3 18, Oo 20 (.buildSlice 41 1 #[(0, (Tm 19))]), Cl 21 85 #[Tm 12, Tm 16, Tm 20] #[3, 3, 41], Oo 22 (.unOp .not 4 (Tm 21)), Sg 3 22]) (.cond (Tm 3) .skip (R0 [Fa 23 31 1 1, Ld 24 3 23, Oo 25 (.buildSlice 41 1 #[(0, (Tm 24))]), Cl 26 85 #[Kn 0, Kn 10000, Tm 25] #[3, 3, 41], Oo 27 (.unOp .not 4 (Tm 26)), Sg 3 27]))))) (.cond (Tm 3) (.seq (R0 [Sk 2 (Kn 2)]) .ret) (.seq (R0 [Fa 29 31 1 2, Ld 30 29 29, Lq 31 30 29, Bo 32 .gtr 3 (Tm 31) (Kn 6) 3, Sg 28 32]) (.cond (Tm 28) (.seq (R0 [Sk 2 (Kn 5)]) .ret) (.seq (R0 [Fa 34 31 1 2, Ld 35 29 34, Oo 36 (.makeFunc (.func 94) #[] #[Tm 1]), Cl 37 93 #[Tm 35, Tm 36] #[29, 203], Sg 33 37]) (.cond (Tm 33) (.seq (R0 [Sk 2 (Kn 4)]) .ret) .skip))))))) (.seq (R0 [Sk 2 (Kn 0)]) .ret)))⟩
theorem sf47 : sfOf Try.f47 = some s47 := by kernel_rfl
theorem hb47 : hasBody Try.prog 47 = true := by kernel_rfl
def s48 : SF := ⟨14, [.cell 4 35], (.seq (R0 [Oo 2 (.box 139 (Tm 0)), Oo 3 (.box 35 (Tm 1)), Oo 4 (.alloc 35)]) (.seq (R1 [Ld 5 139 2, Fa 6 35 3 0, Ld 7 3 6, Cl 8 95 #[Tm 5, Tm 7] #[139, 3], Ld 9 139 2, Fa 10 35 3 1, Ld 11 3 10, Cl 12 95 #[Tm 9, Tm 11] #[139, 3], Oo 13 (.build 35 #[(0, (Tm 8)), (1, (Tm 12))]), Sr 35 (Tm 4) (Tm 13)]) .ret))⟩
theorem sf48 : sfOf Try.f48 = some s48 := by kernel_rfl
theorem hb48 : hasBody Try.prog 48 = true := by kernel_rfl
def s49 : SF := ⟨11, [.cell 2 35], (.seq (R0 [Oo 1 (.box 139 (Tm 0)), Oo 2 (.alloc 35)]) (.seq (.seq (R0 [Ld 5 139 1, Oo 6 (.makeFunc (.func 96) #[Tm 5] #[])]) (.block 0 (.rng (Tm 6) [7, 8] (R0 [Oo 4 (.alloc 35), Sr 35 (Tm 4) (Tm 8)]) (.block 1 (R0 [Ld 9 35 4, Sr 35 (Tm 2) (Tm 9)]))))) (.seq (R0 [Ld 10 35 2, Sr 35 (Tm 2) (Tm 10)]) .ret)))⟩
theorem sf49 : sfOf Try.f49 = some s49 := by kernel_rfl
theorem hb49 : hasBody Try.prog 49 = true := by kernel_rfl
def s71 : SF := ⟨14, [.tmp 2], (.seq (R0 [Oo 1 (.box 38 (Tm 0)), Sk 2 (Kb false)]) (.seq (R0 [Fa 3 38 1 0, Ld 4 3 3, Oo 5 (.buildSlice 41 1 #[(0, (Tm 4))]), Cl 6 72 #[Kn 1, Kn 2000, Tm 5] #[3, 3, 41], Oo 7 (.unOp .not 4 (Tm 6)), Mv 8 7, Gf 9 38 1 1 8 false, Gl 10 35 9 8 false, Gc 11 73 #[Tm 10, Kn 0, Kn 5000000] #[35, 3, 3] 8 false, Og 12 (.unOp .not 4 (Tm 11)) 8 false, Pk 13 8 (Kb true) (Tm 12), Sg 2 13]) .ret))⟩
theorem sf71 : sfOf Try.f71 = some s71 := by kernel_rfl
theorem hb71 : hasBody Try.prog 71 = true := by kernel_rfl
def s72 : SF := ⟨11, [.tmp 6], (.seq (R0 [Oo 3 (.box 3 (Tm 0)), Oo 4 (.box 3 (Tm 1)), Sk 6 (Kb false)]) (.seq (R0 [Mv 7 2, Oo 8 (.makeFunc (.func 117) #[] #[Tm 3, Tm 4]), Cl 9 109 #[Tm 7, Tm 8] #[41, 216], Oo 10 (.unOp .not 4 (Tm 9)), Sg 6 10]) .ret))⟩
theorem sf72 : sfOf Try.f72 = some s72 := by kernel_rfl
theorem hb72 : hasBody Try.prog 72 = true := by kernel_rfl
def s73 : SF := ⟨22, [.tmp 6], (.seq (R0 [Oo 3 (.box 35 (Tm 0)), Sk 6 (Kb false)]) (.seq (R0 [Mv 7 1, Mv 8 2, Fa 9 35 3 0, Ld 10 3 9, Fa 11 35 3 1, Ld 12 3 11, Oo 13 (.buildSlice 41 2 #[(0, (Tm 10)), (1, (Tm 12))]), Cl 14 72 #[Tm 7, Tm 8, Tm 13] #[3, 3, 41], Mv 15 14, Gf 16 35 3 0 15 true, Gl 17 3 16 15 true, Gf 18 35 3 1 15 true, Gl 19 3 18 15 true, Gb 20 .leq 3 (Tm 17) (Tm 19) 3 15 true, Pk 21 15 (Tm 20) (Kb false), Sg 6 21]) .ret))⟩
theorem sf73 : sfOf Try.f73 = some s73 := by kernel_rfl
theorem hb73 : hasBody Try.prog 73 = true := by kernel_rfl
def s74 : SF := ⟨9, [.tmp 4], (.seq (R0 [Sk 4 (Kb false)]) (.seq (R0 [Mv 5 0, Mv 6 1, Cl 7 118 #[Tm 5, Tm 6] #[33, 178], Bo 8 .geq 3 (Tm 7) (Kn 0) 3, Sg 4 8]) .ret))⟩
theorem sf74 : sfOf Try.f74 = some s74 := by kernel_rfl
theorem hb74 : hasBody Try.prog 74 = true := by kernel_rfl
def s75 : SF := ⟨77, [], (.seq (R0 [Oo 9 (.buildSlice 41 0 #[]), Sg 3 9]) (.seq (.seq (R0 [Ld 10 3 1, Oo 11 (.move (Kn 0))]) (.block 0 (.loop (.seq (R0 [Bo 12 .lss 3 (Tm 11) (Tm 10) 3]) (.seq (.cond (Tm 12) .skip (.exit 0)) (.seq (.block 1 (.seq (R0 [Mv 13 11, Sg 4 13]) (R0 [Mv 14 3, Mv 15 4, Oo 16 (.buildSlice 41 1 #[(0, (Tm 15))]), Oo 17 (.call { callee := .builtin .append, args := #[Tm 14, Tm 16], argTypes := #[41, 41] }), Sg 3 17]))) (R0 [Bo 18 .add 3 (Tm 11) (Kn 1) 3, Mv 11 18]))))))) (.block 2 (.loop (.block 3 (.seq (.seq (R0 [Mv 19 0, Mv 20 3, Oo 21 (.call { callee := .value (Tm 19), args := #[Tm 20], argTypes := #[41] }), Oo 22 (.unOp .not 4 (Tm 21))]) (.cond (Tm 22) .ret .skip)) (.seq (R0 [Ld 23 3 1, Bo 24 .sub 3 (Tm 23) (Kn 2) 3, Sg 5 24]) (.seq (.block 4 (.loop (.seq (.seq (R1 [Mv 25 5, Bo 26 .geq 3 (Tm 25) (Kn 0) 3, Mv 27 26, Gm 28 3 27 true, Gm 29 5 27 true, Gx 30 41 28 29 27 true, Gl 31 3 30 27 true, Gm 32 3 27 true, Gm 33 5 27 true, Gb 34 .add 3 (Tm 33) (Kn 1) 3 27 true, Gx 35 41 32 34 27 true, Gl 36 3 35 27 true, Gb 37 .gtr 3 (Tm 31) (Tm 36) 3 27 true, Pk 38 27 (Tm 37) (Kb false)]) (.cond (Tm 38) .skip (.exit 4))) (.block 5 (R0 [Mv 39 5, Bo 40 .sub 3 (Tm 39) (Kn 1) 3, Sg 5 40]))))) (.seq (.seq (R0 [Mv 41 5, Bo 42 .lss 3 (Tm 41) (Kn 0) 3]) (.cond (Tm 42) .ret .skip)) (.seq (R0 [Ld 43 3 1, Bo 44 .sub 3 (Tm 43) (Kn 1) 3, Sg 6 44]) (.seq (.block 6 (.loop (.seq (.seq (R1 [Mv 45 3, Mv 46 6, Ix 47 41 45 46, Ld 48 3 47, Mv 49 3, Mv 50 5, Ix 51 41 49 50, Ld 52 3 51, Bo 53 .lss 3 (Tm 48) (Tm 52) 3]) (.cond (Tm 53) .skip (.exit 6))) (.block 7 (R0 [Mv 54 6, Bo 55 .sub 3 (Tm 54) (Kn 1) 3, Sg 6 55]))))) (.seq (R1 [Mv 56 3, Mv 57 5, Ix 58 41 56 57, Ld 59 3 58, Mv 60 3, Mv 61 6, Ix 62 41 60 61, Ld 63 3 62, Sg 7 59, Sg 8 63]) (.seq (R0 [Mv 64 3, Mv 65 5, Mv 66 8, Ix 67 41 64 65, Sr 3 (Tm 67) (Tm 66)]) (.seq (R0 [Mv 68 3, Mv 69 6, Mv 70 7, Ix 71 41 68 69, Sr 3 (Tm 71) (Tm 70)]) (R0 [Mv 72 3, Mv 73 5, Bo 74 .add 3 (Tm 73) (Kn 1) 3, Oo 75 (.slice 41 (Tm 72) (some (Tm 74)) none none), Cl 76 76 #[Tm 75] #[41]])))))))))))))))⟩
theorem sf75 : sfOf Try.f75 = some s75 := by kernel_rfl
theorem hb75 : hasBody Try.prog 75 = true := by kernel_rfl
def o76_0 : SO := (Mv 14 0)
def o76_1 : SO := (Mv 15 2)
def o76_2 : SO := (Mv 18 0)
def o76_3 : SO := (Mv 19 3)
def o76_4 : SO := (Ix 20 41 18 19)
def o76_5 : SO := (Ld 21 3 20)
def o76_6 : SO := (Mv 22 0)
def o76_7 : SO := (Mv 23 2)
def o76_8 : SO := (Ix 24 41 22 23)
def o76_9 : SO := (Ld 25 3 24)
def o76_10 : SO := (Ix 26 41 14 15)
def o76_11 : SO := (Mv 16 0)
def o76_12 : SO := (Mv 17 3)
def o76_13 : SO := (Sr 3 (Tm 26) (Tm 21))
def o76_14 : SO := (Ix 27 41 16 17)
def o76_15 : SO := (Sr 3 (Tm 27) (Tm 25))
def s76 : SF := ⟨28, [], (.seq (R0 [Mv 4 0, Lq 5 4 41, Bo 6 .sub 3 (Tm 5) (Kn 1) 3, Sk 2 (Kn 0), Sg 3 6]) (.block 0 (.loop (.seq (.seq (R0 [Mv 7 2, Mv 8 3, Bo 9 .lss 3 (Tm 7) (Tm 8) 3]) (.cond (Tm 9) .skip (.exit 0))) (.seq (.block 1 (.ord (.op o76_0 (.op o76_1 (.op o76_2 (.op o76_3 (.op o76_4 (.op o76_5 (.op o76_6 (.op o76_7 (.op o76_8 (.op o76_9 (.op o76_10 (.alt (.op o76_11 (.alt (.op o76_12 (.op o76_13 (.op o76_14 (.op o76_15 .done)))) (.op o76_13 (.op o76_12 (.op o76_14 (.op o76_15 .done)))))) (.alt (.op o76_12 (.alt (.op o76_11 (.op o76_13 (.op o76_14 (.op o76_15 .done)))) (.op o76_13 (.op o76_11 (.op o76_14 (.op o76_15 .done)))))) (.op o76_13 (.op o76_11 (.op o76_12 (.op o76_14 (.op o76_15 .done)))))))))))))))))))) (R0 [Mv 10 2, Bo 11 .add 3 (Tm 10) (Kn 1) 3, Mv 12 3, Bo 13 .sub 3 (Tm 12) (Kn 1) 3, Sg 2 11, Sg 3 13]))))))⟩
theorem sf76 : sfOf Try.f76 = some s76 := by kernel_rfl
theorem hb76 : hasBody Try.prog 76 = true := by kernel_rfl
def s77 : SF := ⟨57, [.tmp 4], (.seq (R0 [Oo 2 (.box 121 (Tm 0)), Oo 3 (.box 123 (Tm 1)), Sk 4 (Kn 0)]) (.seq (R0 [Fa 7 121 2 0, Ld 8 3 7, Fa 9 121 2 1, Ld 10 3 9, Oo 11 (.buildSlice 41 2 #[(0, (Tm 8)), (1, (Tm 10))]), Cl 12 72 #[Kn 1, Kn 120, Tm 11] #[3, 3, 41], Mv 13 12, Gf 14 121 2 2 13 true, Gl 15 3 14 13 true, Gf 16 121 2 4 13 true, Gl 17 3 16 13 true, Og 18 (.buildSlice 41 2 #[(0, (Tm 15)), (1, (Tm 17))]) 13 true, Gc 19 72 #[Kn 0, Kn 400, Tm 18] #[3, 3, 41] 13 true, Pk 20 13 (Tm 19) (Kb false), Mv 21 20, Gf 22 121 2 3 21 true, Gl 23 3 22 21 true, Og 24 (.buildSlice 41 1 #[(0, (Tm 23))]) 21 true, Gc 25 72 #[Kn 0, Kn 10, Tm 24] #[3, 3, 41] 21 true, Pk 26 21 (Tm 25) (Kb false), Mv 27 26, Gf 28 121 2 5 27 true, Gl 29 3 28 27 true, Og 30 (.buildSlice 41 1 #[(0, (Tm 29))]) 27 true, Gc 31 72 #[Kn 0, Kn 5000000, Tm 30] #[3, 3, 41] 27 true, Pk 32 27 (Tm 31) (Kb false), Sg 5 32]) (.seq (R0 [Fa 33 123 3 0, Ld 34 3 33, Fa 35 123 3 1, Ld 36 3 35, Fa 37 123 3 2, Ld 38 3 37, Oo 39 (.buildSlice 41 3 #[(0, (Tm 34)), (1, (Tm 36)), (2, (Tm 38))]), Cl 40 72 #[Kn 10, Kn 100, Tm 39] #[3, 3, 41], Mv 41 40, Gf 42 123 3 3 41 true, Gl 43 35 42 41 true, Gc 44 73 #[Tm 43, Kn 0, Kn 5000000] #[35, 3, 3] 41 true, Pk 45 41 (Tm 44) (Kb false), Mv 46 45, Gf 47 123 3 4 46 true, Gl 48 35 47 46 true, Gc 49 73 #[Tm 48, Kn 0, Kn 20000000] #[35, 3, 3] 46 true, Pk 50 46 (Tm 49) (Kb false), Sg 6 50]) (.seq (.seq (R0 [Mv 51 5, Oo 52 (.unOp .not 4 (Tm 51)), Mv 53 52, Gm 54 6 53 false, Og 55 (.unOp .not 4 (Tm 54)) 53 false, Pk 56 53 (Kb true) (Tm 55)]) (.cond (Tm 56) (.seq (R0 [Sk 4 (Kn 2)]) .ret) .skip)) (.seq (R0 [Sk 4 (Kn 0)]) .ret)))))⟩
theorem sf77 : sfOf Try.f77 = some s77 := by kernel_rfl
theorem hb77 : hasBody Try.prog 77 = true := by kernel_rfl
def s78 : SF := ⟨27, [.tmp 2], (.seq (R0 [Oo 1 (.box 184 (Tm 0)), Oo 2 (.assign (.const (.pointer none)))]) (.seq (R0 [Ld 6 184 1, Oo 7 (.makeMap 223 none), Oo 8 (.build 225 #[(0, (Tm 6)), (2, (Tm 7))]), Oo 9 (.box 225 (Tm 8)), Sg 3 9]) (.seq (.seq (R0 [Ld 10 184 1, Cl 11 80 #[Tm 10] #[184], Oo 12 (.move (Kn 0))]) (.block 0 (.loop (.seq (R0 [Bo 13 .lss 3 (Tm 12) (Kn 2) 3]) (.seq (.cond (Tm 13) .skip (.exit 0)) (.seq (.block 1 (.seq (R0 [Mv 14 12, Oo 15 (.index 193 (Tm 11) (Tm 12)), Sg 4 14, Sg 5 15]) (R1 [Mv 16 3, Mv 17 4, Fa 18 184 1 1, Ld 19 123 18, Mv 20 5, Cl 21 119 #[Tm 19, Tm 20] #[123, 3], Nk 22 16, Fa 23 225 22 1, Ix 24 146 23 17, Sr 41 (Tm 24) (Tm 21)]))) (R0 [Bo 25 .add 3 (Tm 12) (Kn 1) 3, Mv 12 25]))))))) (.seq (R0 [Mv 26 3, Sg 2 26]) .ret))))⟩
theorem sf78 : sfOf Try.f78 = some s78 := by kernel_rfl
theorem hb78 : hasBody Try.prog 78 = true := by kernel_rfl
def o79_0 : SO := (Ld 33 189 2)
def o79_1 : SO := (Nk 34 33)
def o79_2 : SO := (Fa 35 225 34 2)
def o79_3 : SO := (Ld 36 223 35)
def o79_4 : SO := (Ld 37 193 3)
def o79_5 : SO := (Oo 38 (.lookup 223 (Tm 36) (Tm 37) true))
def o79_6 : SO := (Mv 32 38)
def o79_7 : SO := (Xt 39 32 0)
def o79_8 : SO := (Oo 6 (.alloc 188))
def o79_9 : SO := (Xt 40 32 1)
def o79_10 : SO := (Sr 188 (Tm 6) (Tm 39))
def o79_11 : SO := (Sg 7 40)
def o79_12 : SO := (Ld 63 189 2)
def o79_13 : SO := (Ld 64 193 12)
def o79_14 : SO := (Ld 67 189 2)
def o79_15 : SO := (Ld 68 193 13)
def o79_16 : SO := (Oo 66 (.field 188 (Tm 65) 0))
def o79_17 : SO := (Oo 70 (.field 188 (Tm 69) 0))
def o79_18 : SO := (Bo 71 .add 3 (Tm 66) (Tm 70) 3)
def o79_19 : SO := (Sg 14 71)
def s79 : SF := ⟨86, [.cell 4 188], (.seq (R0 [Oo 2 (.box 189 (Tm 0)), Oo 3 (.box 193 (Tm 1)), Oo 4 (.alloc 188)]) (.seq (.seq (R0 [Oo 15 (.move (Kn 0))]) (.block 0 (.loop (.seq (R0 [Bo 16 .lss 3 (Tm 15) (Kn 2) 3]) (.seq (.cond (Tm 16) .skip (.exit 0)) (.seq (.block 1 (.seq (R0 [Mv 17 15, Sg 5 17]) (R1 [Mv 18 5, Ld 19 189 2, Mv 20 5, Nk 21 19, Fa 22 225 21 1, Ix 23 146 22 20, Ld 24 41 23, Mv 25 5, Ix 26 193 3 25, Ld 27 3 26, Ix 28 41 24 27, Ld 29 3 28, Ix 30 193 3 18, Sr 3 (Tm 30) (Tm 29)]))) (R0 [Bo 31 .add 3 (Tm 15) (Kn 1) 3, Mv 15 31]))))))) (.seq (.seq (.ord (.op o79_0 (.op o79_1 (.op o79_2 (.op o79_3 (.op o79_4 (.op o79_5 (.op o79_6 (.op o79_7 (.op o79_8 (.alt (.op o79_9 (.op o79_10 (.op o79_11 .done))) (.op o79_10 (.op o79_9 (.op o79_11 .done)))))))))))))) (.seq (R0 [Mv 41 7]) (.cond (Tm 41) (.seq (R0 [Ld 42 188 6, Sr 188 (Tm 4) (Tm 42)]) .ret) .skip))) (.seq (R0 [Oo 43 (.build 186 #[(0, (Kn (-1))), (1, (Kn 0))]), Oo 44 (.build 188 #[(0, (Kn 0)), (1, (Tm 43))]), Oo 8 (.alloc 188), Sr 188 (Tm 8) (Tm 44)]) (.seq (.seq (R0 [Ld 46 189 2, Ld 47 193 3, Cl 48 120 #[Tm 46, Tm 47] #[189, 193], Mv 45 48, Xt 49 45 0, Xt 50 45 1, Sg 9 49, Sg 10 50]) (.seq (R0 [Mv 51 10]) (.cond (Tm 51) (.seq (R0 [Fa 52 188 8 0, Sr 3 (Tm 52) (Kn 1)]) (.seq (R0 [Ld 53 189 2, Ld 54 193 3, Cl 55 121 #[Tm 53, Tm 54] #[189, 193]]) (.block 2 (.rng (Tm 55) [56] (R0 [Oo 11 (.alloc 186), Sr 186 (Tm 11) (Tm 56)]) (.block 3 (.seq (R0 [Ld 58 186 11, Ld 59 193 3, Cl 60 122 #[Tm 58, Tm 59] #[186, 193], Mv 57 60, Xt 61 57 0, Xt 62 57 1, Oo 12 (.alloc 193), Oo 13 (.alloc 193), Sr 193 (Tm 12) (Tm 61), Sr 193 (Tm 13) (Tm 62)]) (.seq (.ord (.op o79_12 (.op o79_13 (.alt (.lop (Cl 65 79 #[Tm 63, Tm 64] #[189, 193]) (.op o79_14 (.op o79_15 (.alt (.op o79_16 (.lop (Cl 69 79 #[Tm 67, Tm 68] #[189, 193]) (.op o79_17 (.op o79_18 (.op o79_19 .done))))) (.lop (Cl 69 79 #[Tm 67, Tm 68] #[189, 193]) (.op o79_16 (.op o79_17 (.op o79_18 (.op o79_19 .done))))))))) (.alt (.op o79_14 (.alt (.lop (Cl 65 79 #[Tm 63, Tm 64] #[189, 193]) (.op o79_15 (.alt (.op o79_16 (.lop (Cl 69 79 #[Tm 67, Tm 68] #[189, 193]) (.op o79_17 (.op o79_18 (.op o79_19 .done))))) (.lop (Cl 69 79 #[Tm 67, Tm 68] #[189, 193]) (.op o79_16 (.op o79_17 (.op o79_18 (.op o79_19 .done)))))))) (.op o79_15 (.lop (Cl 65 79 #[Tm 63, Tm 64] #[189, 193]) (.alt (.op o79_16 (.lop (Cl 69 79 #[Tm 67, Tm 68] #[189, 193]) (.op o79_17 (.op o79_18 (.op o79_19 .done))))) (.lop (Cl 69 79 #[Tm 67, Tm 68] #[189, 193]) (.op o79_16 (.op o79_17 (.op o79_18 (.op o79_19 .done)))))))))) (.op o79_15 (.alt (.lop (Cl 65 79 #[Tm 63, Tm 64] #[189, 193]) (.op o79_14 (.alt (.op o79_16 (.lop (Cl 69 79 #[Tm 67, Tm 68] #[189, 193]) (.op o79_17 (.op o79_18 (.op o79_19 .done))))) (.lop (Cl 69 79 #[Tm 67, Tm 68] #[189, 193]) (.op o79_16 (.op o79_17 (.op o79_18 (.op o79_19 .done)))))))) (.op o79_14 (.lop (Cl 65 79 #[Tm 63, Tm 64] #[189, 193]) (.alt (.op o79_16 (.lop (Cl 69 79 #[Tm 67, Tm 68] #[189, 193]) (.op o79_17 (.op o79_18 (.op o79_19 .done))))) (.lop (Cl 69 79 #[Tm 67, Tm 68] #[189, 193]) (.op o79_16 (.op o79_17 (.op o79_18 (.op o79_19 .done))))))))))))))) (.seq (R0 [Mv 72 14, Fa 73 188 8 0, Ld 74 3 73, Bo 75 .gtr 3 (Tm 72) (Tm 74) 3]) (.cond (Tm 75) (R0 [Mv 76 14, Ld 77 186 11, Oo 78 (.build 188 #[(0, (Tm 76)), (1, (Tm 77))]), Sr 188 (Tm 8) (Tm 78)]) .skip))))))))) .skip))) (.seq (R1 [Ld 79 189 2, Nk 80 79, Fa 81 225 80 2, Ld 82 223 81, Ld 83 193 3, Ld 84 188 8, ⟨none, .mapUpdate 223 (Tm 82) (Tm 83) (Tm 84), none⟩]) (.seq (R0 [Ld 85 188 8, Sr 188 (Tm 4) (Tm 85)]) .ret)))))))⟩
theorem sf79 : sfOf Try.f79 = some s79 := by kernel_rfl
theorem hb79 : hasBody Try.prog 79 = true := by kernel_rfl
def s80 : SF := ⟨20, [.cell 2 193], (.seq (R0 [Oo 1 (.box 184 (Tm 0)), Oo 2 (.alloc 193)]) (.seq (R0 [Fa 3 184 1 0, Fa 4 121 3 0, Ld 5 3 4, Fa 6 184 1 0, Fa 7 121 6 3, Ld 8 3 7, Bo 9 .mul 3 (Kn 2) (Tm 8) 3, Bo 10 .add 3 (Tm 5) (Tm 9) 3, Fa 11 184 1 0, Fa 12 121 11 1, Ld 13 3 12, Fa 14 184 1 0, Fa 15 121 14 3, Ld 16 3 15, Bo 17 .mul 3 (Kn 2) (Tm 16) 3, Bo 18 .add 3 (Tm 13) (Tm 17) 3, Oo 19 (.build 193 #[(0, (Tm 10)), (1, (Tm 18))]), Sr 193 (Tm 2) (Tm 19)]) .ret))⟩
theorem sf80 : sfOf Try.f80 = some s80 := by kernel_rfl
theorem hb80 : hasBody Try.prog 80 = true := by kernel_rfl
def s81 : SF := ⟨9, [.tmp 4], (.seq (R0 [Sk 4 (Kb false)]) (.seq (R0 [Mv 5 0, Mv 6 1, Cl 7 123 #[Tm 5, Tm 6] #[130, 196], Bo 8 .geq 3 (Tm 7) (Kn 0) 3, Sg 4 8]) .ret))⟩
theorem sf81 : sfOf Try.f81 = some s81 := by kernel_rfl
theorem hb81 : hasBody Try.prog 81 = true := by kernel_rfl
def s82 : SF := ⟨7, [.tmp 2], (.seq (R0 [Oo 1 (.box 129 (Tm 0)), Sk 2 (Kb false)]) (.seq (R0 [Fa 3 129 1 1, Ld 4 35 3, Cl 5 83 #[Tm 4, Kn 0, Kn 70000000] #[35, 3, 3], Oo 6 (.unOp .not 4 (Tm 5)), Sg 2 6]) .ret))⟩
theorem sf82 : sfOf Try.f82 = some s82 := by kernel_rfl
theorem hb82 : hasBody Try.prog 82 = true := by kernel_rfl
def s83 : SF := ⟨22, [.tmp 6], (.seq (R0 [Oo 3 (.box 35 (Tm 0)), Sk 6 (Kb false)]) (.seq (R0 [Mv 7 1, Mv 8 2, Fa 9 35 3 0, Ld 10 3 9, Fa 11 35 3 1, Ld 12 3 11, Oo 13 (.buildSlice 41 2 #[(0, (Tm 10)), (1, (Tm 12))]), Cl 14 85 #[Tm 7, Tm 8, Tm 13] #[3, 3, 41], Mv 15 14, Gf 16 35 3 0 15 true, Gl 17 3 16 15 true, Gf 18 35 3 1 15 true, Gl 19 3 18 15 true, Gb 20 .leq 3 (Tm 17) (Tm 19) 3 15 true, Pk 21 15 (Tm 20) (Kb false), Sg 6 21]) .ret))⟩
theorem sf83 : sfOf Try.f83 = some s83 := by kernel_rfl
theorem hb83 : hasBody Try.prog 83 = true := by kernel_rfl
def s84 : SF := ⟨13, [.tmp 3], (.seq (R0 [Oo 2 (.box 129 (Tm 0)), Sk 3 (Kb false)]) (.seq (R0 [Fa 4 31 1 2, Ld 5 29 4, Lq 6 5 29, Bo 7 .sub 3 (Tm 6) (Kn 1) 3, Fa 8 129 2 0, Ld 9 3 8, Oo 10 (.buildSlice 41 1 #[(0, (Tm 9))]), Cl 11 85 #[Kn 0, Tm 7, Tm 10] #[3, 3, 41], Oo 12 (.unOp .not 4 (Tm 11)), Sg 3 12]) .ret))⟩
theorem sf84 : sfOf Try.f84 = some s84 := by kernel_rfl
theorem hb84 : hasBody Try.prog 84 = true := by kernel_rfl
def s85 : SF := ⟨11, [.tmp 6], (.seq (R0 [Oo 3 (.box 3 (Tm 0)), Oo 4 (.box 3 (Tm 1)), Sk 6 (Kb false)]) (.seq (R0 [Mv 7 2, Oo 8 (.makeFunc (.func 124) #[] #[Tm 3, Tm 4]), Cl 9 109 #[Tm 7, Tm 8] #[41, 216], Oo 10 (.unOp .not 4 (Tm 9)), Sg 6 10]) .ret))⟩
theorem sf85 : sfOf Try.f85 = some s85 := by kernel_rfl
theorem hb85 : hasBody Try.prog 85 = true := by kernel_rfl
def s86 : SF := ⟨26, [.tmp 2], (.seq (R0 [Oo 2 (.assign (.const (.slice none 0 0)))]) (.seq (R0 [Mv 5 0, Oo 6 (.makeSlice 197 (Tm 5) (Tm 5)), Sg 3 6]) (.seq (.seq (R0 [Mv 7 3, Lq 8 7 197, Oo 9 (.move (Kn 0))]) (.block 0 (.loop (.seq (R0 [Bo 10 .lss 3 (Tm 9) (Tm 8) 3]) (.seq (.cond (Tm 10) .skip (.exit 0)) (.seq (.block 1 (.seq (R0 [Mv 11 9, Sg 4 11]) (.seq (R0 [Mv 12 3, Mv 13 4, Oo 14 (.buildSlice 41 1 #[(0, (Kn 1099511627776))]), Mv 15 0, Cl 16 125 #[Tm 14, Tm 15] #[41, 3], Ix 17 197 12 13, Sr 41 (Tm 17) (Tm 16)]) (R0 [Mv 18 3, Mv 19 4, Ix 20 197 18 19, Ld 21 41 20, Mv 22 4, Ix 23 41 21 22, Sr 3 (Tm 23) (Kn 0)])))) (R0 [Bo 24 .add 3 (Tm 9) (Kn 1) 3, Mv 9 24]))))))) (.seq (R0 [Mv 25 3, Sg 2 25]) .ret))))⟩
theorem sf86 : sfOf Try.f86 = some s86 := by kernel_rfl
theorem hb86 : hasBody Try.prog 86 = true := by kernel_rfl
def s87 : SF := ⟨41, [], (.seq (R0 [Oo 7 (.box 35 (Tm 3))]) (.seq (R1 [Mv 8 0, Mv 9 1, Ix 10 197 8 9, Ld 11 41 10, Mv 12 2, Mv 13 0, Mv 14 1, Ix 15 197 13 14, Ld 16 41 15, Mv 17 2, Ix 18 41 16 17, Ld 19 3 18, Fa 20 35 7 1, Ld 21 3 20, Oo 22 (.call { callee := .builtin .min, args := #[Tm 19, Tm 21], argTypes := #[3, 3] }), Ix 23 41 11 12, Sr 3 (Tm 23) (Tm 22)]) (R1 [Mv 24 0, Mv 25 2, Ix 26 197 24 25, Ld 27 41 26, Mv 28 1, Mv 29 0, Mv 30 2, Ix 31 197 29 30, Ld 32 41 31, Mv 33 1, Ix 34 41 32 33, Ld 35 3 34, Fa 36 35 7 0, Ld 37 3 36, Oo 38 (.unOp .neg 3 (Tm 37)), Oo 39 (.call { callee := .builtin .min, args := #[Tm 35, Tm 38], argTypes := #[3, 3] }), Ix 40 41 27 28, Sr 3 (Tm 40) (Tm 39)])))⟩
theorem sf87 : sfOf Try.f87 = some s87 := by kernel_rfl
theorem hb87 : hasBody Try.prog 87 = true := by kernel_rfl
def s88 : SF := ⟨32, [.cell 4 35], (.seq (R0 [Oo 2 (.box 139 (Tm 0)), Oo 3 (.box 35 (Tm 1)), Oo 4 (.alloc 35)]) (.seq (R1 [Fa 5 35 3 0, Ld 6 3 5, Fa 7 139 2 0, Fa 8 31 7 0, Fa 9 28 8 0, Ld 10 3 9, Bo 11 .mul 3 (Tm 6) (Tm 10) 3, Fa 12 139 2 0, Fa 13 31 12 0, Fa 14 28 13 1, Ld 15 3 14, Cl 16 126 #[Tm 11, Tm 15] #[3, 3], Fa 17 35 3 1, Ld 18 3 17, Bo 19 .add 3 (Tm 18) (Kn 1) 3, Fa 20 139 2 0, Fa 21 31 20 0, Fa 22 28 21 0, Ld 23 3 22, Bo 24 .mul 3 (Tm 19) (Tm 23) 3, Fa 25 139 2 0, Fa 26 31 25 0, Fa 27 28 26 1, Ld 28 3 27, Cl 29 126 #[Tm 24, Tm 28] #[3, 3], Bo 30 .sub 3 (Tm 29) (Kn 1) 3, Oo 31 (.build 35 #[(0, (Tm 16)), (1, (Tm 30))]), Sr 35 (Tm 4) (Tm 31)]) .ret))⟩
theorem sf88 : sfOf Try.f88 = some s88 := by kernel_rfl
theorem hb88 : hasBody Try.prog 88 = true := by kernel_rfl
def s89 : SF := ⟨68, [.tmp 2], (.seq (R0 [Sk 2 (Kb false)]) (.seq (.seq (R0 [Mv 7 0, Lq 8 7 197, Oo 9 (.move (Kn 0))]) (.block 0 (.loop (.seq (R0 [Bo 10 .lss 3 (Tm 9) (Tm 8) 3]) (.seq (.cond (Tm 10) .skip (.exit 0)) (.seq (.block 1 (.seq (R0 [Mv 11 9, Sg 3 11]) (.seq (R0 [Mv 12 0, Lq 13 12 197, Oo 14 (.move (Kn 0))]) (.block 2 (.loop (.seq (R0 [Bo 15 .lss 3 (Tm 14) (Tm 13) 3]) (.seq (.cond (Tm 15) .skip (.exit 2)) (.seq (.block 3 (.seq (R0 [Mv 16 14, Sg 4 16]) (.seq (R0 [Mv 17 0, Lq 18 17 197, Oo 19 (.move (Kn 0))]) (.block 4 (.loop (.seq (R0 [Bo 20 .lss 3 (Tm 19) (Tm 18) 3]) (.seq (.cond (Tm 20) .skip (.exit 4)) (.seq (.block 5 (.seq (R0 [Mv 21 19, Sg 5 21]) (R1 [Mv 22 0, Mv 23 4, Ix 24 197 22 23, Ld 25 41 24, Mv 26 5, Mv 27 0, Mv 28 4, Ix 29 197 27 28, Ld 30 41 29, Mv 31 5, Ix 32 41 30 31, Ld 33 3 32, Mv 34 0, Mv 35 4, Ix 36 197 34 35, Ld 37 41 36, Mv 38 3, Ix 39 41 37 38, Ld 40 3 39, Mv 41 0, Mv 42 3, Ix 43 197 41 42, Ld 44 41 43, Mv 45 5, Ix 46 41 44 45, Ld 47 3 46, Bo 48 .add 3 (Tm 40) (Tm 47) 3, Oo 49 (.call { callee := .builtin .min, args := #[Tm 33, Tm 48], argTypes := #[3, 3] }), Ix 50 41 25 26, Sr 3 (Tm 50) (Tm 49)]))) (R0 [Bo 51 .add 3 (Tm 19) (Kn 1) 3, Mv 19 51]))))))))) (R0 [Bo 52 .add 3 (Tm 14) (Kn 1) 3, Mv 14 52]))))))))) (R0 [Bo 53 .add 3 (Tm 9) (Kn 1) 3, Mv 9 53]))))))) (.seq (.seq (R0 [Mv 54 0, Lq 55 54 197, Oo 56 (.move (Kn 0))]) (.block 6 (.loop (.seq (R0 [Bo 57 .lss 3 (Tm 56) (Tm 55) 3]) (.seq (.cond (Tm 57) .skip (.exit 6)) (.seq (.block 7 (.seq (R0 [Mv 58 56, Sg 6 58]) (.seq (R0 [Mv 59 0, Mv 60 6, Ix 61 197 59 60, Ld 62 41 61, Mv 63 6, Ix 64 41 62 63, Ld 65 3 64, Bo 66 .lss 3 (Tm 65) (Kn 0) 3]) (.cond (Tm 66) (.seq (R0 [Sk 2 (Kb false)]) .ret) .skip)))) (R0 [Bo 67 .add 3 (Tm 56) (Kn 1) 3, Mv 56 67]))))))) (.seq (R0 [Sk 2 (Kb true)]) .ret))))⟩
theorem sf89 : sfOf Try.f89 = some s89 := by kernel_rfl
theorem hb89 : hasBody Try.prog 89 = true := by kernel_rfl
def s90 : SF := ⟨16, [.cell 4 35], (.seq (R0 [Oo 2 (.box 35 (Tm 0)), Oo 3 (.box 35 (Tm 1)), Oo 4 (.alloc 35)]) (.seq (R0 [Fa 5 35 2 0, Ld 6 3 5, Fa 7 35 3 0, Ld 8 3 7, Bo 9 .add 3 (Tm 6) (Tm 8) 3, Fa 10 35 2 1, Ld 11 3 10, Fa 12 35 3 1, Ld 13 3 12, Bo 14 .add 3 (Tm 11) (Tm 13) 3, Oo 15 (.build 35 #[(0, (Tm 9)), (1, (Tm 14))]), Sr 35 (Tm 4) (Tm 15)]) .ret))⟩
theorem sf90 : sfOf Try.f90 = some s90 := by kernel_rfl
theorem hb90 : hasBody Try.prog 90 = true := by kernel_rfl
def s91 : SF := ⟨24, [.cell 4 35], (.seq (R0 [Oo 2 (.box 35 (Tm 0)), Oo 4 (.alloc 35)]) (.seq (R0 [Fa 5 35 2 0, Ld 6 3 5, Mv 7 1, Bo 8 .mul 3 (Tm 6) (Tm 7) 3, Fa 9 35 2 1, Ld 10 3 9, Mv 11 1, Bo 12 .mul 3 (Tm 10) (Tm 11) 3, Oo 13 (.call { callee := .builtin .min, args := #[Tm 8, Tm 12], argTypes := #[3, 3] }), Fa 14 35 2 0, Ld 15 3 14, Mv 16 1, Bo 17 .mul 3 (Tm 15) (Tm 16) 3, Fa 18 35 2 1, Ld 19 3 18, Mv 20 1, Bo 21 .mul 3 (Tm 19) (Tm 20) 3, Oo 22 (.call { callee := .builtin .max, args := #[Tm 17, Tm 21], argTypes := #[3, 3] }), Oo 23 (.build 35 #[(0, (Tm 13)), (1, (Tm 22))]), Sr 35 (Tm 4) (Tm 23)]) .ret))⟩
theorem sf91 : sfOf Try.f91 = some s91 := by kernel_rfl
theorem hb91 : hasBody Try.prog 91 = true := by kernel_rfl
def s92 : SF := ⟨15, [.tmp 3], (.seq (R0 [Sk 3 (Kn 0)]) (.seq (R1 [Mv 4 0, Mv 5 0, Ld 6 3 1, Bo 7 .rem 3 (Tm 5) (Tm 6) 3, Ld 8 3 1, Bo 9 .add 3 (Tm 7) (Tm 8) 3, Ld 10 3 1, Bo 11 .rem 3 (Tm 9) (Tm 10) 3, Bo 12 .sub 3 (Tm 4) (Tm 11) 3, Ld 13 3 1, Bo 14 .quo 3 (Tm 12) (Tm 13) 3, Sg 3 14]) .ret))⟩
theorem sf92 : sfOf Try.f92 = some s92 := by kernel_rfl
theorem hb92 : hasBody Try.prog 92 = true := by kernel_rfl
def s93 : SF := ⟨9, [.tmp 4], (.seq (R0 [Sk 4 (Kb false)]) (.seq (R0 [Mv 5 0, Mv 6 1, Cl 7 127 #[Tm 5, Tm 6] #[29, 203], Bo 8 .geq 3 (Tm 7) (Kn 0) 3, Sg 4 8]) .ret))⟩
theorem sf93 : sfOf Try.f93 = some s93 := by kernel_rfl
theorem hb93 : hasBody Try.prog 93 = true := by kernel_rfl
def s94 : SF := ⟨10, [.tmp 3], (.seq (R0 [Oo 2 (.box 35 (Tm 0)), Sk 3 (Kb false)]) (.seq (R0 [Ld 4 35 2, Fa 5 31 1 1, Ld 6 3 5, Bo 7 .add 3 (Tm 6) (Kn 1) 3, Cl 8 83 #[Tm 4, Tm 7, Kn 10000000] #[35, 3, 3], Oo 9 (.unOp .not 4 (Tm 8)), Sg 3 9]) .ret))⟩
theorem sf94 : sfOf Try.f94 = some s94 := by kernel_rfl
theorem hb94 : hasBody Try.prog 94 = true := by kernel_rfl
def s95 : SF := ⟨16, [.tmp 4], (.seq (R0 [Oo 2 (.box 139 (Tm 0)), Sk 4 (Kn 0)]) (.seq (R0 [Mv 5 1, Fa 6 139 2 0, Fa 7 31 6 0, Fa 8 28 7 1, Ld 9 3 8, Bo 10 .mul 3 (Tm 5) (Tm 9) 3, Fa 11 139 2 0, Fa 12 31 11 0, Fa 13 28 12 0, Ld 14 3 13, Bo 15 .quo 3 (Tm 10) (Tm 14) 3, Sg 4 15]) .ret))⟩
theorem sf95 : sfOf Try.f95 = some s95 := by kernel_rfl
theorem hb95 : hasBody Try.prog 95 = true := by kernel_rfl
def s96 : SF := ⟨41, [], (.seq (R0 [Oo 2 (.box 139 (Tm 0))]) (.seq (R0 [Oo 4 (.alloc 35)]) (.seq (R0 [Fa 7 139 2 0, Fa 8 31 7 2, Ld 9 29 8, Lq 10 9 29, Oo 11 (.move (Kn 0))]) (.block 0 (.loop (.seq (R0 [Bo 12 .lss 3 (Tm 11) (Tm 10) 3]) (.seq (.cond (Tm 12) .skip (.exit 0)) (.seq (.block 1 (.seq (R0 [Mv 13 11, Ix 14 29 9 11, Ld 15 35 14, Oo 6 (.alloc 35), Sg 5 13, Sr 35 (Tm 6) (Tm 15)]) (.seq (R0 [Fa 16 35 4 0, Ld 17 3 16, Fa 18 35 6 0, Ld 19 3 18, Bo 20 .add 3 (Tm 17) (Tm 19) 3, Fa 21 139 2 0, Fa 22 31 21 1, Ld 23 3 22, Bo 24 .sub 3 (Tm 20) (Tm 23) 3, Fa 25 35 4 1, Ld 26 3 25, Fa 27 35 6 1, Ld 28 3 27, Bo 29 .add 3 (Tm 26) (Tm 28) 3, Fa 30 139 2 0, Fa 31 31 30 1, Ld 32 3 31, Bo 33 .sub 3 (Tm 29) (Tm 32) 3, Oo 34 (.build 35 #[(0, (Tm 24)), (1, (Tm 33))]), Sr 35 (Tm 4) (Tm 34)]) (.seq (R0 [Mv 35 1, Mv 36 5, Ld 37 35 4, Oo 38 (.call { callee := .value (Tm 35), args := #[Tm 36, Tm 37], argTypes := #[3, 35] }), Oo 39 (.unOp .not 4 (Tm 38))]) (.cond (Tm 39) .ret .skip))))) (R0 [Bo 40 .add 3 (Tm 11) (Kn 1) 3, Mv 11 40])))))))))⟩
theorem sf96 : sfOf Try.f96 = some s96 := by kernel_rfl
theorem hb96 : hasBody Try.prog 96 = true := by kernel_rfl
end Go.Dw.Seat
end
section
namespace Go.Dw.Seat
open Go Go.Dw Go.Proofs
def s109 : SF := ⟨9, [.tmp 4], (.seq (R0 [Sk 4 (Kb false)]) (.seq (R0 [Mv 5 0, Mv 6 1, Cl 7 146 #[Tm 5, Tm 6] #[41, 216], Bo 8 .geq 3 (Tm 7) (Kn 0) 3, Sg 4 8]) .ret))⟩
theorem sf109 : sfOf Try.f109 = some s109 := by kernel_rfl
theorem hb109 : hasBody Try.prog 109 = true := by kernel_rfl
def s117 : SF := ⟨13, [.tmp 4], (.seq (R0 [Sk 4 (Kb false)]) (.seq (R0 [Mv 5 0, Ld 6 3 1, Bo 7 .lss 3 (Tm 5) (Tm 6) 3, Mv 8 7, Gm 9 0 8 false, Gl 10 3 2 8 false, Gb 11 .gtr 3 (Tm 9) (Tm 10) 3 8 false, Pk 12 8 (Kb true) (Tm 11), Sg 4 12]) .ret))⟩
theorem sf117 : sfOf Try.f117 = some s117 := by kernel_rfl
theorem hb117 : hasBody Try.prog 117 = true := by kernel_rfl
def s118 : SF := ⟨19, [.tmp 4], (.seq (R0 [Sk 4 (Kn 0)]) (.seq (.seq (R0 [Mv 6 0, Lq 7 6 33, Oo 8 (.move (Kn 0))]) (.block 0 (.loop (.seq (R0 [Bo 9 .lss 3 (Tm 8) (Tm 7) 3]) (.seq (.cond (Tm 9) .skip (.exit 0)) (.seq (.block 1 (.seq (R0 [Mv 10 8, Sg 5 10]) (.seq (R0 [Mv 11 1, Mv 12 0, Mv 13 5, Ix 14 33 12 13, Ld 15 38 14, Oo 16 (.call { callee := .value (Tm 11), args := #[Tm 15], argTypes := #[38] })]) (.cond (Tm 16) (.seq (R0 [Mv 17 5, Sg 4 17]) .ret) .skip)))) (R0 [Bo 18 .add 3 (Tm 8) (Kn 1) 3, Mv 8 18]))))))) (.seq (R0 [Sk 4 (Kn (-1))]) .ret)))⟩
theorem sf118 : sfOf Try.f118 = some s118 := by kernel_rfl
theorem hb118 : hasBody Try.prog 118 = true := by kernel_rfl
def s119 : SF := ⟨29, [.tmp 4], (.seq (R0 [Oo 2 (.box 123 (Tm 0)), Oo 4 (.assign (.const (.slice none 0 0)))]) (.seq (R0 [Mv 9 1, Bo 10 .add 3 (Tm 9) (Kn 1) 3, Oo 11 (.makeSlice 41 (Tm 10) (Tm 10)), Sg 5 11, Sk 6 (Kn 0)]) (.seq (.seq (R0 [Ld 12 123 2, Mv 13 1, Cl 14 150 #[Tm 12, Tm 13] #[123, 3], Lq 15 14 255, Oo 16 (.move (Kn 0))]) (.block 0 (.loop (.seq (R0 [Bo 17 .lss 3 (Tm 16) (Tm 15) 3]) (.seq (.cond (Tm 17) .skip (.exit 0)) (.seq (.block 1 (.seq (R0 [Mv 18 16, Ix 19 255 14 16, Ld 20 4 19, Sg 7 18, Sg 8 20]) (.seq (.seq (R0 [Mv 21 8]) (.cond (Tm 21) (R0 [Mv 22 7, Sg 6 22]) .skip)) (R0 [Mv 23 5, Mv 24 7, Mv 25 6, Ix 26 41 23 24, Sr 3 (Tm 26) (Tm 25)])))) (R0 [Bo 27 .add 3 (Tm 16) (Kn 1) 3, Mv 16 27]))))))) (.seq (R0 [Mv 28 5, Sg 4 28]) .ret))))⟩
theorem sf119 : sfOf Try.f119 = some s119 := by kernel_rfl
theorem hb119 : hasBody Try.prog 119 = true := by kernel_rfl
def s120 : SF := ⟨35, [.tmp 4, .tmp 5], (.seq (R0 [Oo 3 (.box 193 (Tm 1)), Sk 4 (Kb false), Sk 5 (Kb false)]) (.seq (.seq (R0 [Oo 9 (.build 257 #[(0, (Kb false)), (1, (Kb true))]), Oo 10 (.move (Kn 0))]) (.block 0 (.loop (.seq (R0 [Bo 11 .lss 3 (Tm 10) (Kn 2) 3]) (.seq (.cond (Tm 11) .skip (.exit 0)) (.seq (.block 1 (.seq (R0 [Oo 12 (.index 257 (Tm 9) (Tm 10)), Sg 7 12]) (.seq (R0 [Mv 13 0, Nk 14 13, Fa 15 225 14 0, Fa 16 184 15 1, Ld 17 123 16, Cl 18 151 #[Tm 17] #[123], Mv 19 7, Oo 20 (.lookup 258 (Tm 18) (Tm 19) false), Oo 8 (.alloc 193), Sr 193 (Tm 8) (Tm 20)]) (.seq (R0 [Oo 21 (.indexAddr 193 (Tm 8) (Kn 0)), Ld 22 3 21, Oo 23 (.indexAddr 193 (Tm 3) (Kn 0)), Ld 24 3 23, Bo 25 .leq 3 (Tm 22) (Tm 24) 3, Mv 26 25, Og 27 (.indexAddr 193 (Tm 8) (Kn 1)) 26 true, Gl 28 3 27 26 true, Og 29 (.indexAddr 193 (Tm 3) (Kn 1)) 26 true, Gl 30 3 29 26 true, Gb 31 .leq 3 (Tm 28) (Tm 30) 3 26 true, Pk 32 26 (Tm 31) (Kb false)]) (.cond (Tm 32) (.seq (R0 [Mv 33 7, Sg 4 33, Sk 5 (Kb true)]) .ret) .skip))))) (R0 [Bo 34 .add 3 (Tm 10) (Kn 1) 3, Mv 10 34]))))))) (.seq (R0 [Sk 4 (Kb false), Sk 5 (Kb false)]) .ret)))⟩
theorem sf120 : sfOf Try.f120 = some s120 := by kernel_rfl
theorem hb120 : hasBody Try.prog 120 = true := by kernel_rfl
def s121 : SF := ⟨6, [.tmp 4], (.seq (R0 [Oo 2 (.box 189 (Tm 0)), Oo 3 (.box 193 (Tm 1)), Oo 4 (.assign (.const .nilFunc))]) (.seq (R0 [Oo 5 (.makeFunc (.func 152) #[] #[Tm 3, Tm 2]), Sg 4 5]) .ret))⟩
theorem sf121 : sfOf Try.f121 = some s121 := by kernel_rfl
theorem hb121 : hasBody Try.prog 121 = true := by kernel_rfl
def o122_0 : SO := (Ld 6 193 3)
def o122_1 : SO := (Ld 7 193 3)
def o122_2 : SO := (Sr 193 (Tm 4) (Tm 6))
def o122_3 : SO := (Sr 193 (Tm 5) (Tm 7))
def o122_4 : SO := (Fa 8 186 2 0)
def o122_5 : SO := (Ld 9 3 8)
def o122_6 : SO := (Fa 12 186 2 1)
def o122_7 : SO := (Ld 13 3 12)
def o122_8 : SO := (Ix 21 193 4 9)
def o122_9 : SO := (Sr 3 (Tm 21) (Tm 13))
def o122_10 : SO := (Fa 10 186 2 0)
def o122_11 : SO := (Ld 11 3 10)
def o122_12 : SO := (Fa 14 186 2 0)
def o122_13 : SO := (Ld 15 3 14)
def o122_14 : SO := (Ix 16 193 3 15)
def o122_15 : SO := (Ld 17 3 16)
def o122_16 : SO := (Fa 18 186 2 1)
def o122_17 : SO := (Ld 19 3 18)
def o122_18 : SO := (Bo 20 .sub 3 (Tm 17) (Tm 19) 3)
def o122_19 : SO := (Ix 22 193 5 11)
def o122_20 : SO := (Sr 3 (Tm 22) (Tm 20))
def o122_21 : SO := (Ld 23 193 4)
def o122_22 : SO := (Ld 24 193 5)
def o122_23 : SO := (Sr 193 (Tm 4) (Tm 23))
def o122_24 : SO := (Sr 193 (Tm 5) (Tm 24))
def s122 : SF := ⟨25, [.cell 4 193, .cell 5 193], (.seq (R0 [Oo 2 (.box 186 (Tm 0)), Oo 3 (.box 193 (Tm 1)), Oo 4 (.alloc 193), Oo 5 (.alloc 193)]) (.seq (.ord (.op o122_0 (.alt (.op o122_1 (.op o122_2 (.op o122_3 .done))) (.op o122_2 (.op o122_1 (.op o122_3 .done)))))) (.seq (.ord (.op o122_4 (.op o122_5 (.op o122_6 (.op o122_7 (.op o122_8 (.app o122_9 [2, 10, 2, 14, 3, 15, 16, 2, 18, 17, 19] [10, 11, 14, 15, 16, 17, 18, 19, 20] (.op o122_10 (.op o122_11 (.op o122_12 (.op o122_13 (.op o122_14 (.op o122_15 (.op o122_16 (.op o122_17 (.op o122_18 (.op o122_19 (.op o122_20 .done)))))))))))))))))) (.seq (.ord (.op o122_21 (.alt (.op o122_22 (.op o122_23 (.op o122_24 .done))) (.op o122_23 (.op o122_22 (.op o122_24 .done)))))) .ret))))⟩
theorem sf122 : sfOf Try.f122 = some s122 := by kernel_rfl
theorem hb122 : hasBody Try.prog 122 = true := by kernel_rfl
def s123 : SF := ⟨19, [.tmp 4], (.seq (R0 [Sk 4 (Kn 0)]) (.seq (.seq (R0 [Mv 6 0, Lq 7 6 130, Oo 8 (.move (Kn 0))]) (.block 0 (.loop (.seq (R0 [Bo 9 .lss 3 (Tm 8) (Tm 7) 3]) (.seq (.cond (Tm 9) .skip (.exit 0)) (.seq (.block 1 (.seq (R0 [Mv 10 8, Sg 5 10]) (.seq (R0 [Mv 11 1, Mv 12 0, Mv 13 5, Ix 14 130 12 13, Ld 15 129 14, Oo 16 (.call { callee := .value (Tm 11), args := #[Tm 15], argTypes := #[129] })]) (.cond (Tm 16) (.seq (R0 [Mv 17 5, Sg 4 17]) .ret) .skip)))) (R0 [Bo 18 .add 3 (Tm 8) (Kn 1) 3, Mv 8 18]))))))) (.seq (R0 [Sk 4 (Kn (-1))]) .ret)))⟩
theorem sf123 : sfOf Try.f123 = some s123 := by kernel_rfl
theorem hb123 : hasBody Try.prog 123 = true := by kernel_rfl
def s124 : SF := ⟨13, [.tmp 4], (.seq (R0 [Sk 4 (Kb false)]) (.seq (R0 [Mv 5 0, Ld 6 3 1, Bo 7 .lss 3 (Tm 5) (Tm 6) 3, Mv 8 7, Gm 9 0 8 false, Gl 10 3 2 8 false, Gb 11 .gtr 3 (Tm 9) (Tm 10) 3 8 false, Pk 12 8 (Kb true) (Tm 11), Sg 4 12]) .ret))⟩
theorem sf124 : sfOf Try.f124 = some s124 := by kernel_rfl
theorem hb124 : hasBody Try.prog 124 = true := by kernel_rfl
def o125_0 : SO := (Mv 39 7)
def o125_1 : SO := (Mv 40 8)
def o125_2 : SO := (Oo 41 (.slice 41 (Tm 39) (some (Tm 40)) none none))
def o125_3 : SO := (Mv 42 7)
def o125_4 : SO := (Mv 43 8)
def o125_5 : SO := (Oo 44 (.slice 41 (Tm 42) none (some (Tm 43)) none))
def o125_6 : SO := (Mv 38 8)
def o125_7 : SO := (Oo 45 (.call { callee := .builtin .copy, args := #[Tm 41, Tm 44], argTypes := #[41, 41] }))
def o125_8 : SO := (Bo 46 .add 3 (Tm 38) (Tm 45) 3)
def o125_9 : SO := (Sg 8 46)
def s125 : SF := ⟨48, [.tmp 4], (.seq (R0 [Oo 4 (.assign (.const (.slice none 0 0)))]) (.seq (.seq (R0 [Mv 9 1, Bo 10 .lss 3 (Tm 9) (Kn 0) 3]) (.cond (Tm 10) (R0 [⟨some 11, .makeInterface 9 (.const (.string ⟨#[99, 97, 110, 110, 111, 116, 32, 98, 101, 32, 110, 101, 103, 97, 116, 105, 118, 101]⟩)), none⟩, ⟨none, .panic (Tm 11), none⟩]) .skip)) (.seq (R0 [Mv 13 0, Lq 14 13 41, Oo 15 (.convert 3 71 (Tm 14)), Mv 16 1, Oo 17 (.convert 3 71 (Tm 16)), Cl 18 153 #[Tm 15, Tm 17] #[71, 71], Mv 12 18, Xt 19 12 0, Xt 20 12 1, Sg 5 19, Sg 6 20]) (.seq (.seq (R0 [Mv 21 5, Bo 22 .gtr 71 (Tm 21) (.const (.int .u64 0)) 71, Mv 23 22, Gm 24 6 23 false, Gb 25 .gtr 71 (Tm 24) (.const (.int .u64 9223372036854775807)) 71 23 false, Pk 26 23 (Kb true) (Tm 25)]) (.cond (Tm 26) (R0 [⟨some 27, .makeInterface 9 (.const (.string ⟨#[116, 104, 101, 32, 114, 101, 115, 117, 108, 116, 32, 111, 102, 32, 40, 108, 101, 110, 40, 120, 41, 32, 42, 32, 99, 111, 117, 110, 116, 41, 32, 111, 118, 101, 114, 102, 108, 111, 119, 115]⟩)), none⟩, ⟨none, .panic (Tm 27), none⟩]) .skip)) (.seq (R0 [Mv 28 6, Oo 29 (.convert 71 3 (Tm 28)), Oo 30 (.makeSlice 41 (Tm 29) (Tm 29)), Sg 7 30]) (.seq (R0 [Mv 31 7, Mv 32 0, Oo 33 (.call { callee := .builtin .copy, args := #[Tm 31, Tm 32], argTypes := #[41, 41] }), Sg 8 33]) (.seq (.block 0 (.loop (.seq (.seq (R0 [Mv 34 8, Mv 35 7, Lq 36 35 41, Bo 37 .lss 3 (Tm 34) (Tm 36) 3]) (.cond (Tm 37) .skip (.exit 0))) (.block 1 (.ord (.op o125_0 (.op o125_1 (.op o125_2 (.op o125_3 (.op o125_4 (.op o125_5 (.alt (.op o125_6 (.op o125_7 (.op o125_8 (.op o125_9 .done)))) (.op o125_7 (.op o125_6 (.op o125_8 (.op o125_9 .done)))))))))))))))) (.seq (R0 [Mv 47 7, Sg 4 47]) .ret))))))))⟩
theorem sf125 : sfOf Try.f125 = some s125 := by kernel_rfl
theorem hb125 : hasBody Try.prog 125 = true := by kernel_rfl
def s126 : SF := ⟨11, [.tmp 4], (.seq (R0 [Sk 4 (Kn 0)]) (.seq (R0 [Mv 5 0, Mv 6 1, Bo 7 .add 3 (Tm 5) (Tm 6) 3, Bo 8 .sub 3 (Tm 7) (Kn 1) 3, Mv 9 1, Bo 10 .quo 3 (Tm 8) (Tm 9) 3, Sg 4 10]) .ret))⟩
theorem sf126 : sfOf Try.f126 = some s126 := by kernel_rfl
theorem hb126 : hasBody Try.prog 126 = true := by kernel_rfl
def s127 : SF := ⟨19, [.tmp 4], (.seq (R0 [Sk 4 (Kn 0)]) (.seq (.seq (R0 [Mv 6 0, Lq 7 6 29, Oo 8 (.move (Kn 0))]) (.block 0 (.loop (.seq (R0 [Bo 9 .lss 3 (Tm 8) (Tm 7) 3]) (.seq (.cond (Tm 9) .skip (.exit 0)) (.seq (.block 1 (.seq (R0 [Mv 10 8, Sg 5 10]) (.seq (R0 [Mv 11 1, Mv 12 0, Mv 13 5, Ix 14 29 12 13, Ld 15 35 14, Oo 16 (.call { callee := .value (Tm 11), args := #[Tm 15], argTypes := #[35] })]) (.cond (Tm 16) (.seq (R0 [Mv 17 5, Sg 4 17]) .ret) .skip)))) (R0 [Bo 18 .add 3 (Tm 8) (Kn 1) 3, Mv 8 18]))))))) (.seq (R0 [Sk 4 (Kn (-1))]) .ret)))⟩
theorem sf127 : sfOf Try.f127 = some s127 := by kernel_rfl
theorem hb127 : hasBody Try.prog 127 = true := by kernel_rfl
def s146 : SF := ⟨19, [.tmp 4], (.seq (R0 [Sk 4 (Kn 0)]) (.seq (.seq (R0 [Mv 6 0, Lq 7 6 41, Oo 8 (.move (Kn 0))]) (.block 0 (.loop (.seq (R0 [Bo 9 .lss 3 (Tm 8) (Tm 7) 3]) (.seq (.cond (Tm 9) .skip (.exit 0)) (.seq (.block 1 (.seq (R0 [Mv 10 8, Sg 5 10]) (.seq (R0 [Mv 11 1, Mv 12 0, Mv 13 5, Ix 14 41 12 13, Ld 15 3 14, Oo 16 (.call { callee := .value (Tm 11), args := #[Tm 15], argTypes := #[3] })]) (.cond (Tm 16) (.seq (R0 [Mv 17 5, Sg 4 17]) .ret) .skip)))) (R0 [Bo 18 .add 3 (Tm 8) (Kn 1) 3, Mv 8 18]))))))) (.seq (R0 [Sk 4 (Kn (-1))]) .ret)))⟩
theorem sf146 : sfOf Try.f146 = some s146 := by kernel_rfl
theorem hb146 : hasBody Try.prog 146 = true := by kernel_rfl
def s150 : SF := ⟨50, [.tmp 4], (.seq (R0 [Oo 2 (.box 123 (Tm 0)), Oo 4 (.assign (.const (.slice none 0 0)))]) (.seq (R0 [Mv 9 1, Bo 10 .add 3 (Tm 9) (Kn 1) 3, Oo 11 (.makeSlice 255 (Tm 10) (Tm 10)), Sg 5 11]) (.seq (R0 [Mv 12 5, Oo 13 (.indexAddr 255 (Tm 12) (Kn 0)), Sr 4 (Tm 13) (Kb true)]) (.seq (.seq (R0 [Mv 14 5, Lq 15 14 255, Oo 16 (.move (Kn 0))]) (.block 0 (.loop (.seq (R0 [Bo 17 .lss 3 (Tm 16) (Tm 15) 3]) (.seq (.cond (Tm 17) .skip (.exit 0)) (.seq (.block 1 (.seq (R0 [Mv 18 16, Sg 6 18]) (.seq (R0 [Fa 19 123 2 0, Ld 20 3 19, Fa 21 123 2 1, Ld 22 3 21, Oo 23 (.build 192 #[(0, (Tm 20)), (1, (Tm 22))]), Oo 24 (.move (Kn 0))]) (.block 2 (.loop (.seq (R0 [Bo 25 .lss 3 (Tm 24) (Kn 2) 3]) (.seq (.cond (Tm 25) .skip (.exit 2)) (.seq (.block 3 (.seq (R0 [Oo 26 (.index 192 (Tm 23) (Tm 24)), Sg 8 26]) (R0 [Mv 27 5, Mv 28 6, Mv 29 5, Mv 30 6, Ix 31 255 29 30, Ld 32 4 31, Mv 33 32, Gm 34 6 33 false, Gm 35 8 33 false, Gb 36 .geq 3 (Tm 34) (Tm 35) 3 33 false, Gm 37 36 33 false, Gm 38 5 37 true, Gm 39 6 37 true, Gm 40 8 37 true, Gb 41 .sub 3 (Tm 39) (Tm 40) 3 37 true, Gx 42 255 38 41 37 true, Gl 43 4 42 37 true, Og 44 (.pick (Tm 37) (Tm 43) (Kb false)) 33 false, Pk 45 33 (Kb true) (Tm 44), Ix 46 255 27 28, Sr 4 (Tm 46) (Tm 45)]))) (R0 [Bo 47 .add 3 (Tm 24) (Kn 1) 3, Mv 24 47]))))))))) (R0 [Bo 48 .add 3 (Tm 16) (Kn 1) 3, Mv 16 48]))))))) (.seq (R0 [Mv 49 5, Sg 4 49]) .ret)))))⟩
theorem sf150 : sfOf Try.f150 = some s150 := by kernel_rfl
theorem hb150 : hasBody Try.prog 150 = true := by kernel_rfl
def s151 : SF := ⟨15, [.tmp 2], (.seq (R0 [Oo 1 (.box 123 (Tm 0)), Oo 2 (.assign (.const (.map none)))]) (.seq (R0 [Oo 3 (.makeMap 258 none), Fa 4 123 1 0, Ld 5 3 4, Fa 6 123 1 1, Ld 7 3 6, Oo 8 (.build 193 #[(0, (Tm 5)), (1, (Tm 7))]), ⟨none, .insert 258 (Tm 3) (Kb false) (Tm 8), none⟩, Fa 9 123 1 1, Ld 10 3 9, Fa 11 123 1 0, Ld 12 3 11, Oo 13 (.build 193 #[(0, (Tm 10)), (1, (Tm 12))]), ⟨none, .insert 258 (Tm 3) (Kb true) (Tm 13), none⟩, Mv 14 3, Sg 2 14]) .ret))⟩
theorem sf151 : sfOf Try.f151 = some s151 := by kernel_rfl
theorem hb151 : hasBody Try.prog 151 = true := by kernel_rfl
def s152 : SF := ⟨37, [], (.seq (R0 [Oo 6 (.move (Kn 0))]) (.block 0 (.loop (.seq (R0 [Bo 7 .lss 3 (Tm 6) (Kn 2) 3]) (.seq (.cond (Tm 7) .skip (.exit 0)) (.seq (.block 1 (.seq (R0 [Mv 8 6, Sg 4 8]) (.seq (R0 [Sk 5 (Kn 1)]) (.block 2 (.loop (.seq (.seq (R0 [Mv 9 5, Bo 10 .mul 3 (Kn 2) (Tm 9) 3, Mv 11 4, Ix 12 193 1 11, Ld 13 3 12, Bo 14 .leq 3 (Tm 10) (Tm 13) 3]) (.cond (Tm 14) .skip (.exit 2))) (.seq (.block 3 (.seq (R0 [Ld 17 189 2, Mv 18 4, Nk 19 17, Fa 20 225 19 1, Ix 21 146 20 18, Ld 22 41 21, Mv 23 5, Ix 24 41 22 23, Ld 25 3 24, Mv 26 5, Bo 27 .eql 3 (Tm 25) (Tm 26) 3, Mv 28 27, Gm 29 0 28 true, Gm 30 4 28 true, Gm 31 5 28 true, Og 32 (.build 186 #[(0, (Tm 30)), (1, (Tm 31))]) 28 true, Og 33 (.call { callee := .value (Tm 29), args := #[Tm 32], argTypes := #[186] }) 28 true, Og 34 (.unOp .not 4 (Tm 33)) 28 true, Pk 35 28 (Tm 34) (Kb false)]) (.cond (Tm 35) .ret .skip))) (R0 [Mv 15 5, Bo 16 .add 3 (Tm 15) (Kn 1) 3, Sg 5 16])))))))) (R0 [Bo 36 .add 3 (Tm 6) (Kn 1) 3, Mv 6 36])))))))⟩
theorem sf152 : sfOf Try.f152 = some s152 := by kernel_rfl
theorem hb152 : hasBody Try.prog 152 = true := by kernel_rfl
def s153 : SF := ⟨30, [.tmp 4, .tmp 5], (.seq (R0 [Oo 4 (.assign (.const (.int .u64 0))), Oo 5 (.assign (.const (.int .u64 0)))]) (.seq (.cond (Kb false) (.seq (R0 [Mv 11 0, Oo 12 (.convert 71 269 (Tm 11)), Mv 13 1, Oo 14 (.convert 71 269 (Tm 13)), Cl 15 168 #[Tm 12, Tm 14] #[269, 269], Mv 10 15, Xt 16 10 0, Xt 17 10 1, Sg 6 16, Sg 7 17]) (.seq (R0 [Mv 18 6, Oo 19 (.convert 269 71 (Tm 18)), Mv 20 7, Oo 21 (.convert 269 71 (Tm 20)), Sg 4 19, Sg 5 21]) .ret)) .skip) (.seq (R0 [Mv 23 0, Mv 24 1, Cl 25 169 #[Tm 23, Tm 24] #[272, 272], Mv 22 25, Xt 26 22 0, Xt 27 22 1, Sg 8 26, Sg 9 27]) (.seq (R0 [Mv 28 8, Mv 29 9, Sg 4 28, Sg 5 29]) .ret))))⟩
theorem sf153 : sfOf Try.f153 = some s153 := by kernel_rfl
theorem hb153 : hasBody Try.prog 153 = true := by kernel_rfl
end Go.Dw.Seat
end
section
namespace Go.Dw.Seat
open Go Go.Dw Go.Proofs
def s169 : SF := ⟨51, [.tmp 4, .tmp 5], (.seq (R0 [Oo 4 (.assign (.const (.int .u64 0))), Oo 5 (.assign (.const (.int .u64 0)))]) (.seq (R0 [Mv 14 0, Bo 15 .and 272 (Tm 14) (.const (.int .u64 4294967295)) 272, Sg 6 15]) (.seq (R0 [Mv 16 0, Bo 17 .shr 272 (Tm 16) (.const (.int .u64 32)) 71, Sg 7 17]) (.seq (R0 [Mv 18 1, Bo 19 .and 272 (Tm 18) (.const (.int .u64 4294967295)) 272, Sg 8 19]) (.seq (R0 [Mv 20 1, Bo 21 .shr 272 (Tm 20) (.const (.int .u64 32)) 71, Sg 9 21]) (.seq (R0 [Mv 22 6, Mv 23 8, Bo 24 .mul 272 (Tm 22) (Tm 23) 272, Sg 10 24]) (.seq (R0 [Mv 25 7, Mv 26 8, Bo 27 .mul 272 (Tm 25) (Tm 26) 272, Mv 28 10, Bo 29 .shr 272 (Tm 28) (.const (.int .u64 32)) 71, Bo 30 .add 272 (Tm 27) (Tm 29) 272, Sg 11 30]) (.seq (R0 [Mv 31 11, Bo 32 .and 272 (Tm 31) (.const (.int .u64 4294967295)) 272, Sg 12 32]) (.seq (R0 [Mv 33 11, Bo 34 .shr 272 (Tm 33) (.const (.int .u64 32)) 71, Sg 13 34]) (.seq (R0 [Mv 35 12, Mv 36 6, Mv 37 9, Bo 38 .mul 272 (Tm 36) (Tm 37) 272, Bo 39 .add 272 (Tm 35) (Tm 38) 272, Sg 12 39]) (.seq (R0 [Mv 40 7, Mv 41 9, Bo 42 .mul 272 (Tm 40) (Tm 41) 272, Mv 43 13, Bo 44 .add 272 (Tm 42) (Tm 43) 272, Mv 45 12, Bo 46 .shr 272 (Tm 45) (.const (.int .u64 32)) 71, Bo 47 .add 272 (Tm 44) (Tm 46) 272, Sg 4 47]) (.seq (R0 [Mv 48 0, Mv 49 1, Bo 50 .mul 272 (Tm 48) (Tm 49) 272, Sg 5 50]) .ret))))))))))))⟩
theorem sf169 : sfOf Try.f169 = some s169 := by kernel_rfl
theorem hb169 : hasBody Try.prog 169 = true := by kernel_rfl
end Go.Dw.Seat
end
section
namespace Go.Dw.Seat
open Go Go.Dw Go.Proofs Go.IntWalk
theorem qA : type_of% @DW.seq := @DW.seq
theorem qB : type_of% @DW.block := @DW.block
theorem qC : type_of% @DW.skip := @DW.skip
theorem qD : type_of% @DW.exit := @DW.exit
theorem qE : type_of% @DW.ret := @DW.ret
theorem qF : type_of% @DW.reg := @DW.reg
theorem qG : type_of% @DW.cond_tt := @DW.cond_tt
theorem qH : type_of% @DW.cond_ff := @DW.cond_ff
theorem qI : type_of% @DW.cond := @DW.cond
theorem qJ : type_of% @g_split := @g_split
theorem qK : type_of% @call_c := @call_c
theorem qL : type_of% @DW.dreg := @DW.dreg
theorem qM : type_of% @retS_of := @retS_of
theorem qN : type_of% @bm_box := @bm_box
theorem qO : type_of% @bm_row := @bm_row
theorem qP : type_of% @bk_box := @bk_box
theorem qQ : type_of% @bk_row := @bk_row
theorem qR : type_of% @wkT_cons := @wkT_cons
theorem qS : type_of% @wkX_cons := @wkX_cons
theorem qTw : type_of% @wkT_nil := @wkT_nil
theorem qU : type_of% @wkX_nil := @wkX_nil
theorem qV : type_of% @ex_some := @ex_some
theorem qW : type_of% @wk_self := @wk_self
theorem qX : type_of% @wk_top := @wk_top
theorem qY : type_of% @wk_nil := @wk_nil
theorem qZ : type_of% @wkB_self := @wkB_self
theorem rA : type_of% @Int.natCast_add := @Int.natCast_add
theorem rB : type_of% @Int.natCast_one := @Int.natCast_one
theorem rC : type_of% @Int.ofNat_zero := @Int.ofNat_zero
theorem rD : type_of% @Int.natCast_zero := @Int.natCast_zero
theorem rE : type_of% @IntWalk.i64_in := @IntWalk.i64_in
theorem rF : type_of% @List.map_cons := @List.map_cons
theorem rG : type_of% @List.map_nil := @List.map_nil
end Go.Dw.Seat
end
section
set_option linter.unusedSimpArgs false
set_option maxRecDepth 100000
namespace Go.Dw.Seat.Pa
open Go Go.Dw Go.Proofs Go.IntWalk
theorem plIdxI (b : Bool) (l : List (Int)) (hl : l.length ≤ 2 ^ 36) (g : FuncId) (fs caps : List C) (p : Int → Bool) (hp : ∀ x ∈ l, DCall Try.prog g (fs.map D.c ++ [dI x] ++ caps.map D.c) [] (bD (p x)) []) : DCall Try.prog 146 [.c (.sl b 1 (rows eI l)), .c (.fn (.func g) fs caps)] [] (dI (idxI p l)) [] := by
 refine DCall.of Try.func146 sf146 hb146 (Nat.le_of_ble_eq_true rfl) (okRes_nil fun _ => rfl) ?_; simp only [s146, idxs, Nat.reduceAdd]
 repeat' (first|(with_reducible first|apply qA|apply qB|apply qC|apply qD|apply qE|apply qF)|(simp (disch:=omega) only [go_sem, simprocAttr, Blk.men, Blk.keysIn])|exact qM rfl rfl rfl|(refine qG rfl ?_)|(refine qH rfl ?_)|(refine qI rfl ?_ ?_<;>intro hc<;>(try simp only [go_sem] at hc))|(refine qJ ?_ ?_<;>intro hc<;>(try simp only [hc])<;>(try simp only [go_sem] at hc)))
 refine DW.loop (ι := { i : Nat // i ≤ l.length ∧ ∀ j u, j < i → l[j]? = some u → p u = false }) (fun i => ⟨19, [(8, dI i.1), (7, dI l.length), (1, .c (.fn (.func g) fs caps)), (0, .c (.sl b 1 (rows eI l)))], []⟩) (fun i => l.length - i.1) ⟨0, Nat.zero_le _, fun j u h => by omega⟩ ?_ ?_
 ·refine Ent.to ?_ ?_ <;> simp (disch:=omega) only [qR,qS,qTw,qU,get,Nat.reduceEqDiff,↓reduceIte,qV,qW,qX,qY,qZ,and_self,dI,i64_in,and_true,true_and,rA,rB,rC,rD]
 rintro ⟨i, hi, hij⟩
 rcases at_or l i hi with ⟨v, hv, hlt, hd⟩ | ⟨he, hd⟩
 ·have hcall := hp v (List.mem_of_getElem? hv)
  repeat' (first|(with_reducible first|apply qA|apply qB|apply qC|apply qD|apply qE|apply qF)|(simp (disch:=omega) only [go_sem, simprocAttr, Blk.men, Blk.keysIn, hd, hv, closeDs_fn, rF, rG])|exact qM rfl rfl rfl|(refine qG rfl ?_)|(refine qH rfl ?_)|(refine qI rfl ?_ ?_<;>intro hc<;>(try simp only [go_sem] at hc))|(refine qJ ?_ ?_<;>intro hc<;>(try simp only [hc])<;>(try simp only [go_sem] at hc)))
  refine call_c hcall (by decide) ?_
  simp (disch:=omega) only [go_sem,simprocAttr,Blk.men,Blk.keysIn]
  refine DW.cond rfl ?_ ?_ <;> intro hc
  ·repeat' (first|(with_reducible first|apply qA|apply qB|apply qC|apply qD|apply qE|apply qF)|(simp (disch:=omega) only [go_sem, simprocAttr, Blk.men, Blk.keysIn])|exact qM rfl rfl rfl|(refine qG rfl ?_)|(refine qH rfl ?_)|(refine qI rfl ?_ ?_<;>intro hc<;>(try simp only [go_sem] at hc))|(refine qJ ?_ ?_<;>intro hc<;>(try simp only [hc])<;>(try simp only [go_sem] at hc)))
   refine retS_of rfl ?_ rfl; simp only [oneD, St.op, get, Nat.reduceEqDiff, ↓reduceIte, Option.getD_some, bD, dI]
   simp only [idxI, idxOf_some hij hv hc]
  ·repeat' (first|(with_reducible first|apply qA|apply qB|apply qC|apply qD|apply qE|apply qF)|(simp (disch:=omega) only [go_sem, simprocAttr, Blk.men, Blk.keysIn])|exact qM rfl rfl rfl|(refine qG rfl ?_)|(refine qH rfl ?_)|(refine qI rfl ?_ ?_<;>intro hc<;>(try simp only [go_sem] at hc))|(refine qJ ?_ ?_<;>intro hc<;>(try simp only [hc])<;>(try simp only [go_sem] at hc)))
   refine ⟨⟨i + 1, by omega, fun j u hj hu => by
    rcases Nat.lt_or_ge j i with h | h
    ·exact hij j u h hu
    ·have : j = i := by omega
     subst this
     rw [hv] at hu; cases hu; exact hc⟩, ?_, Ent.to ?_ ?_⟩ <;> first | (show _ < _; (try simp only); omega) | (simp (disch:=omega) only [qR,qS,qTw,qU,get,Nat.reduceEqDiff,↓reduceIte,qV,qW,qX,qY,qZ,and_self,dI,i64_in,and_true,true_and,rA,rB,rC,rD])
 ·repeat' (first|(with_reducible first|apply qA|apply qB|apply qC|apply qD|apply qE|apply qF)|(simp (disch:=omega) only [go_sem, simprocAttr, Blk.men, Blk.keysIn, hd])|exact qM rfl rfl rfl|(refine qG rfl ?_)|(refine qH rfl ?_)|(refine qI rfl ?_ ?_<;>intro hc<;>(try simp only [go_sem] at hc))|(refine qJ ?_ ?_<;>intro hc<;>(try simp only [hc])<;>(try simp only [go_sem] at hc)))
  refine retS_of rfl ?_ rfl; simp only [oneD, St.op, get, Nat.reduceEqDiff, ↓reduceIte, Option.getD_some, bD, dI]
  simp only [idxI, idxOf_none (he ▸ hij)]
theorem plAnyI (b : Bool) (l : List (Int)) (hl : l.length ≤ 2 ^ 36) (g : FuncId) (fs caps : List C) (p : Int → Bool) (hp : ∀ x ∈ l, DCall Try.prog g (fs.map D.c ++ [dI x] ++ caps.map D.c) [] (bD (p x)) []) : DCall Try.prog 109 [.c (.sl b 1 (rows eI l)), .c (.fn (.func g) fs caps)] [] (bD (l.any p)) [] := by
 refine DCall.of Try.func109 sf109 hb109 (Nat.le_of_ble_eq_true rfl) (okRes_nil fun _ => rfl) ?_; simp only [s109, idxs, Nat.reduceAdd]
 repeat' (first|(with_reducible first|apply qA|apply qB|apply qC|apply qD|apply qE|apply qF)|(simp (disch:=omega) only [go_sem, simprocAttr, Blk.men, Blk.keysIn])|exact qM rfl rfl rfl|(refine qG rfl ?_)|(refine qH rfl ?_)|(refine qI rfl ?_ ?_<;>intro hc<;>(try simp only [go_sem] at hc))|(refine qJ ?_ ?_<;>intro hc<;>(try simp only [hc])<;>(try simp only [go_sem] at hc)))
 refine call_c (plIdxI b l hl g fs caps p hp) (by decide) ?_
 repeat' (first|(with_reducible first|apply qA|apply qB|apply qC|apply qD|apply qE|apply qF)|(simp (disch:=omega) only [go_sem, simprocAttr, Blk.men, Blk.keysIn])|exact qM rfl rfl rfl|(refine qG rfl ?_)|(refine qH rfl ?_)|(refine qI rfl ?_ ?_<;>intro hc<;>(try simp only [go_sem] at hc))|(refine qJ ?_ ?_<;>intro hc<;>(try simp only [hc])<;>(try simp only [go_sem] at hc)))
 refine retS_of rfl ?_ rfl; simp only [oneD, St.op, get, Nat.reduceEqDiff, ↓reduceIte, Option.getD_some, bD, dI]
 rw [idxI_any]
def wthn (lo hi : Int) (l : List Int) : Bool := !(l.any fun n => decide (n < lo) || decide (hi < n))
theorem wthn_one {lo hi n : Int} (h : wthn lo hi [n] = true) : lo ≤ n ∧ n ≤ hi := by
 simp [wthn] at h; omega
theorem plW1 (n lo hi : Int) (p q : Bool) : DCall Try.prog 117 [dI n, .c (.ro p [.v (.int .i64 lo)] 0), .c (.ro q [.v (.int .i64 hi)] 0)] [] (bD (decide (n < lo) || decide (hi < n))) [] := by
 refine DCall.of Try.func117 sf117 hb117 (Nat.le_of_ble_eq_true rfl) (okRes_nil fun _ => rfl) ?_; simp only [s117, idxs, Nat.reduceAdd]
 repeat' (first|(with_reducible first|apply qA|apply qB|apply qC|apply qD|apply qE|apply qF)|(simp (disch:=omega) only [go_sem, simprocAttr, Blk.men, Blk.keysIn])|exact qM rfl rfl rfl|(refine qG rfl ?_)|(refine qH rfl ?_)|(refine qI rfl ?_ ?_<;>intro hc<;>(try simp only [go_sem] at hc))|(refine qJ ?_ ?_<;>intro hc<;>(try simp only [hc])<;>(try simp only [go_sem] at hc)))
theorem plWithin (b : Bool) (lo hi : Int) (l : List Int) (hl : l.length ≤ 2 ^ 36) : DCall Try.prog 72 [dI lo, dI hi, dIs b l] [] (bD (wthn lo hi l)) [] := by
 refine DCall.of Try.func72 sf72 hb72 (Nat.le_of_ble_eq_true rfl) (okRes_nil fun _ => rfl) ?_; simp only [s72, idxs, Nat.reduceAdd]
 repeat' (first|(with_reducible first|apply qA|apply qB|apply qC|apply qD|apply qE|apply qF)|(simp (disch:=omega) only [go_sem, simprocAttr, Blk.men, Blk.keysIn])|exact qM rfl rfl rfl|(refine qG rfl ?_)|(refine qH rfl ?_)|(refine qI rfl ?_ ?_<;>intro hc<;>(try simp only [go_sem] at hc))|(refine qJ ?_ ?_<;>intro hc<;>(try simp only [hc])<;>(try simp only [go_sem] at hc)))
 (refine call_c (plAnyI b l hl 117 [] [.ro true [.v (.int .i64 lo)] 0, .ro true [.v (.int .i64 hi)] 0] (fun n => decide (n < lo) || decide (hi < n)) (fun x _ => plW1 x lo hi true true)) (by decide) ?_; simp (disch:=omega) only [go_sem,simprocAttr,Blk.men,Blk.keysIn])
 repeat' (first|(with_reducible first|apply qA|apply qB|apply qC|apply qD|apply qE|apply qF)|(simp (disch:=omega) only [go_sem, simprocAttr, Blk.men, Blk.keysIn])|exact qM rfl rfl rfl|(refine qG rfl ?_)|(refine qH rfl ?_)|(refine qI rfl ?_ ?_<;>intro hc<;>(try simp only [go_sem] at hc))|(refine qJ ?_ ?_<;>intro hc<;>(try simp only [hc])<;>(try simp only [go_sem] at hc)))
theorem wthn_yes {lo hi : Int} {l : List Int} (h : ∀ v ∈ l, lo ≤ v ∧ v ≤ hi) : wthn lo hi l = true := by
 simp only [wthn, Bool.not_eq_true', List.any_eq_false, Bool.or_eq_true, decide_eq_true_eq]
 intro v hv
 have := h v hv
 omega
theorem wthn_all {lo hi : Int} {l : List Int} (h : wthn lo hi l = true) : ∀ v ∈ l, lo ≤ v ∧ v ≤ hi := by
 simp only [wthn, Bool.not_eq_true', List.any_eq_false, Bool.or_eq_true, decide_eq_true_eq] at h
 intro v hv
 have := h v hv
 omega
theorem wthn_iff {lo hi : Int} {l : List Int} : wthn lo hi l = true ↔ ∀ v ∈ l, lo ≤ v ∧ v ≤ hi := ⟨wthn_all, wthn_yes⟩
def spanOk (lo hi least most : Int) : Bool := wthn least most [lo, hi] && decide (lo ≤ hi)
theorem spanOk_iff {lo hi least most : Int} : spanOk lo hi least most = true ↔ least ≤ lo ∧ lo ≤ hi ∧ hi ≤ most := by
 simp only [spanOk, Bool.and_eq_true, decide_eq_true_eq, wthn_iff, List.mem_cons, List.not_mem_nil, or_false, forall_eq_or_imp, forall_eq]
 omega
theorem plSpan (lo hi least most : Int) : DCall Try.prog 73 [.agg [dI lo, dI hi], dI least, dI most] [] (bD (spanOk lo hi least most)) [] := by
 have h1 := plWithin true least most [lo, hi] (by simp)
 unfold spanOk
 cases h : wthn least most [lo, hi] <;> rw [h] at h1 <;> simp only [Bool.true_and, Bool.false_and]
 ·refine DCall.of Try.func73 sf73 hb73 (Nat.le_of_ble_eq_true rfl) (okRes_nil fun _ => rfl) ?_; simp only [s73, idxs, Nat.reduceAdd]
  repeat' (first|(with_reducible first|apply qA|apply qB|apply qC|apply qD|apply qE|apply qF)|(simp (disch:=omega) only [go_sem, simprocAttr, Blk.men, Blk.keysIn])|exact qM rfl rfl rfl|(refine qG rfl ?_)|(refine qK (h1) (by decide) ?_)|(refine qH rfl ?_)|(refine qI rfl ?_ ?_<;>intro hc<;>(try simp only [go_sem] at hc))|(refine qJ ?_ ?_<;>intro hc<;>(try simp only [hc])<;>(try simp only [go_sem] at hc)))
 ·refine DCall.of Try.func73 sf73 hb73 (Nat.le_of_ble_eq_true rfl) (okRes_nil fun _ => rfl) ?_; simp only [s73, idxs, Nat.reduceAdd]
  repeat' (first|(with_reducible first|apply qA|apply qB|apply qC|apply qD|apply qE|apply qF)|(simp (disch:=omega) only [go_sem, simprocAttr, Blk.men, Blk.keysIn])|exact qM rfl rfl rfl|(refine qG rfl ?_)|(refine qK (h1) (by decide) ?_)|(refine qH rfl ?_)|(refine qI rfl ?_ ?_<;>intro hc<;>(try simp only [go_sem] at hc))|(refine qJ ?_ ?_<;>intro hc<;>(try simp only [hc])<;>(try simp only [go_sem] at hc)))
end Go.Dw.Seat.Pa
end
section
set_option linter.unusedSimpArgs false
set_option maxRecDepth 100000
namespace Go.Dw.Seat.Pa
open Go Go.Dw Go.IntWalk
def sumB (a c i : Nat) : Bool := (List.range (i / a + 1)).any fun u => (i - u * a) % c == 0
theorem sumB_iff {a c i : Nat} (ha : 0 < a) : sumB a c i = true ↔ ∃ u v, i = u * a + v * c := by
 unfold sumB
 rw [List.any_eq_true]
 constructor
 ·rintro ⟨u, hu, h⟩
  have hu := List.mem_range.1 hu
  have h1 : u * a ≤ i := Nat.le_trans (Nat.mul_le_mul_right a (show u ≤ i / a by omega)) (Nat.div_mul_le_self i a)
  have h2 := Nat.div_add_mod (i - u * a) c
  rw [beq_iff_eq] at h
  refine ⟨u, (i - u * a) / c, ?_⟩
  rw [h, Nat.add_zero, Nat.mul_comm] at h2; omega
 ·rintro ⟨u, v, rfl⟩
  refine ⟨u, List.mem_range.2 ?_, ?_⟩
  ·have : u ≤ (u * a + v * c) / a := (Nat.le_div_iff_mul_le ha).2 (by omega)
   omega
  ·rw [beq_iff_eq, Nat.add_sub_cancel_left]; exact Nat.mul_mod_left v c
theorem sumB_zero (a c : Nat) : sumB a c 0 = true := by
 unfold sumB
 rw [Nat.zero_div]
 simp
theorem sumB_add {a c i j : Nat} (ha : 0 < a) (hi : sumB a c i = true) (hj : sumB a c j = true) : sumB a c (i + j) = true := by
 obtain ⟨u, v, rfl⟩ := (sumB_iff ha).1 hi
 obtain ⟨s, t, rfl⟩ := (sumB_iff ha).1 hj
 refine (sumB_iff ha).2 ⟨u + s, v + t, ?_⟩
 rw [Nat.add_mul, Nat.add_mul]; omega
theorem sumB_a {a c : Nat} (ha : 0 < a) : sumB a c a = true := (sumB_iff ha).2 ⟨1, 0, by omega⟩
theorem sumB_c {a c : Nat} (ha : 0 < a) : sumB a c c = true := (sumB_iff ha).2 ⟨0, 1, by omega⟩
theorem sumB_rec {a c : Nat} (ha : 0 < a) {i : Nat} (hi : 0 < i) : sumB a c i = ((decide (a ≤ i) && sumB a c (i - a)) || (decide (c ≤ i) && sumB a c (i - c))) := by
 rw [Bool.eq_iff_iff]
 simp only [Bool.or_eq_true, Bool.and_eq_true, decide_eq_true_eq]
 constructor
 ·intro h
  obtain ⟨u, v, h⟩ := (sumB_iff ha).1 h
  cases u with
  | succ u =>
   rw [Nat.add_mul, Nat.one_mul] at h
   exact .inl ⟨by omega, (sumB_iff ha).2 ⟨u, v, by omega⟩⟩
  | zero =>
   cases v with
   | zero => omega
   | succ v =>
    rw [Nat.add_mul v, Nat.one_mul] at h
    exact .inr ⟨by omega, (sumB_iff ha).2 ⟨0, v, by omega⟩⟩
 ·rintro (⟨h1, h2⟩ | ⟨h1, h2⟩)
  ·have := sumB_add ha h2 (sumB_a (c := c) ha)
   rwa [Nat.sub_add_cancel h1] at this
  ·have := sumB_add ha h2 (sumB_c (c := c) ha)
   rwa [Nat.sub_add_cancel h1] at this
def rchF (a c : Nat) : Nat → Nat
 | 0 => 0
 | n + 1 => if sumB a c (n + 1) then n + 1 else rchF a c n
theorem rch_le (a c : Nat) : ∀ n, rchF a c n ≤ n
 | 0 => Nat.le_refl _
 | n + 1 => by
  have := rch_le a c n
  rw [rchF]
  split <;> omega
theorem rch_sum (a c : Nat) : ∀ n, sumB a c (rchF a c n) = true
 | 0 => sumB_zero a c
 | n + 1 => by
  rw [rchF]
  split
  ·assumption
  ·exact rch_sum a c n
theorem rch_max {a c m : Nat} : ∀ {n : Nat}, m ≤ n → sumB a c m = true → m ≤ rchF a c n
 | 0, h, _ => by omega
 | n + 1, h, hm => by
  rw [rchF]
  by_cases e : m = n + 1
  ·subst e; rw [if_pos hm]; omega
  ·split
   ·omega
   ·exact rch_max (by omega) hm
theorem rch_eq {a c n : Nat} (h : sumB a c n = true) : rchF a c n = n := Nat.le_antisymm (rch_le a c n) (rch_max (Nat.le_refl _) h)
theorem rch_idem (a c n : Nat) : rchF a c (rchF a c n) = rchF a c n := rch_eq (rch_sum a c n)
end Go.Dw.Seat.Pa
end
section
set_option linter.unusedSimpArgs false
set_option maxRecDepth 100000
namespace Go.Dw.Seat.Pa
open Go Go.Dw Go.IntWalk
def fitB (a c x y : Nat) : Bool := (decide (a ≤ x) && decide (c ≤ y)) || (decide (c ≤ x) && decide (a ≤ y))
def lnX (a c x : Nat) : List Nat := (List.range (x / 2)).filterMap fun t => if sumB a c (t + 1) then some (t + 1) else none
abbrev Ln := Bool × Nat
def lnsF (a c x y : Nat) : List Ln := (lnX a c x).map (fun t => (false, t)) ++ (lnX a c y).map (fun t => (true, t))
def oneF (x y : Nat) (l : Ln) : Nat × Nat := if l.1 then (x, l.2) else (l.2, y)
def twoF (x y : Nat) (l : Ln) : Nat × Nat := if l.1 then (x, y - l.2) else (x - l.2, y)
structure Cut where
 n : Nat
 ln : Option Ln
def stepC (g : Nat → Nat → Nat) (x y : Nat) (b : Cut) (l : Ln) : Cut :=
 if b.n < g (oneF x y l).1 (oneF x y l).2 + g (twoF x y l).1 (twoF x y l).2 then ⟨g (oneF x y l).1 (oneF x y l).2 + g (twoF x y l).1 (twoF x y l).2, some l⟩ else b
def cutF (a c : Nat) : Nat → Nat → Nat → Cut
 | 0, _, _ => ⟨0, none⟩
 | f + 1, x, y => if fitB a c (rchF a c x) (rchF a c y) then (lnsF a c (rchF a c x) (rchF a c y)).foldl (stepC (fun u v => (cutF a c f u v).n) (rchF a c x) (rchF a c y)) ⟨1, none⟩ else ⟨0, none⟩
theorem lnX_mem {a c x t : Nat} : t ∈ lnX a c x ↔ 1 ≤ t ∧ 2 * t ≤ x ∧ sumB a c t = true := by
 unfold lnX
 rw [List.mem_filterMap]
 constructor
 ·rintro ⟨u, hu, h⟩
  have hu := List.mem_range.1 hu
  split at h
  ·cases h
   rename_i h1
   exact ⟨by omega, by omega, h1⟩
  ·cases h
 ·rintro ⟨h1, h2, h3⟩
  refine ⟨t - 1, List.mem_range.2 (by omega), ?_⟩
  rw [Nat.sub_add_cancel h1, if_pos h3]
structure IsLn (a c x y : Nat) (l : Ln) : Prop where
 pos : 1 ≤ l.2
 half : 2 * l.2 ≤ (if l.1 then y else x)
 sum : sumB a c l.2 = true
theorem lns_mem {a c x y : Nat} {l : Ln} : l ∈ lnsF a c x y ↔ IsLn a c x y l := by
 obtain ⟨s, t⟩ := l
 unfold lnsF
 rw [List.mem_append, List.mem_map, List.mem_map]
 constructor
 ·rintro (⟨u, hu, h⟩ | ⟨u, hu, h⟩) <;> cases h <;> obtain ⟨h1, h2, h3⟩ := lnX_mem.1 hu
  ·exact ⟨h1, h2, h3⟩
  ·exact ⟨h1, h2, h3⟩
 ·rintro ⟨h1, h2, h3⟩
  cases s
  ·exact .inl ⟨t, lnX_mem.2 ⟨h1, h2, h3⟩, rfl⟩
  ·exact .inr ⟨t, lnX_mem.2 ⟨h1, h2, h3⟩, rfl⟩
theorem ln_less {a c x y : Nat} {l : Ln} (h : IsLn a c x y l) : (oneF x y l).1 + (oneF x y l).2 < x + y ∧ (twoF x y l).1 + (twoF x y l).2 < x + y := by
 obtain ⟨s, t⟩ := l
 have h1 := h.pos
 have h2 := h.half
 cases s <;> simp [oneF, twoF] at h1 h2 ⊢ <;> omega
theorem foldC_congr {g g' : Nat → Nat → Nat} {a c x y : Nat} : ∀ (ls : List Ln) (b : Cut), (∀ l ∈ ls, IsLn a c x y l) → (∀ u v, u + v < x + y → g u v = g' u v) → ls.foldl (stepC g x y) b = ls.foldl (stepC g' x y) b
 | [], _, _, _ => rfl
 | l :: ls, b, h, hg => by
  have hl := ln_less (h l (by simp))
  rw [List.foldl_cons, List.foldl_cons, stepC, hg _ _ hl.1, hg _ _ hl.2]
  exact foldC_congr ls _ (fun t ht => h t (by simp [ht])) hg
theorem cut_fuel (a c : Nat) : ∀ (f f' x y : Nat), x + y < f → x + y < f' → cutF a c f x y = cutF a c f' x y
 | 0, _, _, _, h, _ => by omega
 | _, 0, _, _, _, h => by omega
 | f + 1, f' + 1, x, y, h, h' => by
  rw [cutF, cutF]
  have h1 := rch_le a c x
  have h2 := rch_le a c y
  rw [foldC_congr (a := a) (c := c) (lnsF a c (rchF a c x) (rchF a c y)) ⟨1, none⟩ (fun l hl => lns_mem.1 hl) (g' := fun u v => (cutF a c f' u v).n) (fun u v huv => by rw [cut_fuel a c f f' u v (by omega) (by omega)])]
def cutI (a c x y : Nat) : Cut := cutF a c (x + y + 1) x y
def mst (a c x y : Nat) : Nat := (cutI a c x y).n
theorem cutI_eq (a c x y : Nat) : cutI a c x y = if fitB a c (rchF a c x) (rchF a c y) then (lnsF a c (rchF a c x) (rchF a c y)).foldl (stepC (mst a c) (rchF a c x) (rchF a c y)) ⟨1, none⟩ else ⟨0, none⟩ := by
 have h1 := rch_le a c x
 have h2 := rch_le a c y
 rw [cutI, cutF, foldC_congr (a := a) (c := c) (lnsF a c (rchF a c x) (rchF a c y)) ⟨1, none⟩ (fun l hl => lns_mem.1 hl) (g' := mst a c) (fun u v huv => by rw [mst, cutI, cut_fuel a c (x + y) (u + v + 1) u v (by omega) (by omega)])]
theorem cutI_rch (a c x y : Nat) : cutI a c (rchF a c x) (rchF a c y) = cutI a c x y := by rw [cutI_eq, rch_idem, rch_idem, ← cutI_eq]
def okC (g : Nat → Nat → Nat) (a c x y : Nat) (b : Cut) : Prop := match b.ln with
 | none => b.n ≤ 1
 | some l => IsLn a c x y l ∧ b.n = g (oneF x y l).1 (oneF x y l).2 + g (twoF x y l).1 (twoF x y l).2
theorem fold_ok {g : Nat → Nat → Nat} {a c x y : Nat} : ∀ (ls : List Ln) (b : Cut), (∀ l ∈ ls, IsLn a c x y l) → okC g a c x y b → okC g a c x y (ls.foldl (stepC g x y) b) ∧ b.n ≤ (ls.foldl (stepC g x y) b).n ∧ ((ls.foldl (stepC g x y) b).ln = none → (ls.foldl (stepC g x y) b) = b) ∧ ∀ l ∈ ls, g (oneF x y l).1 (oneF x y l).2 + g (twoF x y l).1 (twoF x y l).2 ≤ (ls.foldl (stepC g x y) b).n
 | [], b, _, h => ⟨h, Nat.le_refl _, fun _ => rfl, fun l hl => by cases hl⟩
 | l :: ls, b, h, hb => by
  have hl := h l (by simp)
  rw [List.foldl_cons]
  by_cases hc : b.n < g (oneF x y l).1 (oneF x y l).2 + g (twoF x y l).1 (twoF x y l).2
  ·have e : stepC g x y b l = ⟨g (oneF x y l).1 (oneF x y l).2 + g (twoF x y l).1 (twoF x y l).2, some l⟩ := if_pos hc
   rw [e]
   obtain ⟨h1, h2, h3, h4⟩ := fold_ok ls ⟨g (oneF x y l).1 (oneF x y l).2 + g (twoF x y l).1 (twoF x y l).2, some l⟩ (fun t ht => h t (by simp [ht])) ⟨hl, rfl⟩
   refine ⟨h1, by dsimp only at h2; omega, fun hn => ?_, fun t ht => ?_⟩
   ·have := h3 hn
    rw [this] at hn; cases hn
   ·rcases List.mem_cons.1 ht with rfl | ht
    ·exact h2
    ·exact h4 t ht
  ·have e : stepC g x y b l = b := if_neg hc
   rw [e]
   obtain ⟨h1, h2, h3, h4⟩ := fold_ok ls b (fun t ht => h t (by simp [ht])) hb
   refine ⟨h1, h2, h3, fun t ht => ?_⟩
   rcases List.mem_cons.1 ht with rfl | ht
   ·omega
   ·exact h4 t ht
inductive CutOk (a c x y : Nat) : Prop where
 | no : fitB a c (rchF a c x) (rchF a c y) = false → cutI a c x y = ⟨0, none⟩ → CutOk a c x y
 | one : fitB a c (rchF a c x) (rchF a c y) = true → cutI a c x y = ⟨1, none⟩ → CutOk a c x y
 | two (l : Ln) : fitB a c (rchF a c x) (rchF a c y) = true → (cutI a c x y).ln = some l → IsLn a c (rchF a c x) (rchF a c y) l → 1 ≤ mst a c x y → mst a c x y = mst a c (oneF (rchF a c x) (rchF a c y) l).1 (oneF (rchF a c x) (rchF a c y) l).2 + mst a c (twoF (rchF a c x) (rchF a c y) l).1 (twoF (rchF a c x) (rchF a c y) l).2 → CutOk a c x y
theorem cut_ok (a c x y : Nat) : CutOk a c x y := by
 have h := cutI_eq a c x y
 cases hf : fitB a c (rchF a c x) (rchF a c y) with
 | false => rw [hf, if_neg Bool.false_ne_true] at h; exact .no hf h
 | true =>
  rw [hf, if_pos rfl] at h
  obtain ⟨h1, h2, h3, _⟩ := fold_ok (g := mst a c) (lnsF a c (rchF a c x) (rchF a c y)) ⟨1, none⟩ (fun l hl => lns_mem.1 hl) (show okC (mst a c) a c _ _ ⟨1, none⟩ from Nat.le_refl _)
  rw [← h] at h1 h2 h3
  cases hn : (cutI a c x y).ln with
  | none => exact .one hf (h3 hn)
  | some l =>
   unfold okC at h1
   rw [hn] at h1
   exact .two l hf hn h1.1 h2 h1.2
theorem mst_no {a c x y : Nat} (h : fitB a c (rchF a c x) (rchF a c y) = false) : mst a c x y = 0 := by
 rw [mst, cutI_eq, h, if_neg Bool.false_ne_true]
theorem mst_area {a c : Nat} : ∀ (n x y : Nat), x + y < n → mst a c x y * (a * c) ≤ rchF a c x * rchF a c y
 | 0, _, _, h => by omega
 | n + 1, x, y, h => by
  have l1 := rch_le a c x
  have l2 := rch_le a c y
  cases cut_ok a c x y with
  | no h0 e => rw [mst_no h0, Nat.zero_mul]; omega
  | one h0 e =>
   have e1 : mst a c x y = 1 := by rw [mst, e]
   rw [e1, Nat.one_mul]
   simp only [fitB, Bool.or_eq_true, Bool.and_eq_true, decide_eq_true_eq] at h0
   rcases h0 with h0 | h0
   ·exact Nat.mul_le_mul h0.1 h0.2
   ·rw [Nat.mul_comm a]; exact Nat.mul_le_mul h0.1 h0.2
  | two l h0 e hl h1' e2 =>
   have hls := ln_less hl
   rw [e2, Nat.add_mul]
   have i1 := mst_area (a := a) (c := c) n (oneF (rchF a c x) (rchF a c y) l).1 (oneF (rchF a c x) (rchF a c y) l).2 (by omega)
   have i2 := mst_area (a := a) (c := c) n (twoF (rchF a c x) (rchF a c y) l).1 (twoF (rchF a c x) (rchF a c y) l).2 (by omega)
   have j1 := Nat.mul_le_mul (rch_le a c (oneF (rchF a c x) (rchF a c y) l).1) (rch_le a c (oneF (rchF a c x) (rchF a c y) l).2)
   have j2 := Nat.mul_le_mul (rch_le a c (twoF (rchF a c x) (rchF a c y) l).1) (rch_le a c (twoF (rchF a c x) (rchF a c y) l).2)
   refine Nat.le_trans (Nat.add_le_add (Nat.le_trans i1 j1) (Nat.le_trans i2 j2)) ?_
   obtain ⟨d, v⟩ := l
   have hh := hl.half
   cases d
   ·simp only [oneF, twoF, Bool.false_eq_true, if_false] at hh ⊢
    rw [← Nat.add_mul, Nat.add_sub_cancel' (by omega)]; exact Nat.le_refl _
   ·simp only [oneF, twoF, if_true] at hh ⊢
    rw [← Nat.mul_add, Nat.add_sub_cancel' (by omega)]; exact Nat.le_refl _
def bndF (a c x y : Nat) : Nat := rchF a c x * rchF a c y / (a * c)
theorem mst_bnd {a c : Nat} (ha : 0 < a) (hc : 0 < c) (x y : Nat) : mst a c x y ≤ bndF a c x y := (Nat.le_div_iff_mul_le (Nat.mul_pos ha hc)).2 (mst_area (x + y + 1) x y (by omega))
end Go.Dw.Seat.Pa
end
section
set_option linter.unusedSimpArgs false
set_option maxRecDepth 100000
namespace Go.Dw.Seat.Pa
open Go Go.Dw Go.IntWalk
structure PBs where
 lg : Int
 wd : Int
 hi : Int
 ov : Int
 top : Int
 load : Int
structure PBx where
 lg : Int
 wd : Int
 hi : Int
 wl : Int
 wh : Int
 sl : Int
 sh : Int
structure PPl where
 x : Int
 y : Int
 t : Bool
deriving DecidableEq
structure PBs.ok (p : PBs) : Prop where
 lg : 1 ≤ p.lg ∧ p.lg ≤ 120
 wd : 1 ≤ p.wd ∧ p.wd ≤ 120
 hi : 0 ≤ p.hi ∧ p.hi ≤ 400
 top : 0 ≤ p.top ∧ p.top ≤ 400
 ov : 0 ≤ p.ov ∧ p.ov ≤ 10
 load : 0 ≤ p.load ∧ p.load ≤ 5000000
structure PBx.ok (b : PBx) : Prop where
 lg : 10 ≤ b.lg ∧ b.lg ≤ 100
 wd : 10 ≤ b.wd ∧ b.wd ≤ 100
 hi : 10 ≤ b.hi ∧ b.hi ≤ 100
 w : 0 ≤ b.wl ∧ b.wl ≤ b.wh ∧ b.wh ≤ 5000000
 s : 0 ≤ b.sl ∧ b.sl ≤ b.sh ∧ b.sh ≤ 20000000
def rmX (p : PBs) : Int := p.lg + 2 * p.ov
def rmY (p : PBs) : Int := p.wd + 2 * p.ov
def sdX (b : PBx) (q : PPl) : Int := if q.t then b.wd else b.lg
def sdY (b : PBx) (q : PPl) : Int := if q.t then b.lg else b.wd
def ovI (x a y c : Int) : Int := max 0 (min (x + a) (y + c) - max x y)
def comI (b : PBx) (q r : PPl) : Int := ovI q.x (sdX b q) r.x (sdX b r) * ovI q.y (sdY b q) r.y (sdY b r)
structure Lies (p : PBs) (b : PBx) (l : List PPl) : Prop where
 inn : ∀ q ∈ l, q.x + sdX b q ≤ rmX p ∧ q.y + sdY b q ≤ rmY p
 off : l.Pairwise fun q r => comI b r q ≤ 0
end Go.Dw.Seat.Pa
end
section
set_option linter.unusedSimpArgs false
set_option maxRecDepth 100000
namespace Go.Dw.Seat.Pa
open Go Go.Dw Go.Proofs Go.IntWalk
abbrev bsD (p : PBs) : D := .agg [dI p.lg, dI p.wd, dI p.hi, dI p.ov, dI p.top, dI p.load]
abbrev bxD (b : PBx) : D := .agg [dI b.lg, dI b.wd, dI b.hi, dI b.wl, dI b.wh, dI b.sl, dI b.sh]
abbrev bedD (p : PBs) (b : PBx) : D := .agg [dI p.lg, dI p.wd, dI p.hi, dI p.ov, dI p.top, dI p.load, dI b.lg, dI b.wd, dI b.hi, dI b.wl, dI b.wh, dI b.sl, dI b.sh]
def eP (q : PPl) : List C := [.v (.int .i64 q.x), .v (.int .i64 q.y), .v (.bool q.t)]
attribute [go_sem] eP
def baseB (p : PBs) : Bool := ((wthn 1 120 [p.lg, p.wd] && wthn 0 400 [p.hi, p.top]) && wthn 0 10 [p.ov]) && wthn 0 5000000 [p.load]
def boxB (b : PBx) : Bool := (wthn 10 100 [b.lg, b.wd, b.hi] && spanOk b.wl b.wh 0 5000000) && spanOk b.sl b.sh 0 20000000
def chkE (p : PBs) (b : PBx) : Int := if baseB p && boxB b then 0 else 2
theorem baseB_iff {p : PBs} : baseB p = true ↔ p.ok := by
 simp only [baseB, Bool.and_eq_true, wthn_iff, List.mem_cons, List.not_mem_nil, or_false, forall_eq_or_imp, forall_eq]
 constructor
 ·rintro ⟨⟨⟨h1, h2⟩, h3⟩, h4⟩; exact ⟨h1.1, h1.2, h2.1, h2.2, h3, h4⟩
 ·rintro ⟨h1, h2, h3, h4, h5, h6⟩; exact ⟨⟨⟨⟨h1, h2⟩, h3, h4⟩, h5⟩, h6⟩
theorem boxB_iff {b : PBx} : boxB b = true ↔ b.ok := by
 simp only [boxB, Bool.and_eq_true, wthn_iff, spanOk_iff, List.mem_cons, List.not_mem_nil, or_false, forall_eq_or_imp, forall_eq]
 constructor
 ·rintro ⟨⟨h1, h2⟩, h3⟩; exact ⟨h1.1, h1.2.1, h1.2.2, h2, h3⟩
 ·rintro ⟨h1, h2, h3, h4, h5⟩; exact ⟨⟨⟨h1, h2, h3⟩, h4⟩, h5⟩
theorem chk_ok {p : PBs} {b : PBx} : chkE p b = 0 ↔ p.ok ∧ b.ok := by
 unfold chkE
 rw [← baseB_iff, ← boxB_iff, ← Bool.and_eq_true]
 split <;> simp_all
theorem chk_two {p : PBs} {b : PBx} (h : chkE p b ≠ 0) : chkE p b = 2 := by
 unfold chkE at h ⊢
 split at h <;> simp_all
set_option maxHeartbeats 1000000 in
theorem plCheck (p : PBs) (b : PBx) : DCall Try.prog 77 [bsD p, bxD b] [] (dI (chkE p b)) [] := by
 have h1 := plWithin true 1 120 [p.lg, p.wd] (by simp)
 have h2 := plWithin true 0 400 [p.hi, p.top] (by simp)
 have h3 := plWithin true 0 10 [p.ov] (by simp)
 have h4 := plWithin true 0 5000000 [p.load] (by simp)
 have h5 := plWithin true 10 100 [b.lg, b.wd, b.hi] (by simp)
 have h6 := plSpan b.wl b.wh 0 5000000
 have h7 := plSpan b.sl b.sh 0 20000000
 unfold chkE baseB boxB
 generalize wthn 1 120 [p.lg, p.wd] = w1 at *
 generalize wthn 0 400 [p.hi, p.top] = w2 at *
 generalize wthn 0 10 [p.ov] = w3 at *
 generalize wthn 0 5000000 [p.load] = w4 at *
 generalize wthn 10 100 [b.lg, b.wd, b.hi] = w5 at *
 generalize spanOk b.wl b.wh 0 5000000 = w6 at *
 generalize spanOk b.sl b.sh 0 20000000 = w7 at *
 refine DCall.of Try.func77 sf77 hb77 (Nat.le_of_ble_eq_true rfl) (okRes_nil fun _ => rfl) ?_; simp only [s77, idxs, Nat.reduceAdd]
 repeat' (first|(with_reducible first|apply qA|apply qB|apply qC|apply qD|apply qE|apply qF)|(simp (disch:=omega) only [go_sem, simprocAttr, Blk.men, Blk.keysIn])|exact qM rfl rfl rfl|(refine qG rfl ?_)|(refine qK (h1) (by decide) ?_)|(refine qK (h2) (by decide) ?_)|(refine qK (h3) (by decide) ?_)|(refine qK (h4) (by decide) ?_)|(refine qK (h5) (by decide) ?_)|(refine qK (h6) (by decide) ?_)|(refine qK (h7) (by decide) ?_)|(refine qH rfl ?_)|(refine qI rfl ?_ ?_<;>intro hc<;>(try simp only [go_sem] at hc))|(refine qJ ?_ ?_<;>intro hc<;>(try simp only [hc])<;>(try simp only [go_sem] at hc)))
 all_goals (subst_vars; first | exact retS_of rfl rfl rfl | (cases w7 <;> first | contradiction | exact retS_of rfl rfl rfl))
abbrev szB (b : PBx) : Blk := .map [.bool false, .bool true] [.agg [dI b.lg, dI b.wd], .agg [dI b.wd, dI b.lg]]
theorem plSizes (b : PBx) (k : Nat) : DCall Try.prog 151 [bxD b] [] (.hd k) [(k, szB b)] := by
 refine DCall.renameM rfl (k0 := 3) ?_ k
 refine DCall.of Try.func151 sf151 hb151 (Nat.le_of_ble_eq_true rfl) (okRes_map rfl) ?_
 simp only [s151, idxs, Nat.reduceAdd]
 repeat' (first|(with_reducible first|apply qA|apply qB|apply qC|apply qD|apply qE|apply qF)|(simp (disch:=omega) only [go_sem, simprocAttr, Blk.men, Blk.keysIn, s_insert, updK, findL, keyEq, keysOK, KK.is, List.all_nil, List.all_cons, lookIn, commaD])|exact qM rfl rfl rfl|(refine qG rfl ?_)|(refine qH rfl ?_)|(refine qI rfl ?_ ?_<;>intro hc<;>(try simp only [go_sem] at hc))|(refine qJ ?_ ?_<;>intro hc<;>(try simp only [hc])<;>(try simp only [go_sem] at hc)))
 refine retS_bs rfl rfl rfl (get_all (p := fun k x => get k _ = some x ∧ x.nb = true) ?_)
 intro q hq
 simp only [List.mem_cons, Prod.mk.injEq, List.not_mem_nil, or_false] at hq
 obtain ⟨rfl, rfl⟩ := hq
 exact ⟨rfl, rfl⟩
theorem plRoom (p : PBs) (b : PBx) (hp : p.ok) : DCall Try.prog 80 [bedD p b] [] (.agg [dI (rmX p), dI (rmY p)]) [] := by
 have := hp.lg
 have := hp.wd
 have := hp.ov
 unfold rmX rmY
 refine DCall.of Try.func80 sf80 hb80 (Nat.le_of_ble_eq_true rfl) (okRes_nil fun _ => rfl) ?_; simp only [s80, idxs, Nat.reduceAdd]
 repeat' (first|(with_reducible first|apply qA|apply qB|apply qC|apply qD|apply qE|apply qF)|(simp (disch:=omega) only [go_sem, simprocAttr, Blk.men, Blk.keysIn])|exact qM rfl rfl rfl|(refine qG rfl ?_)|(refine qH rfl ?_)|(refine qI rfl ?_ ?_<;>intro hc<;>(try simp only [go_sem] at hc))|(refine qJ ?_ ?_<;>intro hc<;>(try simp only [hc])<;>(try simp only [go_sem] at hc)))
def eA (b : PBx) (q : PPl) : List C := [.v (.int .i64 q.x), .v (.int .i64 q.y), .v (.int .i64 (q.x + sdX b q)), .v (.int .i64 (q.y + sdY b q))]
attribute [go_sem] eA
theorem min_if (a b : Int) : (if b < a then b else a) = min a b := by split <;> omega
theorem max_if (a b : Int) : (if a < b then b else a) = max a b := by split <;> omega
end Go.Dw.Seat.Pa
end
section
set_option linter.unusedSimpArgs false
set_option maxRecDepth 100000
namespace Go.Dw.Seat.Pa
open Go Go.Dw Go.IntWalk
structure PLy where
 lg : Int
 fr : Int
 bk : Int
 fm : Int
 bm : Int
structure PIt where
 lg : Int
 wl : Int
 wh : Int
structure PLy.ok (l : PLy) : Prop where
 lg : 1 ≤ l.lg ∧ l.lg ≤ 2000
 ax : (0 ≤ l.fr ∧ l.fr < l.bk) ∧ l.bk ≤ l.lg
 fm : 0 ≤ l.fm ∧ l.fm ≤ 40000000
 bm : 0 ≤ l.bm ∧ l.bm ≤ 40000000
structure PIt.ok (x : PIt) : Prop where
 lg : 1 ≤ x.lg ∧ x.lg ≤ 2000
 w : 0 ≤ x.wl ∧ x.wl ≤ x.wh ∧ x.wh ≤ 5000000
def lgI : List PIt → Int
 | [] => 0
 | x :: t => x.lg + lgI t
def sumM (g : Int → PIt → Int) : Int → List PIt → Int
 | _, [] => 0
 | at', x :: t => g (2 * at' + x.lg) x + sumM g (at' + x.lg) t
def cF (l : PLy) (m : Int) : Int := 2 * l.bk - m
def cB (l : PLy) (m : Int) : Int := m - 2 * l.fr
def loW (x : PIt) (c : Int) : Int := min (x.wl * c) (x.wh * c)
def hiW (x : PIt) (c : Int) : Int := max (x.wl * c) (x.wh * c)
structure Prt where
 fl : Int
 fh : Int
 bl : Int
 bh : Int
def prtF (l : PLy) (q : List PIt) : Prt := ⟨sumM (fun m x => loW x (cF l m)) 0 q, sumM (fun m x => hiW x (cF l m)) 0 q, sumM (fun m x => loW x (cB l m)) 0 q, sumM (fun m x => hiW x (cB l m)) 0 q⟩
def bearB (l : PLy) (q : List PIt) : Bool := (decide (0 ≤ (prtF l q).fl) && decide (0 ≤ (prtF l q).bl)) && (decide ((prtF l q).fh ≤ l.fm * (2 * (l.bk - l.fr))) && decide ((prtF l q).bh ≤ l.bm * (2 * (l.bk - l.fr))))
def sumR (c : Int → Int) : Int → List PIt → List Int → Int
 | at', x :: t, w :: ws => w * c (2 * at' + x.lg) + sumR c (at' + x.lg) t ws
 | _, _, _ => 0
theorem mul_between {w lo hi c : Int} (h : lo ≤ w ∧ w ≤ hi) : min (lo * c) (hi * c) ≤ w * c ∧ w * c ≤ max (lo * c) (hi * c) := by
 rcases Int.le_total 0 c with hc | hc
 ·have h1 := Int.mul_le_mul_of_nonneg_right h.1 hc
  have h2 := Int.mul_le_mul_of_nonneg_right h.2 hc
  omega
 ·have h1 := Int.mul_le_mul_of_nonpos_right h.1 hc
  have h2 := Int.mul_le_mul_of_nonpos_right h.2 hc
  omega
theorem sumR_between (c : Int → Int) : ∀ {q : List PIt} {ws : List Int} {at' : Int}, ws.length = q.length → (∀ (i : Nat) x w, q[i]? = some x → ws[i]? = some w → x.wl ≤ w ∧ w ≤ x.wh) → sumM (fun m x => loW x (c m)) at' q ≤ sumR c at' q ws ∧ sumR c at' q ws ≤ sumM (fun m x => hiW x (c m)) at' q
 | [], [], at', _, _ => by simp [sumM, sumR]
 | [], _ :: _, _, h, _ => by simp at h
 | _ :: _, [], _, h, _ => by simp at h
 | x :: q, w :: ws, at', h, hw => by
  have ih := sumR_between c (q := q) (ws := ws) (at' := at' + x.lg) (by simpa using h) (fun i y v h1 h2 => hw (i + 1) y v h1 h2)
  have h0 := mul_between (c := c (2 * at' + x.lg)) (hw 0 x w rfl rfl)
  simp only [sumM, sumR, loW, hiW] at ih ⊢
  omega
theorem sumM_snoc (g : Int → PIt → Int) : ∀ (q : List PIt) (at' : Int) (x : PIt), sumM g at' (q ++ [x]) = sumM g at' q + g (2 * (at' + lgI q) + x.lg) x
 | [], at', x => by simp [sumM, lgI]
 | y :: q, at', x => by rw [List.cons_append, sumM, sumM_snoc g q, sumM, lgI, Int.add_assoc, Int.add_assoc]
theorem lgI_snoc : ∀ (q : List PIt) (x : PIt), lgI (q ++ [x]) = lgI q + x.lg
 | [], x => by simp [lgI]
 | y :: q, x => by rw [List.cons_append, lgI, lgI_snoc q, lgI]; omega
theorem lgI_nn : ∀ {q : List PIt}, (∀ x ∈ q, x.ok) → 0 ≤ lgI q ∧ lgI q ≤ 2000 * (q.length : Int)
 | [], _ => by simp [lgI]
 | x :: q, h => by
  have := lgI_nn (q := q) (fun y hy => h y (by simp [hy]))
  have := (h x (by simp)).lg
  rw [lgI, List.length_cons]; omega
theorem floor_eq {n y : Int} (hy : 0 < y) : Int.tdiv (n - Int.tmod (Int.tmod n y + y) y) y = n / y := by
 have e1 : Int.tmod (Int.tmod n y + y) y = n % y := by
  have hlt := Int.tmod_lt_of_pos n hy
  have hgt : -y < Int.tmod n y := by
   rcases Int.le_total 0 n with h | h
   ·have := Int.tmod_nonneg y h; omega
   ·have h2 := Int.tmod_lt_of_pos (-n) hy
    rw [Int.neg_tmod] at h2; omega
  rw [Int.tmod_eq_emod_of_nonneg (by omega), Int.add_emod_right]
  have hd := Int.tmod_add_mul_tdiv n y
  rw [show Int.tmod n y = n - y * Int.tdiv n y by omega, Int.sub_mul_emod_self_left]
 rw [e1]
 have h2 := Int.mul_ediv_add_emod n y
 have : n - n % y = y * (n / y) := by omega
 rw [this, Int.mul_tdiv_cancel_left _ (by omega)]
end Go.Dw.Seat.Pa
end
