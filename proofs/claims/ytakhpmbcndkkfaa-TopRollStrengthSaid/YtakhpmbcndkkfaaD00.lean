/- Helpers of a proof. -/
import Derived.Test.YtakhpmbcndkkfaaW46
import Derived.Test.YtakhpmbcndkkfaaProg
set_option linter.unusedVariables false
set_option linter.unusedSimpArgs false
section
namespace Go.Dw.Seat
open Go Go.Dw Go.Proofs
instance laysI : Lays := ⟨[]⟩
theorem laid0 (W : World) : LaidA (fun _ => False) W := fun _ hp => nomatch hp
theorem el0 : elemI Try.prog 0 = none := by kernel_rfl
theorem ty1 : tyI Try.prog 1 = some ⟨false, 1, [.nilFunc], 8⟩ := by kernel_rfl
theorem el1 : elemI Try.prog 1 = none := by kernel_rfl
theorem ty2 : tyI Try.prog 2 = some ⟨false, 1, [(.int .i64 0)], 8⟩ := by kernel_rfl
theorem el2 : elemI Try.prog 2 = none := by kernel_rfl
theorem it2 : intI Try.prog 2 = some .i64 := by kernel_rfl
theorem ty3 : tyI Try.prog 3 = some ⟨false, 1, [(.int .i64 0)], 8⟩ := by kernel_rfl
theorem el3 : elemI Try.prog 3 = none := by kernel_rfl
theorem it3 : intI Try.prog 3 = some .i64 := by kernel_rfl
theorem ty4 : tyI Try.prog 4 = some ⟨false, 1, [(.bool false)], 1⟩ := by kernel_rfl
theorem el4 : elemI Try.prog 4 = none := by kernel_rfl
theorem bl4 : blI Try.prog 4 = true := by kernel_rfl
theorem ty5 : tyI Try.prog 5 = some ⟨false, 1, [(.int .u8 0)], 1⟩ := by kernel_rfl
theorem el5 : elemI Try.prog 5 = none := by kernel_rfl
theorem it5 : intI Try.prog 5 = some .u8 := by kernel_rfl
theorem ty6 : tyI Try.prog 6 = some ⟨false, 1, [(.int .u8 0)], 1⟩ := by kernel_rfl
theorem el6 : elemI Try.prog 6 = none := by kernel_rfl
theorem it6 : intI Try.prog 6 = some .u8 := by kernel_rfl
theorem ty7 : tyI Try.prog 7 = some ⟨true, 4, [(.int .i64 0), (.int .i64 0), (.bool false), (.int .u8 0)], 24⟩ := by kernel_rfl
theorem el7 : elemI Try.prog 7 = none := by kernel_rfl
theorem eq7 : eqTy Try.prog 7 = some (.st [(0, 1, .it), (1, 1, .it), (2, 1, .bl), (3, 1, .it)]) := by kernel_rfl
theorem pl7 : placesI Try.prog 7 = some [(0, 1), (1, 1), (2, 1), (3, 1)] := by kernel_rfl
theorem fi7_0 : fieldI Try.prog 7 0 = some (0, 1, false) := by kernel_rfl
theorem fi7_1 : fieldI Try.prog 7 1 = some (1, 1, false) := by kernel_rfl
theorem fi7_2 : fieldI Try.prog 7 2 = some (2, 1, false) := by kernel_rfl
theorem fi7_3 : fieldI Try.prog 7 3 = some (3, 1, false) := by kernel_rfl
theorem ty8 : tyI Try.prog 8 = some ⟨true, 4, [(.int .i64 0), (.int .i64 0), (.bool false), (.int .u8 0)], 24⟩ := by kernel_rfl
theorem el8 : elemI Try.prog 8 = none := by kernel_rfl
theorem eq8 : eqTy Try.prog 8 = some (.st [(0, 1, .it), (1, 1, .it), (2, 1, .bl), (3, 1, .it)]) := by kernel_rfl
theorem pl8 : placesI Try.prog 8 = some [(0, 1), (1, 1), (2, 1), (3, 1)] := by kernel_rfl
theorem fi8_0 : fieldI Try.prog 8 0 = some (0, 1, false) := by kernel_rfl
theorem fi8_1 : fieldI Try.prog 8 1 = some (1, 1, false) := by kernel_rfl
theorem fi8_2 : fieldI Try.prog 8 2 = some (2, 1, false) := by kernel_rfl
theorem fi8_3 : fieldI Try.prog 8 3 = some (3, 1, false) := by kernel_rfl
theorem ty9 : tyI Try.prog 9 = some ⟨false, 1, [(.string ⟨#[]⟩)], 16⟩ := by kernel_rfl
theorem el9 : elemI Try.prog 9 = none := by kernel_rfl
theorem ty10 : tyI Try.prog 10 = some ⟨false, 1, [(.string ⟨#[]⟩)], 16⟩ := by kernel_rfl
theorem el10 : elemI Try.prog 10 = none := by kernel_rfl
theorem ty11 : tyI Try.prog 11 = some ⟨false, 1, [(.string ⟨#[]⟩)], 16⟩ := by kernel_rfl
theorem el11 : elemI Try.prog 11 = none := by kernel_rfl
theorem ty12 : tyI Try.prog 12 = some ⟨false, 1, [(.int .u64 0)], 8⟩ := by kernel_rfl
theorem el12 : elemI Try.prog 12 = none := by kernel_rfl
theorem it12 : intI Try.prog 12 = some .u64 := by kernel_rfl
theorem ty13 : tyI Try.prog 13 = some ⟨true, 2, [(.string ⟨#[]⟩), (.int .u64 0)], 24⟩ := by kernel_rfl
theorem el13 : elemI Try.prog 13 = none := by kernel_rfl
theorem pl13 : placesI Try.prog 13 = some [(0, 1), (1, 1)] := by kernel_rfl
theorem fi13_0 : fieldI Try.prog 13 0 = some (0, 1, false) := by kernel_rfl
theorem fi13_1 : fieldI Try.prog 13 1 = some (1, 1, false) := by kernel_rfl
theorem ty14 : tyI Try.prog 14 = some ⟨true, 2, [(.string ⟨#[]⟩), (.int .u64 0)], 24⟩ := by kernel_rfl
theorem el14 : elemI Try.prog 14 = none := by kernel_rfl
theorem pl14 : placesI Try.prog 14 = some [(0, 1), (1, 1)] := by kernel_rfl
theorem fi14_0 : fieldI Try.prog 14 0 = some (0, 1, false) := by kernel_rfl
theorem fi14_1 : fieldI Try.prog 14 1 = some (1, 1, false) := by kernel_rfl
theorem ty15 : tyI Try.prog 15 = some ⟨false, 1, [(.pointer none)], 8⟩ := by kernel_rfl
theorem el15 : elemI Try.prog 15 = none := by kernel_rfl
theorem ty16 : tyI Try.prog 16 = some ⟨false, 1, [(.pointer none)], 8⟩ := by kernel_rfl
theorem el16 : elemI Try.prog 16 = none := by kernel_rfl
theorem ty17 : tyI Try.prog 17 = some ⟨false, 1, [(.pointer none)], 8⟩ := by kernel_rfl
theorem el17 : elemI Try.prog 17 = none := by kernel_rfl
theorem ty18 : tyI Try.prog 18 = some ⟨true, 1, [(.pointer none)], 8⟩ := by kernel_rfl
theorem el18 : elemI Try.prog 18 = none := by kernel_rfl
theorem pl18 : placesI Try.prog 18 = some [(0, 1)] := by kernel_rfl
theorem fi18_0 : fieldI Try.prog 18 0 = some (0, 1, false) := by kernel_rfl
theorem ty19 : tyI Try.prog 19 = some ⟨true, 1, [(.pointer none)], 8⟩ := by kernel_rfl
theorem el19 : elemI Try.prog 19 = none := by kernel_rfl
theorem pl19 : placesI Try.prog 19 = some [(0, 1)] := by kernel_rfl
theorem fi19_0 : fieldI Try.prog 19 0 = some (0, 1, false) := by kernel_rfl
theorem ty20 : tyI Try.prog 20 = some ⟨false, 1, [.nilIface], 16⟩ := by kernel_rfl
theorem el20 : elemI Try.prog 20 = none := by kernel_rfl
theorem ty21 : tyI Try.prog 21 = some ⟨false, 1, [(.int .i32 0)], 4⟩ := by kernel_rfl
theorem el21 : elemI Try.prog 21 = none := by kernel_rfl
theorem it21 : intI Try.prog 21 = some .i32 := by kernel_rfl
theorem ty22 : tyI Try.prog 22 = some ⟨false, 1, [(.slice none 0 0)], 24⟩ := by kernel_rfl
theorem el22 : elemI Try.prog 22 = some 118 := by kernel_rfl
theorem ty23 : tyI Try.prog 23 = some ⟨false, 1, [(.slice none 0 0)], 24⟩ := by kernel_rfl
theorem el23 : elemI Try.prog 23 = some 71 := by kernel_rfl
theorem ty24 : tyI Try.prog 24 = some ⟨false, 1, [(.slice none 0 0)], 24⟩ := by kernel_rfl
theorem el24 : elemI Try.prog 24 = some 5 := by kernel_rfl
theorem ty25 : tyI Try.prog 25 = some ⟨true, 3, [(.slice none 0 0), (.slice none 0 0), (.slice none 0 0)], 72⟩ := by kernel_rfl
theorem el25 : elemI Try.prog 25 = none := by kernel_rfl
theorem pl25 : placesI Try.prog 25 = some [(0, 1), (1, 1), (2, 1)] := by kernel_rfl
theorem fi25_0 : fieldI Try.prog 25 0 = some (0, 1, false) := by kernel_rfl
theorem fi25_1 : fieldI Try.prog 25 1 = some (1, 1, false) := by kernel_rfl
theorem fi25_2 : fieldI Try.prog 25 2 = some (2, 1, false) := by kernel_rfl
theorem ty26 : tyI Try.prog 26 = some ⟨true, 3, [(.slice none 0 0), (.slice none 0 0), (.slice none 0 0)], 72⟩ := by kernel_rfl
theorem el26 : elemI Try.prog 26 = none := by kernel_rfl
theorem pl26 : placesI Try.prog 26 = some [(0, 1), (1, 1), (2, 1)] := by kernel_rfl
theorem fi26_0 : fieldI Try.prog 26 0 = some (0, 1, false) := by kernel_rfl
theorem fi26_1 : fieldI Try.prog 26 1 = some (1, 1, false) := by kernel_rfl
theorem fi26_2 : fieldI Try.prog 26 2 = some (2, 1, false) := by kernel_rfl
theorem ty27 : tyI Try.prog 27 = some ⟨true, 2, [(.int .u8 0), (.int .u8 0)], 2⟩ := by kernel_rfl
theorem el27 : elemI Try.prog 27 = none := by kernel_rfl
theorem ar27 : arrI Try.prog 27 = some (2, 5) := by kernel_rfl
theorem pl27 : placesI Try.prog 27 = some [(0, 1), (1, 1)] := by kernel_rfl
theorem ty28 : tyI Try.prog 28 = some ⟨true, 5, [(.int .u8 0), (.int .u8 0), (.int .u8 0), (.int .u8 0), (.slice none 0 0)], 32⟩ := by kernel_rfl
theorem el28 : elemI Try.prog 28 = none := by kernel_rfl
theorem pl28 : placesI Try.prog 28 = some [(0, 2), (2, 2), (4, 1)] := by kernel_rfl
theorem fi28_0 : fieldI Try.prog 28 0 = some (0, 2, true) := by kernel_rfl
theorem fi28_1 : fieldI Try.prog 28 1 = some (2, 2, true) := by kernel_rfl
theorem fi28_2 : fieldI Try.prog 28 2 = some (4, 1, false) := by kernel_rfl
theorem ty29 : tyI Try.prog 29 = some ⟨true, 5, [(.int .u8 0), (.int .u8 0), (.int .u8 0), (.int .u8 0), (.slice none 0 0)], 32⟩ := by kernel_rfl
theorem el29 : elemI Try.prog 29 = none := by kernel_rfl
theorem pl29 : placesI Try.prog 29 = some [(0, 2), (2, 2), (4, 1)] := by kernel_rfl
theorem fi29_0 : fieldI Try.prog 29 0 = some (0, 2, true) := by kernel_rfl
theorem fi29_1 : fieldI Try.prog 29 1 = some (2, 2, true) := by kernel_rfl
theorem fi29_2 : fieldI Try.prog 29 2 = some (4, 1, false) := by kernel_rfl
theorem ty30 : tyI Try.prog 30 = some ⟨false, 1, [(.slice none 0 0)], 24⟩ := by kernel_rfl
theorem el30 : elemI Try.prog 30 = some 57 := by kernel_rfl
theorem ty31 : tyI Try.prog 31 = some ⟨false, 1, [(.slice none 0 0)], 24⟩ := by kernel_rfl
theorem el31 : elemI Try.prog 31 = some 87 := by kernel_rfl
theorem ty32 : tyI Try.prog 32 = some ⟨true, 2, [(.slice none 0 0), (.slice none 0 0)], 48⟩ := by kernel_rfl
theorem el32 : elemI Try.prog 32 = none := by kernel_rfl
theorem pl32 : placesI Try.prog 32 = some [(0, 1), (1, 1)] := by kernel_rfl
theorem fi32_0 : fieldI Try.prog 32 0 = some (0, 1, false) := by kernel_rfl
theorem fi32_1 : fieldI Try.prog 32 1 = some (1, 1, false) := by kernel_rfl
theorem ty33 : tyI Try.prog 33 = some ⟨true, 2, [(.slice none 0 0), (.slice none 0 0)], 48⟩ := by kernel_rfl
theorem el33 : elemI Try.prog 33 = none := by kernel_rfl
theorem pl33 : placesI Try.prog 33 = some [(0, 1), (1, 1)] := by kernel_rfl
theorem fi33_0 : fieldI Try.prog 33 0 = some (0, 1, false) := by kernel_rfl
theorem fi33_1 : fieldI Try.prog 33 1 = some (1, 1, false) := by kernel_rfl
theorem ty34 : tyI Try.prog 34 = some ⟨false, 1, [.nilFunc], 8⟩ := by kernel_rfl
theorem el34 : elemI Try.prog 34 = none := by kernel_rfl
theorem ty35 : tyI Try.prog 35 = some ⟨false, 1, [(.slice none 0 0)], 24⟩ := by kernel_rfl
theorem el35 : elemI Try.prog 35 = some 3 := by kernel_rfl
theorem ty36 : tyI Try.prog 36 = some ⟨true, 2, [(.slice none 0 0), (.slice none 0 0)], 48⟩ := by kernel_rfl
theorem el36 : elemI Try.prog 36 = none := by kernel_rfl
theorem pl36 : placesI Try.prog 36 = some [(0, 1), (1, 1)] := by kernel_rfl
theorem fi36_0 : fieldI Try.prog 36 0 = some (0, 1, false) := by kernel_rfl
theorem fi36_1 : fieldI Try.prog 36 1 = some (1, 1, false) := by kernel_rfl
theorem ty37 : tyI Try.prog 37 = some ⟨true, 2, [(.slice none 0 0), (.slice none 0 0)], 48⟩ := by kernel_rfl
theorem el37 : elemI Try.prog 37 = none := by kernel_rfl
theorem pl37 : placesI Try.prog 37 = some [(0, 1), (1, 1)] := by kernel_rfl
theorem fi37_0 : fieldI Try.prog 37 0 = some (0, 1, false) := by kernel_rfl
theorem fi37_1 : fieldI Try.prog 37 1 = some (1, 1, false) := by kernel_rfl
theorem ty38 : tyI Try.prog 38 = some ⟨false, 1, [.nilFunc], 8⟩ := by kernel_rfl
theorem el38 : elemI Try.prog 38 = none := by kernel_rfl
theorem ty39 : tyI Try.prog 39 = some ⟨true, 2, [(.int .i64 0), (.int .i64 0)], 16⟩ := by kernel_rfl
theorem el39 : elemI Try.prog 39 = none := by kernel_rfl
theorem eq39 : eqTy Try.prog 39 = some (.st [(0, 1, .it), (1, 1, .it)]) := by kernel_rfl
theorem pl39 : placesI Try.prog 39 = some [(0, 1), (1, 1)] := by kernel_rfl
theorem fi39_0 : fieldI Try.prog 39 0 = some (0, 1, false) := by kernel_rfl
theorem fi39_1 : fieldI Try.prog 39 1 = some (1, 1, false) := by kernel_rfl
theorem ty40 : tyI Try.prog 40 = some ⟨true, 2, [(.int .i64 0), (.int .i64 0)], 16⟩ := by kernel_rfl
theorem el40 : elemI Try.prog 40 = none := by kernel_rfl
theorem eq40 : eqTy Try.prog 40 = some (.st [(0, 1, .it), (1, 1, .it)]) := by kernel_rfl
theorem pl40 : placesI Try.prog 40 = some [(0, 1), (1, 1)] := by kernel_rfl
theorem fi40_0 : fieldI Try.prog 40 0 = some (0, 1, false) := by kernel_rfl
theorem fi40_1 : fieldI Try.prog 40 1 = some (1, 1, false) := by kernel_rfl
theorem ty41 : tyI Try.prog 41 = some ⟨true, 2, [(.int .i64 0), (.int .i64 0)], 16⟩ := by kernel_rfl
theorem el41 : elemI Try.prog 41 = none := by kernel_rfl
theorem eq41 : eqTy Try.prog 41 = some (.st [(0, 1, .it), (1, 1, .it)]) := by kernel_rfl
theorem pl41 : placesI Try.prog 41 = some [(0, 1), (1, 1)] := by kernel_rfl
theorem fi41_0 : fieldI Try.prog 41 0 = some (0, 1, false) := by kernel_rfl
theorem fi41_1 : fieldI Try.prog 41 1 = some (1, 1, false) := by kernel_rfl
theorem ty42 : tyI Try.prog 42 = some ⟨true, 2, [(.int .i64 0), (.int .i64 0)], 16⟩ := by kernel_rfl
theorem el42 : elemI Try.prog 42 = none := by kernel_rfl
theorem eq42 : eqTy Try.prog 42 = some (.st [(0, 1, .it), (1, 1, .it)]) := by kernel_rfl
theorem pl42 : placesI Try.prog 42 = some [(0, 1), (1, 1)] := by kernel_rfl
theorem fi42_0 : fieldI Try.prog 42 0 = some (0, 1, false) := by kernel_rfl
theorem fi42_1 : fieldI Try.prog 42 1 = some (1, 1, false) := by kernel_rfl
theorem ty43 : tyI Try.prog 43 = some ⟨false, 1, [(.slice none 0 0)], 24⟩ := by kernel_rfl
theorem el43 : elemI Try.prog 43 = some 122 := by kernel_rfl
theorem el44 : elemI Try.prog 44 = none := by kernel_rfl
theorem ty45 : tyI Try.prog 45 = some ⟨false, 1, [.nilFunc], 8⟩ := by kernel_rfl
theorem el45 : elemI Try.prog 45 = none := by kernel_rfl
theorem ty46 : tyI Try.prog 46 = some ⟨false, 1, [(.slice none 0 0)], 24⟩ := by kernel_rfl
theorem el46 : elemI Try.prog 46 = some 42 := by kernel_rfl
theorem ty47 : tyI Try.prog 47 = some ⟨false, 1, [(.int .i64 0)], 8⟩ := by kernel_rfl
theorem el47 : elemI Try.prog 47 = none := by kernel_rfl
theorem it47 : intI Try.prog 47 = some .i64 := by kernel_rfl
theorem el48 : elemI Try.prog 48 = none := by kernel_rfl
theorem ty49 : tyI Try.prog 49 = some ⟨false, 1, [.nilFunc], 8⟩ := by kernel_rfl
theorem el49 : elemI Try.prog 49 = none := by kernel_rfl
theorem ty50 : tyI Try.prog 50 = some ⟨false, 1, [.nilFunc], 8⟩ := by kernel_rfl
theorem el50 : elemI Try.prog 50 = none := by kernel_rfl
theorem ty51 : tyI Try.prog 51 = some ⟨false, 1, [.nilFunc], 8⟩ := by kernel_rfl
theorem el51 : elemI Try.prog 51 = none := by kernel_rfl
theorem ty52 : tyI Try.prog 52 = some ⟨false, 1, [.nilFunc], 8⟩ := by kernel_rfl
theorem el52 : elemI Try.prog 52 = none := by kernel_rfl
theorem ty53 : tyI Try.prog 53 = some ⟨false, 1, [.nilFunc], 8⟩ := by kernel_rfl
theorem el53 : elemI Try.prog 53 = none := by kernel_rfl
theorem ty54 : tyI Try.prog 54 = some ⟨false, 1, [.nilFunc], 8⟩ := by kernel_rfl
theorem el54 : elemI Try.prog 54 = none := by kernel_rfl
theorem ty55 : tyI Try.prog 55 = some ⟨false, 1, [(.int .i64 0)], 8⟩ := by kernel_rfl
theorem el55 : elemI Try.prog 55 = none := by kernel_rfl
theorem it55 : intI Try.prog 55 = some .i64 := by kernel_rfl
theorem ty56 : tyI Try.prog 56 = some ⟨true, 8, [(.int .i64 0), (.int .i64 0), (.int .i64 0), (.int .i64 0), (.int .i64 0), (.int .i64 0), (.int .i64 0), (.int .i64 0)], 64⟩ := by kernel_rfl
theorem el56 : elemI Try.prog 56 = none := by kernel_rfl
theorem eq56 : eqTy Try.prog 56 = some (.st [(0, 1, .it), (1, 1, .it), (2, 2, (.st [(0, 1, .it), (1, 1, .it)])), (4, 2, (.st [(0, 1, .it), (1, 1, .it)])), (6, 1, .it), (7, 1, .it)]) := by kernel_rfl
theorem pl56 : placesI Try.prog 56 = some [(0, 1), (1, 1), (2, 2), (4, 2), (6, 1), (7, 1)] := by kernel_rfl
theorem fi56_0 : fieldI Try.prog 56 0 = some (0, 1, false) := by kernel_rfl
theorem fi56_1 : fieldI Try.prog 56 1 = some (1, 1, false) := by kernel_rfl
theorem fi56_2 : fieldI Try.prog 56 2 = some (2, 2, true) := by kernel_rfl
theorem fi56_3 : fieldI Try.prog 56 3 = some (4, 2, true) := by kernel_rfl
theorem fi56_4 : fieldI Try.prog 56 4 = some (6, 1, false) := by kernel_rfl
theorem fi56_5 : fieldI Try.prog 56 5 = some (7, 1, false) := by kernel_rfl
theorem ty57 : tyI Try.prog 57 = some ⟨true, 8, [(.int .i64 0), (.int .i64 0), (.int .i64 0), (.int .i64 0), (.int .i64 0), (.int .i64 0), (.int .i64 0), (.int .i64 0)], 64⟩ := by kernel_rfl
theorem el57 : elemI Try.prog 57 = none := by kernel_rfl
theorem eq57 : eqTy Try.prog 57 = some (.st [(0, 1, .it), (1, 1, .it), (2, 2, (.st [(0, 1, .it), (1, 1, .it)])), (4, 2, (.st [(0, 1, .it), (1, 1, .it)])), (6, 1, .it), (7, 1, .it)]) := by kernel_rfl
theorem pl57 : placesI Try.prog 57 = some [(0, 1), (1, 1), (2, 2), (4, 2), (6, 1), (7, 1)] := by kernel_rfl
theorem fi57_0 : fieldI Try.prog 57 0 = some (0, 1, false) := by kernel_rfl
theorem fi57_1 : fieldI Try.prog 57 1 = some (1, 1, false) := by kernel_rfl
theorem fi57_2 : fieldI Try.prog 57 2 = some (2, 2, true) := by kernel_rfl
theorem fi57_3 : fieldI Try.prog 57 3 = some (4, 2, true) := by kernel_rfl
theorem fi57_4 : fieldI Try.prog 57 4 = some (6, 1, false) := by kernel_rfl
theorem fi57_5 : fieldI Try.prog 57 5 = some (7, 1, false) := by kernel_rfl
theorem el58 : elemI Try.prog 58 = none := by kernel_rfl
theorem ty59 : tyI Try.prog 59 = some ⟨false, 1, [.nilFunc], 8⟩ := by kernel_rfl
theorem el59 : elemI Try.prog 59 = none := by kernel_rfl
theorem ty60 : tyI Try.prog 60 = some ⟨false, 1, [.nilFunc], 8⟩ := by kernel_rfl
theorem el60 : elemI Try.prog 60 = none := by kernel_rfl
theorem ty61 : tyI Try.prog 61 = some ⟨true, 2, [(.int .i64 0), (.int .i64 0)], 16⟩ := by kernel_rfl
theorem el61 : elemI Try.prog 61 = none := by kernel_rfl
theorem eq61 : eqTy Try.prog 61 = some (.st [(0, 1, .it), (1, 1, .it)]) := by kernel_rfl
theorem pl61 : placesI Try.prog 61 = some [(0, 1), (1, 1)] := by kernel_rfl
theorem fi61_0 : fieldI Try.prog 61 0 = some (0, 1, false) := by kernel_rfl
theorem fi61_1 : fieldI Try.prog 61 1 = some (1, 1, false) := by kernel_rfl
theorem ty62 : tyI Try.prog 62 = some ⟨true, 2, [(.int .i64 0), (.int .i64 0)], 16⟩ := by kernel_rfl
theorem el62 : elemI Try.prog 62 = none := by kernel_rfl
theorem eq62 : eqTy Try.prog 62 = some (.st [(0, 1, .it), (1, 1, .it)]) := by kernel_rfl
theorem pl62 : placesI Try.prog 62 = some [(0, 1), (1, 1)] := by kernel_rfl
theorem fi62_0 : fieldI Try.prog 62 0 = some (0, 1, false) := by kernel_rfl
theorem fi62_1 : fieldI Try.prog 62 1 = some (1, 1, false) := by kernel_rfl
theorem el63 : elemI Try.prog 63 = none := by kernel_rfl
theorem ty64 : tyI Try.prog 64 = some ⟨false, 1, [.nilFunc], 8⟩ := by kernel_rfl
theorem el64 : elemI Try.prog 64 = none := by kernel_rfl
theorem el65 : elemI Try.prog 65 = none := by kernel_rfl
theorem ty66 : tyI Try.prog 66 = some ⟨false, 1, [.nilFunc], 8⟩ := by kernel_rfl
theorem el66 : elemI Try.prog 66 = none := by kernel_rfl
theorem ty67 : tyI Try.prog 67 = some ⟨false, 1, [.nilFunc], 8⟩ := by kernel_rfl
theorem el67 : elemI Try.prog 67 = none := by kernel_rfl
theorem ty68 : tyI Try.prog 68 = some ⟨false, 1, [.nilFunc], 8⟩ := by kernel_rfl
theorem el68 : elemI Try.prog 68 = none := by kernel_rfl
theorem ty69 : tyI Try.prog 69 = some ⟨true, 4, [(.int .u8 0), (.int .u8 0), (.int .u8 0), (.int .u8 0)], 4⟩ := by kernel_rfl
theorem el69 : elemI Try.prog 69 = none := by kernel_rfl
theorem ar69 : arrI Try.prog 69 = some (4, 5) := by kernel_rfl
theorem pl69 : placesI Try.prog 69 = some [(0, 1), (1, 1), (2, 1), (3, 1)] := by kernel_rfl
theorem ty70 : tyI Try.prog 70 = some ⟨true, 12, [(.int .u8 0), (.int .u8 0), (.int .u8 0), (.int .u8 0), (.int .u8 0), (.int .u8 0), (.int .u8 0), (.int .u8 0), (.int .u8 0), (.int .u8 0), (.int .u8 0), (.int .u8 0)], 12⟩ := by kernel_rfl
theorem el70 : elemI Try.prog 70 = none := by kernel_rfl
theorem ar70 : arrI Try.prog 70 = some (3, 69) := by kernel_rfl
theorem pl70 : placesI Try.prog 70 = some [(0, 4), (4, 4), (8, 4)] := by kernel_rfl
theorem ty71 : tyI Try.prog 71 = some ⟨true, 3, [(.int .u8 0), (.int .u8 0), (.int .u8 0)], 3⟩ := by kernel_rfl
theorem el71 : elemI Try.prog 71 = none := by kernel_rfl
theorem ar71 : arrI Try.prog 71 = some (3, 5) := by kernel_rfl
theorem pl71 : placesI Try.prog 71 = some [(0, 1), (1, 1), (2, 1)] := by kernel_rfl
theorem ty72 : tyI Try.prog 72 = some ⟨true, 6, [(.int .u8 0), (.int .u8 0), (.int .u8 0), (.int .u8 0), (.int .u8 0), (.int .u8 0)], 6⟩ := by kernel_rfl
theorem el72 : elemI Try.prog 72 = none := by kernel_rfl
theorem ar72 : arrI Try.prog 72 = some (2, 71) := by kernel_rfl
theorem pl72 : placesI Try.prog 72 = some [(0, 3), (3, 3)] := by kernel_rfl
theorem ty73 : tyI Try.prog 73 = some ⟨true, 7, [(.int .u8 0), (.int .u8 0), (.int .u8 0), (.int .u8 0), (.int .u8 0), (.int .u8 0), (.int .u8 0)], 7⟩ := by kernel_rfl
theorem el73 : elemI Try.prog 73 = none := by kernel_rfl
theorem ar73 : arrI Try.prog 73 = some (7, 5) := by kernel_rfl
theorem pl73 : placesI Try.prog 73 = some [(0, 1), (1, 1), (2, 1), (3, 1), (4, 1), (5, 1), (6, 1)] := by kernel_rfl
theorem ty74 : tyI Try.prog 74 = some ⟨true, 25, [(.int .u8 0), (.int .u8 0), (.int .u8 0), (.int .u8 0), (.int .u8 0), (.int .u8 0), (.int .u8 0), (.int .u8 0), (.int .u8 0), (.int .u8 0), (.int .u8 0), (.int .u8 0), (.int .u8 0), (.int .u8 0), (.int .u8 0), (.int .u8 0), (.int .u8 0), (.int .u8 0), (.int .u8 0), (.int .u8 0), (.int .u8 0), (.int .u8 0), (.int .u8 0), (.int .u8 0), (.int .u8 0)], 25⟩ := by kernel_rfl
theorem el74 : elemI Try.prog 74 = none := by kernel_rfl
theorem pl74 : placesI Try.prog 74 = some [(0, 12), (12, 6), (18, 7)] := by kernel_rfl
theorem fi74_0 : fieldI Try.prog 74 0 = some (0, 12, true) := by kernel_rfl
theorem fi74_1 : fieldI Try.prog 74 1 = some (12, 6, true) := by kernel_rfl
theorem fi74_2 : fieldI Try.prog 74 2 = some (18, 7, true) := by kernel_rfl
theorem ty75 : tyI Try.prog 75 = some ⟨true, 25, [(.int .u8 0), (.int .u8 0), (.int .u8 0), (.int .u8 0), (.int .u8 0), (.int .u8 0), (.int .u8 0), (.int .u8 0), (.int .u8 0), (.int .u8 0), (.int .u8 0), (.int .u8 0), (.int .u8 0), (.int .u8 0), (.int .u8 0), (.int .u8 0), (.int .u8 0), (.int .u8 0), (.int .u8 0), (.int .u8 0), (.int .u8 0), (.int .u8 0), (.int .u8 0), (.int .u8 0), (.int .u8 0)], 25⟩ := by kernel_rfl
theorem el75 : elemI Try.prog 75 = none := by kernel_rfl
theorem pl75 : placesI Try.prog 75 = some [(0, 12), (12, 6), (18, 7)] := by kernel_rfl
theorem fi75_0 : fieldI Try.prog 75 0 = some (0, 12, true) := by kernel_rfl
theorem fi75_1 : fieldI Try.prog 75 1 = some (12, 6, true) := by kernel_rfl
theorem fi75_2 : fieldI Try.prog 75 2 = some (18, 7, true) := by kernel_rfl
theorem ty76 : tyI Try.prog 76 = some ⟨true, 5, [(.int .i64 0), (.int .i64 0), (.int .i64 0), (.int .i64 0), (.int .i64 0)], 40⟩ := by kernel_rfl
theorem el76 : elemI Try.prog 76 = none := by kernel_rfl
theorem eq76 : eqTy Try.prog 76 = some (.st [(0, 1, .it), (1, 1, .it), (2, 1, .it), (3, 1, .it), (4, 1, .it)]) := by kernel_rfl
theorem pl76 : placesI Try.prog 76 = some [(0, 1), (1, 1), (2, 1), (3, 1), (4, 1)] := by kernel_rfl
theorem fi76_0 : fieldI Try.prog 76 0 = some (0, 1, false) := by kernel_rfl
theorem fi76_1 : fieldI Try.prog 76 1 = some (1, 1, false) := by kernel_rfl
theorem fi76_2 : fieldI Try.prog 76 2 = some (2, 1, false) := by kernel_rfl
theorem fi76_3 : fieldI Try.prog 76 3 = some (3, 1, false) := by kernel_rfl
theorem fi76_4 : fieldI Try.prog 76 4 = some (4, 1, false) := by kernel_rfl
theorem ty77 : tyI Try.prog 77 = some ⟨true, 5, [(.int .i64 0), (.int .i64 0), (.int .i64 0), (.int .i64 0), (.int .i64 0)], 40⟩ := by kernel_rfl
theorem el77 : elemI Try.prog 77 = none := by kernel_rfl
theorem eq77 : eqTy Try.prog 77 = some (.st [(0, 1, .it), (1, 1, .it), (2, 1, .it), (3, 1, .it), (4, 1, .it)]) := by kernel_rfl
theorem pl77 : placesI Try.prog 77 = some [(0, 1), (1, 1), (2, 1), (3, 1), (4, 1)] := by kernel_rfl
theorem fi77_0 : fieldI Try.prog 77 0 = some (0, 1, false) := by kernel_rfl
theorem fi77_1 : fieldI Try.prog 77 1 = some (1, 1, false) := by kernel_rfl
theorem fi77_2 : fieldI Try.prog 77 2 = some (2, 1, false) := by kernel_rfl
theorem fi77_3 : fieldI Try.prog 77 3 = some (3, 1, false) := by kernel_rfl
theorem fi77_4 : fieldI Try.prog 77 4 = some (4, 1, false) := by kernel_rfl
theorem el78 : elemI Try.prog 78 = none := by kernel_rfl
theorem ty79 : tyI Try.prog 79 = some ⟨false, 1, [.nilFunc], 8⟩ := by kernel_rfl
theorem el79 : elemI Try.prog 79 = none := by kernel_rfl
theorem ty80 : tyI Try.prog 80 = some ⟨false, 1, [(.slice none 0 0)], 24⟩ := by kernel_rfl
theorem el80 : elemI Try.prog 80 = some 151 := by kernel_rfl
theorem ty81 : tyI Try.prog 81 = some ⟨true, 11, [(.int .i64 0), (.int .i64 0), (.int .i64 0), (.int .i64 0), (.int .i64 0), (.int .i64 0), (.int .i64 0), (.int .i64 0), (.int .i64 0), (.int .i64 0), (.slice none 0 0)], 104⟩ := by kernel_rfl
theorem el81 : elemI Try.prog 81 = none := by kernel_rfl
theorem pl81 : placesI Try.prog 81 = some [(0, 1), (1, 1), (2, 1), (3, 1), (4, 1), (5, 1), (6, 1), (7, 1), (8, 1), (9, 1), (10, 1)] := by kernel_rfl
theorem fi81_0 : fieldI Try.prog 81 0 = some (0, 1, false) := by kernel_rfl
theorem fi81_1 : fieldI Try.prog 81 1 = some (1, 1, false) := by kernel_rfl
theorem fi81_2 : fieldI Try.prog 81 2 = some (2, 1, false) := by kernel_rfl
theorem fi81_3 : fieldI Try.prog 81 3 = some (3, 1, false) := by kernel_rfl
theorem fi81_4 : fieldI Try.prog 81 4 = some (4, 1, false) := by kernel_rfl
theorem fi81_5 : fieldI Try.prog 81 5 = some (5, 1, false) := by kernel_rfl
theorem fi81_6 : fieldI Try.prog 81 6 = some (6, 1, false) := by kernel_rfl
theorem fi81_7 : fieldI Try.prog 81 7 = some (7, 1, false) := by kernel_rfl
theorem fi81_8 : fieldI Try.prog 81 8 = some (8, 1, false) := by kernel_rfl
theorem fi81_9 : fieldI Try.prog 81 9 = some (9, 1, false) := by kernel_rfl
theorem fi81_10 : fieldI Try.prog 81 10 = some (10, 1, false) := by kernel_rfl
theorem ty82 : tyI Try.prog 82 = some ⟨true, 11, [(.int .i64 0), (.int .i64 0), (.int .i64 0), (.int .i64 0), (.int .i64 0), (.int .i64 0), (.int .i64 0), (.int .i64 0), (.int .i64 0), (.int .i64 0), (.slice none 0 0)], 104⟩ := by kernel_rfl
theorem el82 : elemI Try.prog 82 = none := by kernel_rfl
theorem pl82 : placesI Try.prog 82 = some [(0, 1), (1, 1), (2, 1), (3, 1), (4, 1), (5, 1), (6, 1), (7, 1), (8, 1), (9, 1), (10, 1)] := by kernel_rfl
theorem fi82_0 : fieldI Try.prog 82 0 = some (0, 1, false) := by kernel_rfl
theorem fi82_1 : fieldI Try.prog 82 1 = some (1, 1, false) := by kernel_rfl
theorem fi82_2 : fieldI Try.prog 82 2 = some (2, 1, false) := by kernel_rfl
theorem fi82_3 : fieldI Try.prog 82 3 = some (3, 1, false) := by kernel_rfl
theorem fi82_4 : fieldI Try.prog 82 4 = some (4, 1, false) := by kernel_rfl
theorem fi82_5 : fieldI Try.prog 82 5 = some (5, 1, false) := by kernel_rfl
theorem fi82_6 : fieldI Try.prog 82 6 = some (6, 1, false) := by kernel_rfl
theorem fi82_7 : fieldI Try.prog 82 7 = some (7, 1, false) := by kernel_rfl
theorem fi82_8 : fieldI Try.prog 82 8 = some (8, 1, false) := by kernel_rfl
theorem fi82_9 : fieldI Try.prog 82 9 = some (9, 1, false) := by kernel_rfl
theorem fi82_10 : fieldI Try.prog 82 10 = some (10, 1, false) := by kernel_rfl
theorem ty83 : tyI Try.prog 83 = some ⟨false, 1, [(.slice none 0 0)], 24⟩ := by kernel_rfl
theorem el83 : elemI Try.prog 83 = some 62 := by kernel_rfl
theorem el84 : elemI Try.prog 84 = none := by kernel_rfl
theorem ty85 : tyI Try.prog 85 = some ⟨false, 1, [.nilFunc], 8⟩ := by kernel_rfl
theorem el85 : elemI Try.prog 85 = none := by kernel_rfl
theorem ty86 : tyI Try.prog 86 = some ⟨true, 4, [(.int .i64 0), (.int .i64 0), (.int .i64 0), (.int .i64 0)], 32⟩ := by kernel_rfl
theorem el86 : elemI Try.prog 86 = none := by kernel_rfl
theorem eq86 : eqTy Try.prog 86 = some (.st [(0, 1, .it), (1, 1, .it), (2, 2, (.st [(0, 1, .it), (1, 1, .it)]))]) := by kernel_rfl
theorem pl86 : placesI Try.prog 86 = some [(0, 1), (1, 1), (2, 2)] := by kernel_rfl
theorem fi86_0 : fieldI Try.prog 86 0 = some (0, 1, false) := by kernel_rfl
theorem fi86_1 : fieldI Try.prog 86 1 = some (1, 1, false) := by kernel_rfl
theorem fi86_2 : fieldI Try.prog 86 2 = some (2, 2, true) := by kernel_rfl
theorem ty87 : tyI Try.prog 87 = some ⟨true, 4, [(.int .i64 0), (.int .i64 0), (.int .i64 0), (.int .i64 0)], 32⟩ := by kernel_rfl
theorem el87 : elemI Try.prog 87 = none := by kernel_rfl
theorem eq87 : eqTy Try.prog 87 = some (.st [(0, 1, .it), (1, 1, .it), (2, 2, (.st [(0, 1, .it), (1, 1, .it)]))]) := by kernel_rfl
theorem pl87 : placesI Try.prog 87 = some [(0, 1), (1, 1), (2, 2)] := by kernel_rfl
theorem fi87_0 : fieldI Try.prog 87 0 = some (0, 1, false) := by kernel_rfl
theorem fi87_1 : fieldI Try.prog 87 1 = some (1, 1, false) := by kernel_rfl
theorem fi87_2 : fieldI Try.prog 87 2 = some (2, 2, true) := by kernel_rfl
theorem ty88 : tyI Try.prog 88 = some ⟨false, 1, [.nilFunc], 8⟩ := by kernel_rfl
theorem el88 : elemI Try.prog 88 = none := by kernel_rfl
theorem ty89 : tyI Try.prog 89 = some ⟨false, 1, [(.int .u16 0)], 2⟩ := by kernel_rfl
theorem el89 : elemI Try.prog 89 = none := by kernel_rfl
theorem it89 : intI Try.prog 89 = some .u16 := by kernel_rfl
theorem el90 : elemI Try.prog 90 = none := by kernel_rfl
theorem ty91 : tyI Try.prog 91 = some ⟨false, 1, [.nilFunc], 8⟩ := by kernel_rfl
theorem el91 : elemI Try.prog 91 = none := by kernel_rfl
theorem ty92 : tyI Try.prog 92 = some ⟨false, 1, [.nilFunc], 8⟩ := by kernel_rfl
theorem el92 : elemI Try.prog 92 = none := by kernel_rfl
theorem el93 : elemI Try.prog 93 = none := by kernel_rfl
theorem ty94 : tyI Try.prog 94 = some ⟨false, 1, [.nilFunc], 8⟩ := by kernel_rfl
theorem el94 : elemI Try.prog 94 = none := by kernel_rfl
theorem ty95 : tyI Try.prog 95 = some ⟨false, 1, [.nilFunc], 8⟩ := by kernel_rfl
theorem el95 : elemI Try.prog 95 = none := by kernel_rfl
theorem ty96 : tyI Try.prog 96 = some ⟨false, 1, [(.slice none 0 0)], 24⟩ := by kernel_rfl
theorem el96 : elemI Try.prog 96 = some 27 := by kernel_rfl
theorem ty97 : tyI Try.prog 97 = some ⟨true, 2, [(.int .u8 0), (.slice none 0 0)], 32⟩ := by kernel_rfl
theorem el97 : elemI Try.prog 97 = none := by kernel_rfl
theorem pl97 : placesI Try.prog 97 = some [(0, 1), (1, 1)] := by kernel_rfl
theorem fi97_0 : fieldI Try.prog 97 0 = some (0, 1, false) := by kernel_rfl
theorem fi97_1 : fieldI Try.prog 97 1 = some (1, 1, false) := by kernel_rfl
theorem ty98 : tyI Try.prog 98 = some ⟨true, 2, [(.int .u8 0), (.slice none 0 0)], 32⟩ := by kernel_rfl
theorem el98 : elemI Try.prog 98 = none := by kernel_rfl
theorem pl98 : placesI Try.prog 98 = some [(0, 1), (1, 1)] := by kernel_rfl
theorem fi98_0 : fieldI Try.prog 98 0 = some (0, 1, false) := by kernel_rfl
theorem fi98_1 : fieldI Try.prog 98 1 = some (1, 1, false) := by kernel_rfl
theorem ty99 : tyI Try.prog 99 = some ⟨true, 4, [(.int .i64 0), (.int .i64 0), (.int .i64 0), (.slice none 0 0)], 48⟩ := by kernel_rfl
theorem el99 : elemI Try.prog 99 = none := by kernel_rfl
theorem pl99 : placesI Try.prog 99 = some [(0, 2), (2, 1), (3, 1)] := by kernel_rfl
theorem fi99_0 : fieldI Try.prog 99 0 = some (0, 2, true) := by kernel_rfl
theorem fi99_1 : fieldI Try.prog 99 1 = some (2, 1, false) := by kernel_rfl
theorem fi99_2 : fieldI Try.prog 99 2 = some (3, 1, false) := by kernel_rfl
theorem ty100 : tyI Try.prog 100 = some ⟨true, 4, [(.int .i64 0), (.int .i64 0), (.int .i64 0), (.slice none 0 0)], 48⟩ := by kernel_rfl
theorem el100 : elemI Try.prog 100 = none := by kernel_rfl
theorem pl100 : placesI Try.prog 100 = some [(0, 2), (2, 1), (3, 1)] := by kernel_rfl
theorem fi100_0 : fieldI Try.prog 100 0 = some (0, 2, true) := by kernel_rfl
theorem fi100_1 : fieldI Try.prog 100 1 = some (2, 1, false) := by kernel_rfl
theorem fi100_2 : fieldI Try.prog 100 2 = some (3, 1, false) := by kernel_rfl
theorem ty101 : tyI Try.prog 101 = some ⟨false, 1, [.nilFunc], 8⟩ := by kernel_rfl
theorem el101 : elemI Try.prog 101 = none := by kernel_rfl
theorem el102 : elemI Try.prog 102 = none := by kernel_rfl
theorem ty103 : tyI Try.prog 103 = some ⟨false, 1, [.nilFunc], 8⟩ := by kernel_rfl
theorem el103 : elemI Try.prog 103 = none := by kernel_rfl
theorem ty104 : tyI Try.prog 104 = some ⟨false, 1, [.nilFunc], 8⟩ := by kernel_rfl
theorem el104 : elemI Try.prog 104 = none := by kernel_rfl
theorem ty105 : tyI Try.prog 105 = some ⟨false, 1, [.nilFunc], 8⟩ := by kernel_rfl
theorem el105 : elemI Try.prog 105 = none := by kernel_rfl
theorem ty106 : tyI Try.prog 106 = some ⟨true, 6, [(.int .i64 0), (.int .i64 0), (.int .i64 0), (.int .i64 0), (.int .i64 0), (.int .i64 0)], 48⟩ := by kernel_rfl
theorem el106 : elemI Try.prog 106 = none := by kernel_rfl
theorem eq106 : eqTy Try.prog 106 = some (.st [(0, 2, (.st [(0, 1, .it), (1, 1, .it)])), (2, 2, (.st [(0, 1, .it), (1, 1, .it)])), (4, 1, .it), (5, 1, .it)]) := by kernel_rfl
theorem pl106 : placesI Try.prog 106 = some [(0, 2), (2, 2), (4, 1), (5, 1)] := by kernel_rfl
theorem fi106_0 : fieldI Try.prog 106 0 = some (0, 2, true) := by kernel_rfl
theorem fi106_1 : fieldI Try.prog 106 1 = some (2, 2, true) := by kernel_rfl
theorem fi106_2 : fieldI Try.prog 106 2 = some (4, 1, false) := by kernel_rfl
theorem fi106_3 : fieldI Try.prog 106 3 = some (5, 1, false) := by kernel_rfl
theorem ty107 : tyI Try.prog 107 = some ⟨true, 6, [(.int .i64 0), (.int .i64 0), (.int .i64 0), (.int .i64 0), (.int .i64 0), (.int .i64 0)], 48⟩ := by kernel_rfl
theorem el107 : elemI Try.prog 107 = none := by kernel_rfl
theorem eq107 : eqTy Try.prog 107 = some (.st [(0, 2, (.st [(0, 1, .it), (1, 1, .it)])), (2, 2, (.st [(0, 1, .it), (1, 1, .it)])), (4, 1, .it), (5, 1, .it)]) := by kernel_rfl
theorem pl107 : placesI Try.prog 107 = some [(0, 2), (2, 2), (4, 1), (5, 1)] := by kernel_rfl
theorem fi107_0 : fieldI Try.prog 107 0 = some (0, 2, true) := by kernel_rfl
theorem fi107_1 : fieldI Try.prog 107 1 = some (2, 2, true) := by kernel_rfl
theorem fi107_2 : fieldI Try.prog 107 2 = some (4, 1, false) := by kernel_rfl
theorem fi107_3 : fieldI Try.prog 107 3 = some (5, 1, false) := by kernel_rfl
theorem ty108 : tyI Try.prog 108 = some ⟨true, 4, [(.int .i64 0), (.int .i64 0), (.int .i64 0), (.int .i64 0)], 32⟩ := by kernel_rfl
theorem el108 : elemI Try.prog 108 = none := by kernel_rfl
theorem eq108 : eqTy Try.prog 108 = some (.st [(0, 2, (.st [(0, 1, .it), (1, 1, .it)])), (2, 2, (.st [(0, 1, .it), (1, 1, .it)]))]) := by kernel_rfl
theorem pl108 : placesI Try.prog 108 = some [(0, 2), (2, 2)] := by kernel_rfl
theorem fi108_0 : fieldI Try.prog 108 0 = some (0, 2, true) := by kernel_rfl
theorem fi108_1 : fieldI Try.prog 108 1 = some (2, 2, true) := by kernel_rfl
theorem ty109 : tyI Try.prog 109 = some ⟨true, 4, [(.int .i64 0), (.int .i64 0), (.int .i64 0), (.int .i64 0)], 32⟩ := by kernel_rfl
theorem el109 : elemI Try.prog 109 = none := by kernel_rfl
theorem eq109 : eqTy Try.prog 109 = some (.st [(0, 2, (.st [(0, 1, .it), (1, 1, .it)])), (2, 2, (.st [(0, 1, .it), (1, 1, .it)]))]) := by kernel_rfl
theorem pl109 : placesI Try.prog 109 = some [(0, 2), (2, 2)] := by kernel_rfl
theorem fi109_0 : fieldI Try.prog 109 0 = some (0, 2, true) := by kernel_rfl
theorem fi109_1 : fieldI Try.prog 109 1 = some (2, 2, true) := by kernel_rfl
theorem ty110 : tyI Try.prog 110 = some ⟨true, 2, [(.int .i64 0), (.int .i64 0)], 16⟩ := by kernel_rfl
theorem el110 : elemI Try.prog 110 = none := by kernel_rfl
theorem eq110 : eqTy Try.prog 110 = some (.st [(0, 1, .it), (1, 1, .it)]) := by kernel_rfl
theorem pl110 : placesI Try.prog 110 = some [(0, 1), (1, 1)] := by kernel_rfl
theorem fi110_0 : fieldI Try.prog 110 0 = some (0, 1, false) := by kernel_rfl
theorem fi110_1 : fieldI Try.prog 110 1 = some (1, 1, false) := by kernel_rfl
theorem ty111 : tyI Try.prog 111 = some ⟨true, 2, [(.int .i64 0), (.int .i64 0)], 16⟩ := by kernel_rfl
theorem el111 : elemI Try.prog 111 = none := by kernel_rfl
theorem eq111 : eqTy Try.prog 111 = some (.st [(0, 1, .it), (1, 1, .it)]) := by kernel_rfl
theorem pl111 : placesI Try.prog 111 = some [(0, 1), (1, 1)] := by kernel_rfl
theorem fi111_0 : fieldI Try.prog 111 0 = some (0, 1, false) := by kernel_rfl
theorem fi111_1 : fieldI Try.prog 111 1 = some (1, 1, false) := by kernel_rfl
theorem ty112 : tyI Try.prog 112 = some ⟨false, 1, [(.slice none 0 0)], 24⟩ := by kernel_rfl
theorem el112 : elemI Try.prog 112 = some 111 := by kernel_rfl
theorem ty113 : tyI Try.prog 113 = some ⟨false, 1, [.nilFunc], 8⟩ := by kernel_rfl
theorem el113 : elemI Try.prog 113 = none := by kernel_rfl
theorem ty114 : tyI Try.prog 114 = some ⟨false, 1, [(.slice none 0 0)], 24⟩ := by kernel_rfl
theorem el114 : elemI Try.prog 114 = some 109 := by kernel_rfl
theorem el115 : elemI Try.prog 115 = none := by kernel_rfl
theorem ty116 : tyI Try.prog 116 = some ⟨false, 1, [.nilFunc], 8⟩ := by kernel_rfl
theorem el116 : elemI Try.prog 116 = none := by kernel_rfl
theorem ty117 : tyI Try.prog 117 = some ⟨false, 1, [.nilFunc], 8⟩ := by kernel_rfl
theorem el117 : elemI Try.prog 117 = none := by kernel_rfl
theorem ty118 : tyI Try.prog 118 = some ⟨true, 6, [(.int .u8 0), (.int .u8 0), (.int .u8 0), (.int .u8 0), (.int .u8 0), (.int .u8 0)], 6⟩ := by kernel_rfl
theorem el118 : elemI Try.prog 118 = none := by kernel_rfl
theorem ar118 : arrI Try.prog 118 = some (6, 5) := by kernel_rfl
theorem pl118 : placesI Try.prog 118 = some [(0, 1), (1, 1), (2, 1), (3, 1), (4, 1), (5, 1)] := by kernel_rfl
theorem ty119 : tyI Try.prog 119 = some ⟨true, 2, [(.slice none 0 0), (.slice none 0 0)], 48⟩ := by kernel_rfl
theorem el119 : elemI Try.prog 119 = none := by kernel_rfl
theorem ar119 : arrI Try.prog 119 = some (2, 35) := by kernel_rfl
theorem pl119 : placesI Try.prog 119 = some [(0, 1), (1, 1)] := by kernel_rfl
theorem ty120 : tyI Try.prog 120 = some ⟨false, 1, [.nilFunc], 8⟩ := by kernel_rfl
theorem el120 : elemI Try.prog 120 = none := by kernel_rfl
theorem ty121 : tyI Try.prog 121 = some ⟨true, 3, [(.int .i64 0), (.int .i64 0), (.int .i64 0)], 24⟩ := by kernel_rfl
theorem el121 : elemI Try.prog 121 = none := by kernel_rfl
theorem eq121 : eqTy Try.prog 121 = some (.st [(0, 2, (.st [(0, 1, .it), (1, 1, .it)])), (2, 1, .it)]) := by kernel_rfl
theorem pl121 : placesI Try.prog 121 = some [(0, 2), (2, 1)] := by kernel_rfl
theorem fi121_0 : fieldI Try.prog 121 0 = some (0, 2, true) := by kernel_rfl
theorem fi121_1 : fieldI Try.prog 121 1 = some (2, 1, false) := by kernel_rfl
theorem ty122 : tyI Try.prog 122 = some ⟨true, 3, [(.int .i64 0), (.int .i64 0), (.int .i64 0)], 24⟩ := by kernel_rfl
theorem el122 : elemI Try.prog 122 = none := by kernel_rfl
theorem eq122 : eqTy Try.prog 122 = some (.st [(0, 2, (.st [(0, 1, .it), (1, 1, .it)])), (2, 1, .it)]) := by kernel_rfl
theorem pl122 : placesI Try.prog 122 = some [(0, 2), (2, 1)] := by kernel_rfl
theorem fi122_0 : fieldI Try.prog 122 0 = some (0, 2, true) := by kernel_rfl
theorem fi122_1 : fieldI Try.prog 122 1 = some (2, 1, false) := by kernel_rfl
theorem ty123 : tyI Try.prog 123 = some ⟨false, 1, [.nilFunc], 8⟩ := by kernel_rfl
theorem el123 : elemI Try.prog 123 = none := by kernel_rfl
theorem ty124 : tyI Try.prog 124 = some ⟨false, 1, [.nilFunc], 8⟩ := by kernel_rfl
theorem el124 : elemI Try.prog 124 = none := by kernel_rfl
theorem ty125 : tyI Try.prog 125 = some ⟨true, 2, [(.int .i64 0), (.int .i64 0)], 16⟩ := by kernel_rfl
theorem el125 : elemI Try.prog 125 = none := by kernel_rfl
theorem eq125 : eqTy Try.prog 125 = some (.st [(0, 2, (.st [(0, 1, .it), (1, 1, .it)]))]) := by kernel_rfl
theorem pl125 : placesI Try.prog 125 = some [(0, 2)] := by kernel_rfl
theorem fi125_0 : fieldI Try.prog 125 0 = some (0, 2, true) := by kernel_rfl
theorem ty126 : tyI Try.prog 126 = some ⟨true, 2, [(.int .i64 0), (.int .i64 0)], 16⟩ := by kernel_rfl
theorem el126 : elemI Try.prog 126 = none := by kernel_rfl
theorem eq126 : eqTy Try.prog 126 = some (.st [(0, 2, (.st [(0, 1, .it), (1, 1, .it)]))]) := by kernel_rfl
theorem pl126 : placesI Try.prog 126 = some [(0, 2)] := by kernel_rfl
theorem fi126_0 : fieldI Try.prog 126 0 = some (0, 2, true) := by kernel_rfl
theorem ty127 : tyI Try.prog 127 = some ⟨false, 1, [.nilFunc], 8⟩ := by kernel_rfl
theorem el127 : elemI Try.prog 127 = none := by kernel_rfl
theorem ty128 : tyI Try.prog 128 = some ⟨false, 1, [.nilFunc], 8⟩ := by kernel_rfl
theorem el128 : elemI Try.prog 128 = none := by kernel_rfl
theorem ty129 : tyI Try.prog 129 = some ⟨true, 5, [(.slice none 0 0), (.slice none 0 0), (.slice none 0 0), (.slice none 0 0), (.int .i64 0)], 104⟩ := by kernel_rfl
theorem el129 : elemI Try.prog 129 = none := by kernel_rfl
theorem pl129 : placesI Try.prog 129 = some [(0, 2), (2, 2), (4, 1)] := by kernel_rfl
theorem fi129_0 : fieldI Try.prog 129 0 = some (0, 2, true) := by kernel_rfl
theorem fi129_1 : fieldI Try.prog 129 1 = some (2, 2, true) := by kernel_rfl
theorem fi129_2 : fieldI Try.prog 129 2 = some (4, 1, false) := by kernel_rfl
theorem ty130 : tyI Try.prog 130 = some ⟨true, 5, [(.slice none 0 0), (.slice none 0 0), (.slice none 0 0), (.slice none 0 0), (.int .i64 0)], 104⟩ := by kernel_rfl
theorem el130 : elemI Try.prog 130 = none := by kernel_rfl
theorem pl130 : placesI Try.prog 130 = some [(0, 2), (2, 2), (4, 1)] := by kernel_rfl
theorem fi130_0 : fieldI Try.prog 130 0 = some (0, 2, true) := by kernel_rfl
theorem fi130_1 : fieldI Try.prog 130 1 = some (2, 2, true) := by kernel_rfl
theorem fi130_2 : fieldI Try.prog 130 2 = some (4, 1, false) := by kernel_rfl
theorem el131 : elemI Try.prog 131 = none := by kernel_rfl
theorem ty132 : tyI Try.prog 132 = some ⟨false, 1, [.nilFunc], 8⟩ := by kernel_rfl
theorem el132 : elemI Try.prog 132 = none := by kernel_rfl
theorem el133 : elemI Try.prog 133 = none := by kernel_rfl
theorem ty134 : tyI Try.prog 134 = some ⟨false, 1, [.nilFunc], 8⟩ := by kernel_rfl
theorem el134 : elemI Try.prog 134 = none := by kernel_rfl
theorem ty135 : tyI Try.prog 135 = some ⟨false, 1, [.nilFunc], 8⟩ := by kernel_rfl
theorem el135 : elemI Try.prog 135 = none := by kernel_rfl
theorem ty136 : tyI Try.prog 136 = some ⟨false, 1, [.nilFunc], 8⟩ := by kernel_rfl
theorem el136 : elemI Try.prog 136 = none := by kernel_rfl
theorem ty137 : tyI Try.prog 137 = some ⟨false, 1, [.nilFunc], 8⟩ := by kernel_rfl
theorem el137 : elemI Try.prog 137 = none := by kernel_rfl
theorem ty138 : tyI Try.prog 138 = some ⟨false, 1, [.nilFunc], 8⟩ := by kernel_rfl
theorem el138 : elemI Try.prog 138 = none := by kernel_rfl
theorem ty139 : tyI Try.prog 139 = some ⟨false, 1, [.nilFunc], 8⟩ := by kernel_rfl
theorem el139 : elemI Try.prog 139 = none := by kernel_rfl
theorem ty140 : tyI Try.prog 140 = some ⟨false, 1, [.nilFunc], 8⟩ := by kernel_rfl
theorem el140 : elemI Try.prog 140 = none := by kernel_rfl
theorem ty141 : tyI Try.prog 141 = some ⟨true, 11, [(.int .i64 0), (.int .i64 0), (.int .i64 0), (.int .i64 0), (.int .i64 0), (.int .i64 0), (.int .i64 0), (.int .i64 0), (.int .i64 0), (.int .i64 0), (.slice none 0 0)], 104⟩ := by kernel_rfl
theorem el141 : elemI Try.prog 141 = none := by kernel_rfl
theorem pl141 : placesI Try.prog 141 = some [(0, 11)] := by kernel_rfl
theorem fi141_0 : fieldI Try.prog 141 0 = some (0, 11, true) := by kernel_rfl
theorem ty142 : tyI Try.prog 142 = some ⟨true, 11, [(.int .i64 0), (.int .i64 0), (.int .i64 0), (.int .i64 0), (.int .i64 0), (.int .i64 0), (.int .i64 0), (.int .i64 0), (.int .i64 0), (.int .i64 0), (.slice none 0 0)], 104⟩ := by kernel_rfl
theorem el142 : elemI Try.prog 142 = none := by kernel_rfl
theorem pl142 : placesI Try.prog 142 = some [(0, 11)] := by kernel_rfl
theorem fi142_0 : fieldI Try.prog 142 0 = some (0, 11, true) := by kernel_rfl
theorem el143 : elemI Try.prog 143 = none := by kernel_rfl
theorem ty144 : tyI Try.prog 144 = some ⟨false, 1, [.nilFunc], 8⟩ := by kernel_rfl
theorem el144 : elemI Try.prog 144 = none := by kernel_rfl
theorem ty145 : tyI Try.prog 145 = some ⟨false, 1, [.nilFunc], 8⟩ := by kernel_rfl
theorem el145 : elemI Try.prog 145 = none := by kernel_rfl
theorem ty146 : tyI Try.prog 146 = some ⟨false, 1, [.nilFunc], 8⟩ := by kernel_rfl
theorem el146 : elemI Try.prog 146 = none := by kernel_rfl
theorem ty147 : tyI Try.prog 147 = some ⟨false, 1, [.nilFunc], 8⟩ := by kernel_rfl
theorem el147 : elemI Try.prog 147 = none := by kernel_rfl
theorem ty148 : tyI Try.prog 148 = some ⟨false, 1, [(.map none)], 8⟩ := by kernel_rfl
theorem el148 : elemI Try.prog 148 = none := by kernel_rfl
theorem mp148 : mapI Try.prog 148 = some ((.c (.v (.int .i64 0))), (.int .i64)) := by kernel_rfl
theorem ty149 : tyI Try.prog 149 = some ⟨false, 1, [.nilFunc], 8⟩ := by kernel_rfl
theorem el149 : elemI Try.prog 149 = none := by kernel_rfl
theorem ty150 : tyI Try.prog 150 = some ⟨true, 2, [(.int .i64 0), (.int .i64 0)], 16⟩ := by kernel_rfl
theorem el150 : elemI Try.prog 150 = none := by kernel_rfl
theorem eq150 : eqTy Try.prog 150 = some (.st [(0, 1, .it), (1, 1, .it)]) := by kernel_rfl
theorem pl150 : placesI Try.prog 150 = some [(0, 1), (1, 1)] := by kernel_rfl
theorem fi150_0 : fieldI Try.prog 150 0 = some (0, 1, false) := by kernel_rfl
theorem fi150_1 : fieldI Try.prog 150 1 = some (1, 1, false) := by kernel_rfl
theorem ty151 : tyI Try.prog 151 = some ⟨true, 2, [(.int .i64 0), (.int .i64 0)], 16⟩ := by kernel_rfl
theorem el151 : elemI Try.prog 151 = none := by kernel_rfl
theorem eq151 : eqTy Try.prog 151 = some (.st [(0, 1, .it), (1, 1, .it)]) := by kernel_rfl
theorem pl151 : placesI Try.prog 151 = some [(0, 1), (1, 1)] := by kernel_rfl
theorem fi151_0 : fieldI Try.prog 151 0 = some (0, 1, false) := by kernel_rfl
theorem fi151_1 : fieldI Try.prog 151 1 = some (1, 1, false) := by kernel_rfl
theorem ty152 : tyI Try.prog 152 = some ⟨false, 1, [.nilFunc], 8⟩ := by kernel_rfl
theorem el152 : elemI Try.prog 152 = none := by kernel_rfl
theorem ty153 : tyI Try.prog 153 = some ⟨false, 1, [.nilFunc], 8⟩ := by kernel_rfl
theorem el153 : elemI Try.prog 153 = none := by kernel_rfl
theorem ty154 : tyI Try.prog 154 = some ⟨false, 1, [.nilFunc], 8⟩ := by kernel_rfl
theorem el154 : elemI Try.prog 154 = none := by kernel_rfl
theorem ty155 : tyI Try.prog 155 = some ⟨false, 1, [.nilFunc], 8⟩ := by kernel_rfl
theorem el155 : elemI Try.prog 155 = none := by kernel_rfl
theorem ty156 : tyI Try.prog 156 = some ⟨true, 3, [(.int .i64 0), (.int .i64 0), (.int .i64 0)], 24⟩ := by kernel_rfl
theorem el156 : elemI Try.prog 156 = none := by kernel_rfl
theorem eq156 : eqTy Try.prog 156 = some (.st [(0, 1, .it), (1, 2, (.st [(0, 1, .it), (1, 1, .it)]))]) := by kernel_rfl
theorem pl156 : placesI Try.prog 156 = some [(0, 1), (1, 2)] := by kernel_rfl
theorem fi156_0 : fieldI Try.prog 156 0 = some (0, 1, false) := by kernel_rfl
theorem fi156_1 : fieldI Try.prog 156 1 = some (1, 2, true) := by kernel_rfl
theorem ty157 : tyI Try.prog 157 = some ⟨true, 3, [(.int .i64 0), (.int .i64 0), (.int .i64 0)], 24⟩ := by kernel_rfl
theorem el157 : elemI Try.prog 157 = none := by kernel_rfl
theorem eq157 : eqTy Try.prog 157 = some (.st [(0, 1, .it), (1, 2, (.st [(0, 1, .it), (1, 1, .it)]))]) := by kernel_rfl
theorem pl157 : placesI Try.prog 157 = some [(0, 1), (1, 2)] := by kernel_rfl
theorem fi157_0 : fieldI Try.prog 157 0 = some (0, 1, false) := by kernel_rfl
theorem fi157_1 : fieldI Try.prog 157 1 = some (1, 2, true) := by kernel_rfl
theorem ty158 : tyI Try.prog 158 = some ⟨false, 1, [(.slice none 0 0)], 24⟩ := by kernel_rfl
theorem el158 : elemI Try.prog 158 = some 157 := by kernel_rfl
theorem ty159 : tyI Try.prog 159 = some ⟨false, 1, [.nilFunc], 8⟩ := by kernel_rfl
theorem el159 : elemI Try.prog 159 = none := by kernel_rfl
theorem ty160 : tyI Try.prog 160 = some ⟨true, 4, [(.int .i64 0), (.int .i64 0), (.int .i64 0), (.slice none 0 0)], 48⟩ := by kernel_rfl
theorem el160 : elemI Try.prog 160 = none := by kernel_rfl
theorem pl160 : placesI Try.prog 160 = some [(0, 4)] := by kernel_rfl
theorem fi160_0 : fieldI Try.prog 160 0 = some (0, 4, true) := by kernel_rfl
theorem ty161 : tyI Try.prog 161 = some ⟨true, 4, [(.int .i64 0), (.int .i64 0), (.int .i64 0), (.slice none 0 0)], 48⟩ := by kernel_rfl
theorem el161 : elemI Try.prog 161 = none := by kernel_rfl
theorem pl161 : placesI Try.prog 161 = some [(0, 4)] := by kernel_rfl
theorem fi161_0 : fieldI Try.prog 161 0 = some (0, 4, true) := by kernel_rfl
theorem ty162 : tyI Try.prog 162 = some ⟨false, 1, [.nilFunc], 8⟩ := by kernel_rfl
theorem el162 : elemI Try.prog 162 = none := by kernel_rfl
theorem ty163 : tyI Try.prog 163 = some ⟨false, 1, [.nilFunc], 8⟩ := by kernel_rfl
theorem el163 : elemI Try.prog 163 = none := by kernel_rfl
theorem ty164 : tyI Try.prog 164 = some ⟨false, 1, [.nilFunc], 8⟩ := by kernel_rfl
theorem el164 : elemI Try.prog 164 = none := by kernel_rfl
theorem ty165 : tyI Try.prog 165 = some ⟨false, 1, [.nilFunc], 8⟩ := by kernel_rfl
theorem el165 : elemI Try.prog 165 = none := by kernel_rfl
theorem ty166 : tyI Try.prog 166 = some ⟨true, 2, [(.slice none 0 0), (.int .i64 0)], 32⟩ := by kernel_rfl
theorem el166 : elemI Try.prog 166 = none := by kernel_rfl
theorem pl166 : placesI Try.prog 166 = some [(0, 1), (1, 1)] := by kernel_rfl
theorem fi166_0 : fieldI Try.prog 166 0 = some (0, 1, false) := by kernel_rfl
theorem fi166_1 : fieldI Try.prog 166 1 = some (1, 1, false) := by kernel_rfl
theorem ty167 : tyI Try.prog 167 = some ⟨true, 2, [(.slice none 0 0), (.int .i64 0)], 32⟩ := by kernel_rfl
theorem el167 : elemI Try.prog 167 = none := by kernel_rfl
theorem pl167 : placesI Try.prog 167 = some [(0, 1), (1, 1)] := by kernel_rfl
theorem fi167_0 : fieldI Try.prog 167 0 = some (0, 1, false) := by kernel_rfl
theorem fi167_1 : fieldI Try.prog 167 1 = some (1, 1, false) := by kernel_rfl
theorem el168 : elemI Try.prog 168 = none := by kernel_rfl
theorem ty169 : tyI Try.prog 169 = some ⟨false, 1, [.nilFunc], 8⟩ := by kernel_rfl
theorem el169 : elemI Try.prog 169 = none := by kernel_rfl
theorem ty170 : tyI Try.prog 170 = some ⟨false, 1, [.nilFunc], 8⟩ := by kernel_rfl
theorem el170 : elemI Try.prog 170 = none := by kernel_rfl
theorem ty171 : tyI Try.prog 171 = some ⟨false, 1, [.nilFunc], 8⟩ := by kernel_rfl
theorem el171 : elemI Try.prog 171 = none := by kernel_rfl
theorem ty172 : tyI Try.prog 172 = some ⟨false, 1, [.nilFunc], 8⟩ := by kernel_rfl
theorem el172 : elemI Try.prog 172 = none := by kernel_rfl
theorem ty173 : tyI Try.prog 173 = some ⟨false, 1, [.nilFunc], 8⟩ := by kernel_rfl
theorem el173 : elemI Try.prog 173 = none := by kernel_rfl
theorem ty174 : tyI Try.prog 174 = some ⟨false, 1, [.nilFunc], 8⟩ := by kernel_rfl
theorem el174 : elemI Try.prog 174 = none := by kernel_rfl
theorem ty175 : tyI Try.prog 175 = some ⟨false, 1, [.nilFunc], 8⟩ := by kernel_rfl
theorem el175 : elemI Try.prog 175 = none := by kernel_rfl
theorem ty176 : tyI Try.prog 176 = some ⟨false, 1, [.nilFunc], 8⟩ := by kernel_rfl
theorem el176 : elemI Try.prog 176 = none := by kernel_rfl
theorem ty177 : tyI Try.prog 177 = some ⟨false, 1, [.nilFunc], 8⟩ := by kernel_rfl
theorem el177 : elemI Try.prog 177 = none := by kernel_rfl
theorem ty178 : tyI Try.prog 178 = some ⟨false, 1, [.nilFunc], 8⟩ := by kernel_rfl
theorem el178 : elemI Try.prog 178 = none := by kernel_rfl
theorem ty179 : tyI Try.prog 179 = some ⟨false, 1, [.nilFunc], 8⟩ := by kernel_rfl
theorem el179 : elemI Try.prog 179 = none := by kernel_rfl
theorem ty180 : tyI Try.prog 180 = some ⟨false, 1, [.nilFunc], 8⟩ := by kernel_rfl
theorem el180 : elemI Try.prog 180 = none := by kernel_rfl
theorem ty181 : tyI Try.prog 181 = some ⟨false, 1, [.nilFunc], 8⟩ := by kernel_rfl
theorem el181 : elemI Try.prog 181 = none := by kernel_rfl
theorem ty182 : tyI Try.prog 182 = some ⟨false, 1, [.nilFunc], 8⟩ := by kernel_rfl
theorem el182 : elemI Try.prog 182 = none := by kernel_rfl
theorem ty183 : tyI Try.prog 183 = some ⟨false, 1, [.nilFunc], 8⟩ := by kernel_rfl
theorem el183 : elemI Try.prog 183 = none := by kernel_rfl
theorem ty184 : tyI Try.prog 184 = some ⟨false, 1, [.nilFunc], 8⟩ := by kernel_rfl
theorem el184 : elemI Try.prog 184 = none := by kernel_rfl
theorem ty185 : tyI Try.prog 185 = some ⟨false, 1, [.nilFunc], 8⟩ := by kernel_rfl
theorem el185 : elemI Try.prog 185 = none := by kernel_rfl
theorem ty186 : tyI Try.prog 186 = some ⟨false, 1, [.nilFunc], 8⟩ := by kernel_rfl
theorem el186 : elemI Try.prog 186 = none := by kernel_rfl
theorem ty187 : tyI Try.prog 187 = some ⟨false, 1, [.nilFunc], 8⟩ := by kernel_rfl
theorem el187 : elemI Try.prog 187 = none := by kernel_rfl
theorem ty188 : tyI Try.prog 188 = some ⟨false, 1, [.nilFunc], 8⟩ := by kernel_rfl
theorem el188 : elemI Try.prog 188 = none := by kernel_rfl
theorem ty189 : tyI Try.prog 189 = some ⟨false, 1, [.nilFunc], 8⟩ := by kernel_rfl
theorem el189 : elemI Try.prog 189 = none := by kernel_rfl
theorem ty190 : tyI Try.prog 190 = some ⟨false, 1, [(.slice none 0 0)], 24⟩ := by kernel_rfl
theorem el190 : elemI Try.prog 190 = some 55 := by kernel_rfl
theorem ty191 : tyI Try.prog 191 = some ⟨false, 1, [.nilFunc], 8⟩ := by kernel_rfl
theorem el191 : elemI Try.prog 191 = none := by kernel_rfl
theorem ty192 : tyI Try.prog 192 = some ⟨false, 1, [.nilFunc], 8⟩ := by kernel_rfl
theorem el192 : elemI Try.prog 192 = none := by kernel_rfl
theorem ty193 : tyI Try.prog 193 = some ⟨false, 1, [.nilFunc], 8⟩ := by kernel_rfl
theorem el193 : elemI Try.prog 193 = none := by kernel_rfl
theorem ty194 : tyI Try.prog 194 = some ⟨false, 1, [(.slice none 0 0)], 24⟩ := by kernel_rfl
theorem el194 : elemI Try.prog 194 = some 35 := by kernel_rfl
theorem ty195 : tyI Try.prog 195 = some ⟨false, 1, [(.slice none 0 0)], 24⟩ := by kernel_rfl
theorem el195 : elemI Try.prog 195 = some 35 := by kernel_rfl
theorem ty196 : tyI Try.prog 196 = some ⟨false, 1, [.nilFunc], 8⟩ := by kernel_rfl
theorem el196 : elemI Try.prog 196 = none := by kernel_rfl
theorem ty197 : tyI Try.prog 197 = some ⟨false, 1, [.nilFunc], 8⟩ := by kernel_rfl
theorem el197 : elemI Try.prog 197 = none := by kernel_rfl
theorem ty198 : tyI Try.prog 198 = some ⟨false, 1, [.nilFunc], 8⟩ := by kernel_rfl
theorem el198 : elemI Try.prog 198 = none := by kernel_rfl
theorem ty199 : tyI Try.prog 199 = some ⟨false, 1, [.nilFunc], 8⟩ := by kernel_rfl
theorem el199 : elemI Try.prog 199 = none := by kernel_rfl
theorem ty200 : tyI Try.prog 200 = some ⟨false, 1, [.nilFunc], 8⟩ := by kernel_rfl
theorem el200 : elemI Try.prog 200 = none := by kernel_rfl
theorem ty201 : tyI Try.prog 201 = some ⟨false, 1, [.nilFunc], 8⟩ := by kernel_rfl
theorem el201 : elemI Try.prog 201 = none := by kernel_rfl
theorem ty202 : tyI Try.prog 202 = some ⟨false, 1, [.nilFunc], 8⟩ := by kernel_rfl
theorem el202 : elemI Try.prog 202 = none := by kernel_rfl
theorem ty203 : tyI Try.prog 203 = some ⟨false, 1, [.nilFunc], 8⟩ := by kernel_rfl
theorem el203 : elemI Try.prog 203 = none := by kernel_rfl
theorem ty204 : tyI Try.prog 204 = some ⟨false, 1, [.nilFunc], 8⟩ := by kernel_rfl
theorem el204 : elemI Try.prog 204 = none := by kernel_rfl
theorem ty205 : tyI Try.prog 205 = some ⟨false, 1, [.nilFunc], 8⟩ := by kernel_rfl
theorem el205 : elemI Try.prog 205 = none := by kernel_rfl
theorem ty206 : tyI Try.prog 206 = some ⟨false, 1, [.nilFunc], 8⟩ := by kernel_rfl
theorem el206 : elemI Try.prog 206 = none := by kernel_rfl
theorem ty207 : tyI Try.prog 207 = some ⟨false, 1, [.nilFunc], 8⟩ := by kernel_rfl
theorem el207 : elemI Try.prog 207 = none := by kernel_rfl
theorem ty208 : tyI Try.prog 208 = some ⟨false, 1, [.nilFunc], 8⟩ := by kernel_rfl
theorem el208 : elemI Try.prog 208 = none := by kernel_rfl
theorem ty209 : tyI Try.prog 209 = some ⟨false, 1, [.nilFunc], 8⟩ := by kernel_rfl
theorem el209 : elemI Try.prog 209 = none := by kernel_rfl
theorem ty210 : tyI Try.prog 210 = some ⟨false, 1, [.nilFunc], 8⟩ := by kernel_rfl
theorem el210 : elemI Try.prog 210 = none := by kernel_rfl
theorem ty211 : tyI Try.prog 211 = some ⟨false, 1, [.nilFunc], 8⟩ := by kernel_rfl
theorem el211 : elemI Try.prog 211 = none := by kernel_rfl
theorem ty212 : tyI Try.prog 212 = some ⟨false, 1, [.nilFunc], 8⟩ := by kernel_rfl
theorem el212 : elemI Try.prog 212 = none := by kernel_rfl
theorem ty213 : tyI Try.prog 213 = some ⟨false, 1, [.nilFunc], 8⟩ := by kernel_rfl
theorem el213 : elemI Try.prog 213 = none := by kernel_rfl
theorem ty214 : tyI Try.prog 214 = some ⟨false, 1, [.nilFunc], 8⟩ := by kernel_rfl
theorem el214 : elemI Try.prog 214 = none := by kernel_rfl
theorem ty215 : tyI Try.prog 215 = some ⟨false, 1, [.nilFunc], 8⟩ := by kernel_rfl
theorem el215 : elemI Try.prog 215 = none := by kernel_rfl
theorem ty216 : tyI Try.prog 216 = some ⟨false, 1, [.nilFunc], 8⟩ := by kernel_rfl
theorem el216 : elemI Try.prog 216 = none := by kernel_rfl
theorem ty217 : tyI Try.prog 217 = some ⟨false, 1, [.nilFunc], 8⟩ := by kernel_rfl
theorem el217 : elemI Try.prog 217 = none := by kernel_rfl
theorem ty218 : tyI Try.prog 218 = some ⟨false, 1, [.nilFunc], 8⟩ := by kernel_rfl
theorem el218 : elemI Try.prog 218 = none := by kernel_rfl
theorem ty219 : tyI Try.prog 219 = some ⟨false, 1, [.nilFunc], 8⟩ := by kernel_rfl
theorem el219 : elemI Try.prog 219 = none := by kernel_rfl
theorem ty220 : tyI Try.prog 220 = some ⟨false, 1, [(.int .u64 0)], 8⟩ := by kernel_rfl
theorem el220 : elemI Try.prog 220 = none := by kernel_rfl
theorem it220 : intI Try.prog 220 = some .u64 := by kernel_rfl
theorem ty221 : tyI Try.prog 221 = some ⟨false, 1, [.nilFunc], 8⟩ := by kernel_rfl
theorem el221 : elemI Try.prog 221 = none := by kernel_rfl
theorem ty222 : tyI Try.prog 222 = some ⟨false, 1, [.nilFunc], 8⟩ := by kernel_rfl
theorem el222 : elemI Try.prog 222 = none := by kernel_rfl
theorem ty223 : tyI Try.prog 223 = some ⟨false, 1, [.nilFunc], 8⟩ := by kernel_rfl
theorem el223 : elemI Try.prog 223 = none := by kernel_rfl
theorem ty224 : tyI Try.prog 224 = some ⟨false, 1, [.nilFunc], 8⟩ := by kernel_rfl
theorem el224 : elemI Try.prog 224 = none := by kernel_rfl
theorem ty225 : tyI Try.prog 225 = some ⟨false, 1, [.nilFunc], 8⟩ := by kernel_rfl
theorem el225 : elemI Try.prog 225 = none := by kernel_rfl
theorem ty226 : tyI Try.prog 226 = some ⟨false, 1, [.nilFunc], 8⟩ := by kernel_rfl
theorem el226 : elemI Try.prog 226 = none := by kernel_rfl
theorem ty227 : tyI Try.prog 227 = some ⟨false, 1, [.nilFunc], 8⟩ := by kernel_rfl
theorem el227 : elemI Try.prog 227 = none := by kernel_rfl
theorem ty228 : tyI Try.prog 228 = some ⟨false, 1, [.nilFunc], 8⟩ := by kernel_rfl
theorem el228 : elemI Try.prog 228 = none := by kernel_rfl
theorem ty229 : tyI Try.prog 229 = some ⟨false, 1, [.nilFunc], 8⟩ := by kernel_rfl
theorem el229 : elemI Try.prog 229 = none := by kernel_rfl
theorem ty230 : tyI Try.prog 230 = some ⟨false, 1, [.nilFunc], 8⟩ := by kernel_rfl
theorem el230 : elemI Try.prog 230 = none := by kernel_rfl
theorem el231 : elemI Try.prog 231 = none := by kernel_rfl
theorem ty232 : tyI Try.prog 232 = some ⟨false, 1, [.nilFunc], 8⟩ := by kernel_rfl
theorem el232 : elemI Try.prog 232 = none := by kernel_rfl
theorem ty233 : tyI Try.prog 233 = some ⟨false, 1, [.nilFunc], 8⟩ := by kernel_rfl
theorem el233 : elemI Try.prog 233 = none := by kernel_rfl
theorem ty234 : tyI Try.prog 234 = some ⟨false, 1, [.nilFunc], 8⟩ := by kernel_rfl
theorem el234 : elemI Try.prog 234 = none := by kernel_rfl
theorem ty235 : tyI Try.prog 235 = some ⟨false, 1, [(.int .u32 0)], 4⟩ := by kernel_rfl
theorem el235 : elemI Try.prog 235 = none := by kernel_rfl
theorem it235 : intI Try.prog 235 = some .u32 := by kernel_rfl
theorem el236 : elemI Try.prog 236 = none := by kernel_rfl
theorem ty237 : tyI Try.prog 237 = some ⟨false, 1, [.nilFunc], 8⟩ := by kernel_rfl
theorem el237 : elemI Try.prog 237 = none := by kernel_rfl
theorem ty238 : tyI Try.prog 238 = some ⟨false, 1, [(.int .u64 0)], 8⟩ := by kernel_rfl
theorem el238 : elemI Try.prog 238 = none := by kernel_rfl
theorem it238 : intI Try.prog 238 = some .u64 := by kernel_rfl
theorem el239 : elemI Try.prog 239 = none := by kernel_rfl
theorem ty240 : tyI Try.prog 240 = some ⟨false, 1, [.nilFunc], 8⟩ := by kernel_rfl
theorem el240 : elemI Try.prog 240 = none := by kernel_rfl
theorem ty241 : tyI Try.prog 241 = some ⟨false, 1, [.nilFunc], 8⟩ := by kernel_rfl
theorem el241 : elemI Try.prog 241 = none := by kernel_rfl
theorem ty242 : tyI Try.prog 242 = some ⟨true, 4, [(.pointer none), (.pointer none), (.pointer none), (.string ⟨#[]⟩)], 40⟩ := by kernel_rfl
theorem el242 : elemI Try.prog 242 = none := by kernel_rfl
theorem pl242 : placesI Try.prog 242 = some [(0, 1), (1, 1), (2, 1), (3, 1)] := by kernel_rfl
theorem fi242_0 : fieldI Try.prog 242 0 = some (0, 1, false) := by kernel_rfl
theorem fi242_1 : fieldI Try.prog 242 1 = some (1, 1, false) := by kernel_rfl
theorem fi242_2 : fieldI Try.prog 242 2 = some (2, 1, false) := by kernel_rfl
theorem fi242_3 : fieldI Try.prog 242 3 = some (3, 1, false) := by kernel_rfl
theorem ty243 : tyI Try.prog 243 = some ⟨true, 4, [(.pointer none), (.pointer none), (.pointer none), (.string ⟨#[]⟩)], 40⟩ := by kernel_rfl
theorem el243 : elemI Try.prog 243 = none := by kernel_rfl
theorem pl243 : placesI Try.prog 243 = some [(0, 1), (1, 1), (2, 1), (3, 1)] := by kernel_rfl
theorem fi243_0 : fieldI Try.prog 243 0 = some (0, 1, false) := by kernel_rfl
theorem fi243_1 : fieldI Try.prog 243 1 = some (1, 1, false) := by kernel_rfl
theorem fi243_2 : fieldI Try.prog 243 2 = some (2, 1, false) := by kernel_rfl
theorem fi243_3 : fieldI Try.prog 243 3 = some (3, 1, false) := by kernel_rfl
theorem ty244 : tyI Try.prog 244 = some ⟨true, 0, [], 0⟩ := by kernel_rfl
theorem el244 : elemI Try.prog 244 = none := by kernel_rfl
theorem ar244 : arrI Try.prog 244 = some (0, 16) := by kernel_rfl
theorem pl244 : placesI Try.prog 244 = some [] := by kernel_rfl
theorem ty245 : tyI Try.prog 245 = some ⟨true, 0, [], 0⟩ := by kernel_rfl
theorem el245 : elemI Try.prog 245 = none := by kernel_rfl
theorem pl245 : placesI Try.prog 245 = some [(0, 0)] := by kernel_rfl
theorem ty246 : tyI Try.prog 246 = some ⟨true, 0, [], 0⟩ := by kernel_rfl
theorem el246 : elemI Try.prog 246 = none := by kernel_rfl
theorem pl246 : placesI Try.prog 246 = some [(0, 0)] := by kernel_rfl
theorem ty247 : tyI Try.prog 247 = some ⟨false, 1, [(.int .u8 0)], 1⟩ := by kernel_rfl
theorem el247 : elemI Try.prog 247 = none := by kernel_rfl
theorem it247 : intI Try.prog 247 = some .u8 := by kernel_rfl
theorem ty248 : tyI Try.prog 248 = some ⟨false, 1, [(.int .u8 0)], 1⟩ := by kernel_rfl
theorem el248 : elemI Try.prog 248 = none := by kernel_rfl
theorem it248 : intI Try.prog 248 = some .u8 := by kernel_rfl
theorem ty249 : tyI Try.prog 249 = some ⟨false, 1, [.nilFunc], 8⟩ := by kernel_rfl
theorem el249 : elemI Try.prog 249 = none := by kernel_rfl
theorem ty250 : tyI Try.prog 250 = some ⟨false, 1, [(.pointer none)], 8⟩ := by kernel_rfl
theorem el250 : elemI Try.prog 250 = none := by kernel_rfl
theorem ty251 : tyI Try.prog 251 = some ⟨false, 1, [(.int .i32 0)], 4⟩ := by kernel_rfl
theorem el251 : elemI Try.prog 251 = none := by kernel_rfl
theorem it251 : intI Try.prog 251 = some .i32 := by kernel_rfl
theorem ty252 : tyI Try.prog 252 = some ⟨false, 1, [(.int .i32 0)], 4⟩ := by kernel_rfl
theorem el252 : elemI Try.prog 252 = none := by kernel_rfl
theorem it252 : intI Try.prog 252 = some .i32 := by kernel_rfl
theorem ty253 : tyI Try.prog 253 = some ⟨true, 11, [(.int .u64 0), (.int .u64 0), (.int .u32 0), (.int .u8 0), (.int .u8 0), (.int .u8 0), (.int .u8 0), .nilFunc, (.pointer none), (.int .i32 0), (.int .i32 0)], 48⟩ := by kernel_rfl
theorem el253 : elemI Try.prog 253 = none := by kernel_rfl
theorem pl253 : placesI Try.prog 253 = some [(0, 1), (1, 1), (2, 1), (3, 1), (4, 1), (5, 1), (6, 1), (7, 1), (8, 1), (9, 1), (10, 1)] := by kernel_rfl
theorem fi253_0 : fieldI Try.prog 253 0 = some (0, 1, false) := by kernel_rfl
theorem fi253_1 : fieldI Try.prog 253 1 = some (1, 1, false) := by kernel_rfl
theorem fi253_2 : fieldI Try.prog 253 2 = some (2, 1, false) := by kernel_rfl
theorem fi253_3 : fieldI Try.prog 253 3 = some (3, 1, false) := by kernel_rfl
theorem fi253_4 : fieldI Try.prog 253 4 = some (4, 1, false) := by kernel_rfl
theorem fi253_5 : fieldI Try.prog 253 5 = some (5, 1, false) := by kernel_rfl
theorem fi253_6 : fieldI Try.prog 253 6 = some (6, 1, false) := by kernel_rfl
theorem fi253_7 : fieldI Try.prog 253 7 = some (7, 1, false) := by kernel_rfl
theorem fi253_8 : fieldI Try.prog 253 8 = some (8, 1, false) := by kernel_rfl
theorem fi253_9 : fieldI Try.prog 253 9 = some (9, 1, false) := by kernel_rfl
theorem fi253_10 : fieldI Try.prog 253 10 = some (10, 1, false) := by kernel_rfl
theorem ty254 : tyI Try.prog 254 = some ⟨true, 11, [(.int .u64 0), (.int .u64 0), (.int .u32 0), (.int .u8 0), (.int .u8 0), (.int .u8 0), (.int .u8 0), .nilFunc, (.pointer none), (.int .i32 0), (.int .i32 0)], 48⟩ := by kernel_rfl
theorem el254 : elemI Try.prog 254 = none := by kernel_rfl
theorem pl254 : placesI Try.prog 254 = some [(0, 1), (1, 1), (2, 1), (3, 1), (4, 1), (5, 1), (6, 1), (7, 1), (8, 1), (9, 1), (10, 1)] := by kernel_rfl
theorem fi254_0 : fieldI Try.prog 254 0 = some (0, 1, false) := by kernel_rfl
theorem fi254_1 : fieldI Try.prog 254 1 = some (1, 1, false) := by kernel_rfl
theorem fi254_2 : fieldI Try.prog 254 2 = some (2, 1, false) := by kernel_rfl
theorem fi254_3 : fieldI Try.prog 254 3 = some (3, 1, false) := by kernel_rfl
theorem fi254_4 : fieldI Try.prog 254 4 = some (4, 1, false) := by kernel_rfl
theorem fi254_5 : fieldI Try.prog 254 5 = some (5, 1, false) := by kernel_rfl
theorem fi254_6 : fieldI Try.prog 254 6 = some (6, 1, false) := by kernel_rfl
theorem fi254_7 : fieldI Try.prog 254 7 = some (7, 1, false) := by kernel_rfl
theorem fi254_8 : fieldI Try.prog 254 8 = some (8, 1, false) := by kernel_rfl
theorem fi254_9 : fieldI Try.prog 254 9 = some (9, 1, false) := by kernel_rfl
theorem fi254_10 : fieldI Try.prog 254 10 = some (10, 1, false) := by kernel_rfl
theorem ty255 : tyI Try.prog 255 = some ⟨false, 1, [(.pointer none)], 8⟩ := by kernel_rfl
theorem el255 : elemI Try.prog 255 = none := by kernel_rfl
attribute [go_sem] el0 ty1 el1 ty2 el2 it2 ty3 el3 it3 ty4 el4 bl4 ty5 el5 it5 ty6 el6 it6 ty7 el7 eq7 pl7 fi7_0 fi7_1 fi7_2 fi7_3 ty8 el8 eq8 pl8 fi8_0 fi8_1 fi8_2 fi8_3 ty9 el9 ty10 el10 ty11 el11 ty12 el12 it12 ty13 el13 pl13 fi13_0 fi13_1 ty14 el14 pl14 fi14_0 fi14_1 ty15 el15 ty16 el16 ty17 el17 ty18 el18 pl18 fi18_0 ty19 el19 pl19 fi19_0 ty20 el20 ty21 el21 it21 ty22 el22 ty23 el23 ty24 el24 ty25 el25 pl25 fi25_0 fi25_1 fi25_2 ty26 el26 pl26 fi26_0 fi26_1 fi26_2 ty27 el27 ar27 pl27 ty28 el28 pl28 fi28_0 fi28_1 fi28_2 ty29 el29 pl29 fi29_0 fi29_1 fi29_2 ty30 el30 ty31 el31 ty32 el32 pl32 fi32_0 fi32_1 ty33 el33 pl33 fi33_0 fi33_1 ty34 el34 ty35 el35 ty36 el36 pl36 fi36_0 fi36_1 ty37 el37 pl37 fi37_0 fi37_1 ty38 el38 ty39 el39 eq39 pl39 fi39_0 fi39_1 ty40 el40 eq40 pl40 fi40_0 fi40_1 ty41 el41 eq41 pl41 fi41_0 fi41_1 ty42 el42 eq42 pl42 fi42_0 fi42_1 ty43 el43 el44 ty45 el45 ty46 el46 ty47 el47 it47 el48 ty49 el49 ty50 el50 ty51 el51 ty52 el52 ty53 el53 ty54 el54 ty55 el55 it55 ty56 el56 eq56 pl56 fi56_0 fi56_1 fi56_2 fi56_3 fi56_4 fi56_5 ty57 el57 eq57 pl57 fi57_0 fi57_1 fi57_2 fi57_3 fi57_4 fi57_5 el58 ty59 el59 ty60 el60 ty61 el61 eq61 pl61 fi61_0 fi61_1 ty62 el62 eq62 pl62 fi62_0 fi62_1 el63 ty64 el64 el65 ty66 el66 ty67 el67 ty68 el68 ty69 el69 ar69 pl69 ty70 el70 ar70 pl70 ty71 el71 ar71 pl71 ty72 el72 ar72 pl72 ty73 el73 ar73 pl73 ty74 el74 pl74 fi74_0 fi74_1 fi74_2 ty75 el75 pl75 fi75_0 fi75_1 fi75_2 ty76 el76 eq76 pl76 fi76_0 fi76_1 fi76_2 fi76_3 fi76_4 ty77 el77 eq77 pl77 fi77_0 fi77_1 fi77_2 fi77_3 fi77_4 el78 ty79 el79 ty80 el80 ty81 el81 pl81 fi81_0 fi81_1 fi81_2 fi81_3 fi81_4 fi81_5 fi81_6 fi81_7 fi81_8 fi81_9 fi81_10 ty82 el82 pl82 fi82_0 fi82_1 fi82_2 fi82_3 fi82_4 fi82_5 fi82_6 fi82_7 fi82_8 fi82_9 fi82_10 ty83 el83 el84 ty85 el85 ty86 el86 eq86 pl86 fi86_0 fi86_1 fi86_2 ty87 el87 eq87 pl87 fi87_0 fi87_1 fi87_2 ty88 el88 ty89 el89 it89 el90 ty91 el91 ty92 el92 el93 ty94 el94 ty95 el95 ty96 el96 ty97 el97 pl97 fi97_0 fi97_1 ty98 el98 pl98 fi98_0 fi98_1 ty99 el99 pl99 fi99_0 fi99_1 fi99_2 ty100 el100 pl100 fi100_0 fi100_1 fi100_2 ty101 el101 el102 ty103 el103 ty104 el104 ty105 el105 ty106 el106 eq106 pl106 fi106_0 fi106_1 fi106_2 fi106_3 ty107 el107 eq107 pl107 fi107_0 fi107_1 fi107_2 fi107_3 ty108 el108 eq108 pl108 fi108_0 fi108_1 ty109 el109 eq109 pl109 fi109_0 fi109_1 ty110 el110 eq110 pl110 fi110_0 fi110_1 ty111 el111 eq111 pl111 fi111_0 fi111_1 ty112 el112 ty113 el113 ty114 el114 el115 ty116 el116 ty117 el117 ty118 el118 ar118 pl118 ty119 el119 ar119 pl119 ty120 el120 ty121 el121 eq121 pl121 fi121_0 fi121_1 ty122 el122 eq122 pl122 fi122_0 fi122_1 ty123 el123 ty124 el124 ty125 el125 eq125 pl125 fi125_0 ty126 el126 eq126 pl126 fi126_0 ty127 el127 ty128 el128 ty129 el129 pl129 fi129_0 fi129_1 fi129_2 ty130 el130 pl130 fi130_0 fi130_1 fi130_2 el131 ty132 el132 el133 ty134 el134 ty135 el135 ty136 el136 ty137 el137 ty138 el138 ty139 el139 ty140 el140 ty141 el141 pl141 fi141_0 ty142 el142 pl142 fi142_0 el143 ty144 el144 ty145 el145 ty146 el146 ty147 el147 ty148 el148 mp148 ty149 el149 ty150 el150 eq150 pl150 fi150_0 fi150_1 ty151 el151 eq151 pl151 fi151_0 fi151_1 ty152 el152 ty153 el153 ty154 el154 ty155 el155 ty156 el156 eq156 pl156 fi156_0 fi156_1 ty157 el157 eq157 pl157 fi157_0 fi157_1 ty158 el158 ty159 el159 ty160 el160 pl160 fi160_0 ty161 el161 pl161 fi161_0 ty162 el162 ty163 el163 ty164 el164 ty165 el165 ty166 el166 pl166 fi166_0 fi166_1 ty167 el167 pl167 fi167_0 fi167_1 el168 ty169 el169 ty170 el170 ty171 el171 ty172 el172 ty173 el173 ty174 el174 ty175 el175 ty176 el176 ty177 el177 ty178 el178 ty179 el179 ty180 el180 ty181 el181 ty182 el182 ty183 el183 ty184 el184 ty185 el185 ty186 el186 ty187 el187 ty188 el188 ty189 el189 ty190 el190 ty191 el191 ty192 el192 ty193 el193 ty194 el194 ty195 el195 ty196 el196 ty197 el197 ty198 el198 ty199 el199 ty200 el200 ty201 el201 ty202 el202 ty203 el203 ty204 el204 ty205 el205 ty206 el206 ty207 el207 ty208 el208 ty209 el209 ty210 el210 ty211 el211 ty212 el212 ty213 el213 ty214 el214 ty215 el215 ty216 el216 ty217 el217 ty218 el218 ty219 el219 ty220 el220 it220 ty221 el221 ty222 el222 ty223 el223 ty224 el224 ty225 el225 ty226 el226 ty227 el227 ty228 el228 ty229 el229 ty230 el230 el231 ty232 el232 ty233 el233 ty234 el234 ty235 el235 it235 el236 ty237 el237 ty238 el238 it238 el239 ty240 el240 ty241 el241 ty242 el242 pl242 fi242_0 fi242_1 fi242_2 fi242_3 ty243 el243 pl243 fi243_0 fi243_1 fi243_2 fi243_3 ty244 el244 ar244 pl244 ty245 el245 pl245 ty246 el246 pl246 ty247 el247 it247 ty248 el248 it248 ty249 el249 ty250 el250 ty251 el251 it251 ty252 el252 it252 ty253 el253 pl253 fi253_0 fi253_1 fi253_2 fi253_3 fi253_4 fi253_5 fi253_6 fi253_7 fi253_8 fi253_9 fi253_10 ty254 el254 pl254 fi254_0 fi254_1 fi254_2 fi254_3 fi254_4 fi254_5 fi254_6 fi254_7 fi254_8 fi254_9 fi254_10 ty255 el255
end Go.Dw.Seat
end
section
namespace Go.Dw.Seat
open Go Go.Dw
def Tm (n : Nat) : Operand := .tmp n
def Kn (n : Int) : Operand := .const (.int .i64 n)
def Kb (b : Bool) : Operand := .const (.bool b)
def Mv (a c : Nat) : SO := ⟨some a, .move (.tmp c), none⟩
def Sg (a c : Nat) : SO := ⟨some a, .assign (.tmp c), none⟩
def Sk (a : Nat) (c : Operand) : SO := ⟨some a, .assign c, none⟩
def Ld (a b c : Nat) : SO := ⟨some a, .load b (.tmp c), none⟩
def Fa (a b c d : Nat) : SO := ⟨some a, .fieldAddr b (.tmp c) d, none⟩
def Xt (a c d : Nat) : SO := ⟨some a, .extract (.tmp c) d, none⟩
def Ix (a b c d : Nat) : SO := ⟨some a, .indexAddr b (.tmp c) (.tmp d), none⟩
def Lq (a c t : Nat) : SO := ⟨some a, .call { callee := .builtin .len, args := #[.tmp c], argTypes := #[t] }, none⟩
def Cl (a f : Nat) (x : Array Operand) (y : Array TypeId) : SO := ⟨some a, .call { callee := .value (.func f), args := x, argTypes := y }, none⟩
def Bo (a : Nat) (o : BinOp) (t : Nat) (x y : Operand) (u : Nat) : SO := ⟨some a, .binOp o t x y u, none⟩
def Pk (a x : Nat) (y z : Operand) : SO := ⟨some a, .pick (.tmp x) y z, none⟩
def Sr (t : Nat) (x y : Operand) : SO := ⟨none, .store t x y, none⟩
def Nk (a c : Nat) : SO := ⟨some a, .nilCheck (.tmp c), none⟩
def Oo (a : Nat) (o : Op) : SO := ⟨some a, o, none⟩
def Gm (a c g : Nat) (b : Bool) : SO := ⟨some a, .move (.tmp c), some (g, b)⟩
def Gl (a t c g : Nat) (b : Bool) : SO := ⟨some a, .load t (.tmp c), some (g, b)⟩
def Gf (a t c d g : Nat) (b : Bool) : SO := ⟨some a, .fieldAddr t (.tmp c) d, some (g, b)⟩
def Gx (a t c d g : Nat) (b : Bool) : SO := ⟨some a, .indexAddr t (.tmp c) (.tmp d), some (g, b)⟩
def Gc (a f : Nat) (x : Array Operand) (y : Array TypeId) (g : Nat) (b : Bool) : SO := ⟨some a, .call { callee := .value (.func f), args := x, argTypes := y }, some (g, b)⟩
def Gb (a : Nat) (o : BinOp) (t : Nat) (x y : Operand) (u g : Nat) (b : Bool) : SO := ⟨some a, .binOp o t x y u, some (g, b)⟩
def Og (a : Nat) (o : Op) (g : Nat) (b : Bool) : SO := ⟨some a, o, some (g, b)⟩
abbrev R0 (l : List SO) : SC := .reg false l
abbrev R1 (l : List SO) : SC := .reg true l
attribute [go_sem] Tm Kn Kb Mv Sg Sk Ld Fa Xt Ix Lq Cl Bo Pk Sr Nk Oo Gm Gl Gf Gx Gc Gb Og
end Go.Dw.Seat
namespace Go.Dw.Seat
open Go Go.Dw Go.Proofs
def o3_0 : SO := (Fa 103 33 16 0)
def o3_1 : SO := (Ld 104 30 103)
def o3_2 : SO := (Mv 105 18)
def o3_3 : SO := (Ld 109 42 14)
def o3_4 : SO := (Mv 110 15)
def o3_5 : SO := (Mv 111 15)
def o3_6 : SO := (Cl 112 15 #[Tm 110, Tm 111] #[3, 3])
def o3_7 : SO := (Ix 113 30 104 105)
def o3_8 : SO := (Fa 114 57 113 3)
def o3_9 : SO := (Fa 106 33 17 0)
def o3_10 : SO := (Ld 107 30 106)
def o3_11 : SO := (Mv 108 18)
def o3_12 : SO := (Sr 42 (Tm 114) (Tm 109))
def o3_13 : SO := (Ix 115 30 107 108)
def o3_14 : SO := (Fa 116 57 115 3)
def o3_15 : SO := (Sr 42 (Tm 116) (Tm 112))
def o3_16 : SO := (Ld 118 33 16)
def o3_17 : SO := (Cl 119 14 #[Tm 118] #[33])
def o3_18 : SO := (Ld 120 37 8)
def o3_19 : SO := (Cl 121 17 #[Tm 120] #[37])
def o3_20 : SO := (Cl 122 16 #[Tm 119, Tm 121] #[33, 37])
def o3_21 : SO := (Mv 117 122)
def o3_22 : SO := (Xt 123 117 0)
def o3_23 : SO := (Oo 19 (.alloc 42))
def o3_24 : SO := (Oo 20 (.alloc 42))
def o3_25 : SO := (Xt 124 117 1)
def o3_26 : SO := (Xt 125 117 2)
def o3_27 : SO := (Sr 42 (Tm 19) (Tm 123))
def o3_28 : SO := (Sr 42 (Tm 20) (Tm 124))
def o3_29 : SO := (Sg 21 125)
def o3_30 : SO := (Ld 127 33 17)
def o3_31 : SO := (Ld 128 37 8)
def o3_32 : SO := (Cl 129 17 #[Tm 128] #[37])
def o3_33 : SO := (Cl 130 16 #[Tm 127, Tm 129] #[33, 37])
def o3_34 : SO := (Mv 126 130)
def o3_35 : SO := (Xt 131 126 0)
def o3_36 : SO := (Oo 22 (.alloc 42))
def o3_37 : SO := (Oo 23 (.alloc 42))
def o3_38 : SO := (Xt 132 126 1)
def o3_39 : SO := (Xt 133 126 2)
def o3_40 : SO := (Sr 42 (Tm 22) (Tm 131))
def o3_41 : SO := (Sr 42 (Tm 23) (Tm 132))
def o3_42 : SO := (Sg 24 133)
def o3_43 : SO := (Ld 135 33 7)
def o3_44 : SO := (Cl 136 14 #[Tm 135] #[33])
def o3_45 : SO := (Ld 137 37 8)
def o3_46 : SO := (Cl 138 17 #[Tm 137] #[37])
def o3_47 : SO := (Cl 139 16 #[Tm 136, Tm 138] #[33, 37])
def o3_48 : SO := (Mv 134 139)
def o3_49 : SO := (Xt 140 134 0)
def o3_50 : SO := (Oo 25 (.alloc 42))
def o3_51 : SO := (Oo 26 (.alloc 42))
def o3_52 : SO := (Xt 141 134 1)
def o3_53 : SO := (Xt 142 134 2)
def o3_54 : SO := (Sr 42 (Tm 25) (Tm 140))
def o3_55 : SO := (Sr 42 (Tm 26) (Tm 141))
def o3_56 : SO := (Sg 27 142)
def o3_57 : SO := (Ld 144 33 7)
def o3_58 : SO := (Cl 145 14 #[Tm 144] #[33])
def o3_59 : SO := (Ld 146 37 8)
def o3_60 : SO := (Cl 147 17 #[Tm 146] #[37])
def o3_61 : SO := (Cl 148 18 #[Tm 145, Tm 147] #[33, 37])
def o3_62 : SO := (Mv 143 148)
def o3_63 : SO := (Xt 149 143 0)
def o3_64 : SO := (Oo 28 (.alloc 62))
def o3_65 : SO := (Xt 150 143 1)
def o3_66 : SO := (Sr 62 (Tm 28) (Tm 149))
def o3_67 : SO := (Sg 29 150)
def o3_68 : SO := (Ld 152 33 16)
def o3_69 : SO := (Cl 153 14 #[Tm 152] #[33])
def o3_70 : SO := (Ld 154 37 8)
def o3_71 : SO := (Cl 155 17 #[Tm 154] #[37])
def o3_72 : SO := (Cl 156 18 #[Tm 153, Tm 155] #[33, 37])
def o3_73 : SO := (Mv 151 156)
def o3_74 : SO := (Xt 157 151 0)
def o3_75 : SO := (Oo 30 (.alloc 62))
def o3_76 : SO := (Xt 158 151 1)
def o3_77 : SO := (Sr 62 (Tm 30) (Tm 157))
def o3_78 : SO := (Sg 31 158)
def s3 : SF := ⟨265, [.tmp 6], (.seq (R0 [Oo 3 (.box 26 (Tm 0)), Oo 4 (.box 29 (Tm 1)), Sk 6 (Kb false)]) (.seq (R1 [Ld 36 26 3, Cl 37 7 #[Tm 36] #[26], Ld 38 26 3, Cl 39 8 #[Tm 38] #[26], Oo 7 (.alloc 33), Oo 8 (.alloc 37), Sr 33 (Tm 7) (Tm 37), Sr 37 (Tm 8) (Tm 39)]) (.seq (R0 [Ld 41 29 4, Cl 42 9 #[Tm 41] #[29], Mv 40 42, Xt 43 40 0, Xt 44 40 1, Xt 45 40 2, Oo 9 (.alloc 40), Oo 10 (.alloc 42), Sr 40 (Tm 9) (Tm 43), Sr 42 (Tm 10) (Tm 44), Sg 11 45]) (.seq (R1 [Ld 47 40 9, Ld 48 42 10, Mv 49 11, Cl 50 11 #[Tm 49] #[43], Cl 51 10 #[Tm 47, Tm 48, Tm 50] #[40, 42, 43], Mv 46 51, Xt 52 46 0, Xt 53 46 1, Sg 12 52, Sg 13 53]) (.seq (.seq (R0 [Mv 54 13, Bo 55 .neq 47 (Tm 54) (Kn 0) 47, Mv 56 55, Gm 57 12 56 false, Og 58 (.call { callee := .builtin .len, args := #[Tm 57], argTypes := #[46] }) 56 false, Gm 59 11 56 false, Og 60 (.call { callee := .builtin .len, args := #[Tm 59], argTypes := #[43] }) 56 false, Gb 61 .neq 3 (Tm 58) (Tm 60) 3 56 false, Pk 62 56 (Kb true) (Tm 61)]) (.cond (Tm 62) (.seq (R0 [Sk 6 (Kb false)]) .ret) .skip)) (.seq (R1 [Ld 63 42 10, Ld 64 40 9, Ld 65 42 10, Mv 66 11, Mv 67 2, Cl 68 12 #[Tm 64, Tm 65, Tm 66, Tm 67] #[40, 42, 43, 24], Oo 14 (.alloc 42), Sr 42 (Tm 14) (Tm 63), Sg 15 68]) (.seq (.seq (R0 [Mv 69 12, Lq 70 69 46, Bo 71 .gtr 3 (Tm 70) (Kn 0) 3]) (.cond (Tm 71) (R0 [Mv 72 12, Mv 73 12, Lq 74 73 46, Bo 75 .sub 3 (Tm 74) (Kn 1) 3, Ix 76 46 72 75, Ld 77 42 76, Sr 42 (Tm 14) (Tm 77)]) .skip)) (.seq (.seq (R0 [Fa 78 42 14 0, Ld 79 3 78, Bo 80 .lss 3 (Tm 79) (Kn 0) 3, Mv 81 80, Gf 82 42 14 1 81 false, Gl 83 3 82 81 false, Gb 84 .gtr 3 (Tm 83) (Kn 200) 3 81 false, Pk 85 81 (Kb true) (Tm 84), Mv 86 85, Gm 87 15 86 false, Gl 88 42 14 86 false, Gc 89 13 #[Tm 87, Tm 88] #[3, 42] 86 false, Og 90 (.unOp .not 4 (Tm 89)) 86 false, Pk 91 86 (Kb true) (Tm 90)]) (.cond (Tm 91) (.seq (R0 [Sk 6 (Kb false)]) .ret) .skip)) (.seq (R1 [Ld 92 33 7, Cl 93 14 #[Tm 92] #[33], Ld 94 33 7, Cl 95 14 #[Tm 94] #[33], Oo 16 (.alloc 33), Oo 17 (.alloc 33), Sr 33 (Tm 16) (Tm 93), Sr 33 (Tm 17) (Tm 95)]) (.seq (.seq (R0 [Sk 18 (Kn 0)]) (.block 0 (.loop (.seq (.seq (R0 [Mv 96 18, Fa 97 33 7 0, Ld 98 30 97, Lq 99 98 30, Bo 100 .lss 3 (Tm 96) (Tm 99) 3]) (.cond (Tm 100) .skip (.exit 0))) (.seq (.block 1 (.ord (.op o3_0 (.op o3_1 (.op o3_2 (.op o3_3 (.op o3_4 (.op o3_5 (.op o3_6 (.op o3_7 (.op o3_8 (.alt (.op o3_9 (.alt (.op o3_10 (.alt (.op o3_11 (.op o3_12 (.op o3_13 (.op o3_14 (.op o3_15 .done))))) (.op o3_12 (.op o3_11 (.op o3_13 (.op o3_14 (.op o3_15 .done))))))) (.alt (.op o3_11 (.alt (.op o3_10 (.op o3_12 (.op o3_13 (.op o3_14 (.op o3_15 .done))))) (.op o3_12 (.op o3_10 (.op o3_13 (.op o3_14 (.op o3_15 .done))))))) (.op o3_12 (.op o3_10 (.op o3_11 (.op o3_13 (.op o3_14 (.op o3_15 .done))))))))) (.alt (.op o3_11 (.alt (.op o3_9 (.alt (.op o3_10 (.op o3_12 (.op o3_13 (.op o3_14 (.op o3_15 .done))))) (.op o3_12 (.op o3_10 (.op o3_13 (.op o3_14 (.op o3_15 .done))))))) (.op o3_12 (.op o3_9 (.op o3_10 (.op o3_13 (.op o3_14 (.op o3_15 .done)))))))) (.op o3_12 (.op o3_9 (.op o3_10 (.op o3_11 (.op o3_13 (.op o3_14 (.op o3_15 .done)))))))))))))))))))) (R0 [Mv 101 18, Bo 102 .add 3 (Tm 101) (Kn 1) 3, Sg 18 102])))))) (.seq (.ord (.op o3_16 (.op o3_17 (.op o3_18 (.op o3_19 (.op o3_20 (.op o3_21 (.op o3_22 (.op o3_23 (.op o3_24 (.alt (.op o3_25 (.alt (.op o3_26 (.op o3_27 (.op o3_28 (.op o3_29 .done)))) (.op o3_27 (.alt (.op o3_26 (.op o3_28 (.op o3_29 .done))) (.op o3_28 (.op o3_26 (.op o3_29 .done))))))) (.alt (.op o3_26 (.alt (.op o3_25 (.op o3_27 (.op o3_28 (.op o3_29 .done)))) (.op o3_27 (.op o3_25 (.op o3_28 (.op o3_29 .done)))))) (.op o3_27 (.op o3_25 (.alt (.op o3_26 (.op o3_28 (.op o3_29 .done))) (.op o3_28 (.op o3_26 (.op o3_29 .done)))))))))))))))))) (.seq (.ord (.op o3_30 (.op o3_31 (.op o3_32 (.op o3_33 (.op o3_34 (.op o3_35 (.op o3_36 (.op o3_37 (.alt (.op o3_38 (.alt (.op o3_39 (.op o3_40 (.op o3_41 (.op o3_42 .done)))) (.op o3_40 (.alt (.op o3_39 (.op o3_41 (.op o3_42 .done))) (.op o3_41 (.op o3_39 (.op o3_42 .done))))))) (.alt (.op o3_39 (.alt (.op o3_38 (.op o3_40 (.op o3_41 (.op o3_42 .done)))) (.op o3_40 (.op o3_38 (.op o3_41 (.op o3_42 .done)))))) (.op o3_40 (.op o3_38 (.alt (.op o3_39 (.op o3_41 (.op o3_42 .done))) (.op o3_41 (.op o3_39 (.op o3_42 .done))))))))))))))))) (.seq (.ord (.op o3_43 (.op o3_44 (.op o3_45 (.op o3_46 (.op o3_47 (.op o3_48 (.op o3_49 (.op o3_50 (.op o3_51 (.alt (.op o3_52 (.alt (.op o3_53 (.op o3_54 (.op o3_55 (.op o3_56 .done)))) (.op o3_54 (.alt (.op o3_53 (.op o3_55 (.op o3_56 .done))) (.op o3_55 (.op o3_53 (.op o3_56 .done))))))) (.alt (.op o3_53 (.alt (.op o3_52 (.op o3_54 (.op o3_55 (.op o3_56 .done)))) (.op o3_54 (.op o3_52 (.op o3_55 (.op o3_56 .done)))))) (.op o3_54 (.op o3_52 (.alt (.op o3_53 (.op o3_55 (.op o3_56 .done))) (.op o3_55 (.op o3_53 (.op o3_56 .done)))))))))))))))))) (.seq (.ord (.op o3_57 (.op o3_58 (.op o3_59 (.op o3_60 (.op o3_61 (.op o3_62 (.op o3_63 (.op o3_64 (.alt (.op o3_65 (.op o3_66 (.op o3_67 .done))) (.op o3_66 (.op o3_65 (.op o3_67 .done))))))))))))) (.seq (.ord (.op o3_68 (.op o3_69 (.op o3_70 (.op o3_71 (.op o3_72 (.op o3_73 (.op o3_74 (.op o3_75 (.alt (.op o3_76 (.op o3_77 (.op o3_78 .done))) (.op o3_77 (.op o3_76 (.op o3_78 .done))))))))))))) (.seq (R1 [Ld 160 33 7, Ld 161 37 8, Cl 162 17 #[Tm 161] #[37], Cl 163 19 #[Tm 160, Tm 162] #[33, 37], Mv 159 163, Xt 164 159 0, Xt 165 159 1, Sg 32 164, Sg 33 165]) (.seq (R1 [Ld 167 33 16, Ld 168 37 8, Cl 169 17 #[Tm 168] #[37], Cl 170 19 #[Tm 167, Tm 169] #[33, 37], Mv 166 170, Xt 171 166 0, Xt 172 166 1, Sg 34 171, Sg 35 172]) (.seq (.seq (R0 [Mv 173 21, Bo 174 .neq 47 (Tm 173) (Kn 0) 47, Mv 175 174, Gm 176 24 175 false, Gb 177 .neq 47 (Tm 176) (Kn 0) 47 175 false, Pk 178 175 (Kb true) (Tm 177), Mv 179 178, Gm 180 27 179 false, Gb 181 .neq 47 (Tm 180) (Kn 0) 47 179 false, Pk 182 179 (Kb true) (Tm 181), Mv 183 182, Gm 184 29 183 false, Gb 185 .neq 47 (Tm 184) (Kn 0) 47 183 false, Pk 186 183 (Kb true) (Tm 185), Mv 187 186, Gm 188 31 187 false, Gb 189 .neq 47 (Tm 188) (Kn 0) 47 187 false, Pk 190 187 (Kb true) (Tm 189), Mv 191 190, Gm 192 33 191 false, Gb 193 .neq 47 (Tm 192) (Kn 0) 47 191 false, Pk 194 191 (Kb true) (Tm 193), Mv 195 194, Gm 196 35 195 false, Gb 197 .neq 47 (Tm 196) (Kn 0) 47 195 false, Pk 198 195 (Kb true) (Tm 197), Mv 199 198, Gf 200 62 28 1 199 false, Gl 201 3 200 199 false, Gb 202 .lss 3 (Tm 201) (Kn 1) 3 199 false, Pk 203 199 (Kb true) (Tm 202), Mv 204 203, Gf 205 62 28 1 204 false, Gl 206 3 205 204 false, Gb 207 .gtr 3 (Tm 206) (Kn 268435456) 3 204 false, Pk 208 204 (Kb true) (Tm 207), Mv 209 208, Gf 210 62 28 0 209 false, Gl 211 3 210 209 false, Gb 212 .lss 3 (Tm 211) (Kn 0) 3 209 false, Pk 213 209 (Kb true) (Tm 212), Mv 214 213, Gf 215 62 28 0 214 false, Gl 216 3 215 214 false, Gb 217 .gtr 3 (Tm 216) (Kn 1099511627776) 3 214 false, Pk 218 214 (Kb true) (Tm 217)]) (.cond (Tm 218) (.seq (R0 [Sk 6 (Kb false)]) .ret) .skip)) (.seq (R1 [Fa 219 42 22 0, Ld 220 3 219, Fa 221 42 22 1, Ld 222 3 221, Bo 223 .eql 3 (Tm 220) (Tm 222) 3, Mv 224 223, Gf 225 42 22 0 224 true, Gl 226 3 225 224 true, Gl 227 42 19 224 true, Gc 228 13 #[Tm 226, Tm 227] #[3, 42] 224 true, Pk 229 224 (Tm 228) (Kb false), Mv 230 229, Gf 231 42 22 0 230 true, Gl 232 3 231 230 true, Gf 233 62 28 0 230 true, Gl 234 3 233 230 true, Gm 235 15 230 true, Gb 236 .add 3 (Kn 1000) (Tm 235) 3 230 true, Gb 237 .mul 3 (Tm 234) (Tm 236) 3 230 true, Gf 238 62 28 1 230 true, Gl 239 3 238 230 true, Gb 240 .mul 3 (Kn 1000) (Tm 239) 3 230 true, Gb 241 .quo 3 (Tm 237) (Tm 240) 3 230 true, Gb 242 .eql 3 (Tm 232) (Tm 241) 3 230 true, Pk 243 230 (Tm 242) (Kb false), Mv 244 243, Gl 245 42 20 244 true, Gl 246 42 26 244 true, Gb 247 .eql 42 (Tm 245) (Tm 246) 42 244 true, Pk 248 244 (Tm 247) (Kb false), Mv 249 248, Gl 250 62 28 249 true, Gl 251 62 30 249 true, Gb 252 .eql 62 (Tm 250) (Tm 251) 62 249 true, Pk 253 249 (Tm 252) (Kb false), Mv 254 253, Gm 255 32 254 true, Gm 256 34 254 true, Gb 257 .eql 3 (Tm 255) (Tm 256) 3 254 true, Pk 258 254 (Tm 257) (Kb false), Mv 259 258, Gc 260 20 #[] #[] 259 true, Pk 261 259 (Tm 260) (Kb false), Mv 262 261, Gc 263 21 #[] #[] 262 true, Pk 264 262 (Tm 263) (Kb false), Sg 6 264]) .ret)))))))))))))))))))⟩
theorem hb3 : hasBody Try.prog 3 = true := by kernel_rfl
def s4 : SF := ⟨196, [.tmp 4], (.seq (R0 [Oo 2 (.box 75 (Tm 0)), Oo 3 (.box 27 (Tm 1)), Sk 4 (Kb false)]) (.seq (R0 [Ld 20 75 2, Cl 21 22 #[Tm 20] #[75], Oo 5 (.alloc 33), Sr 33 (Tm 5) (Tm 21)]) (.seq (.seq (R0 [Sk 6 (Kn 0)]) (.block 0 (.loop (.seq (.seq (R0 [Mv 22 6, Bo 23 .lss 3 (Tm 22) (Kn 3) 3]) (.cond (Tm 23) .skip (.exit 0))) (.seq (.block 1 (R1 [Fa 26 33 5 0, Ld 27 30 26, Mv 28 6, Mv 29 6, Fa 30 75 2 0, Ix 31 70 30 29, Oo 32 (.indexAddr 69 (Tm 31) (Kn 0)), Ld 33 5 32, Oo 34 (.convert 5 3 (Tm 33)), Bo 35 .mul 3 (Kn 200) (Tm 34) 3, Ix 36 30 27 28, Fa 37 57 36 4, Sr 3 (Tm 37) (Tm 35)])) (R0 [Mv 24 6, Bo 25 .add 3 (Tm 24) (Kn 1) 3, Sg 6 25])))))) (.seq (R0 [Ld 39 33 5, Cl 40 24 #[Tm 39] #[33], Cl 41 25 #[] #[], Cl 42 23 #[Tm 40, Tm 41] #[33, 37], Mv 38 42, Xt 43 38 0, Xt 44 38 1, Sg 7 43, Sg 8 44]) (.seq (.seq (R0 [Mv 45 8, Bo 46 .neq 47 (Tm 45) (Kn 0) 47, Mv 47 46, Gm 48 7 47 false, Gb 49 .lss 3 (Tm 48) (Kn 0) 3 47 false, Pk 50 47 (Kb true) (Tm 49), Mv 51 50, Gm 52 7 51 false, Gb 53 .gtr 3 (Tm 52) (Kn 100000) 3 51 false, Pk 54 51 (Kb true) (Tm 53)]) (.cond (Tm 54) (.seq (R0 [Sk 4 (Kb false)]) .ret) .skip)) (.seq (R1 [Oo 55 (.indexAddr 27 (Tm 3) (Kn 0)), Ld 56 5 55, Oo 57 (.convert 5 3 (Tm 56)), Bo 58 .mul 3 (Tm 57) (Kn 4) 3, Bo 59 .add 3 (Kn 1) (Tm 58) 3, Oo 60 (.indexAddr 27 (Tm 3) (Kn 1)), Ld 61 5 60, Oo 62 (.convert 5 3 (Tm 61)), Bo 63 .rem 3 (Tm 62) (Kn 10) 3, Bo 64 .add 3 (Kn 1) (Tm 63) 3, Sg 9 59, Sg 10 64]) (.seq (R0 [Mv 65 9, Mv 66 10, Bo 67 .mul 3 (Tm 65) (Tm 66) 3, Sg 11 67]) (.seq (R0 [Mv 69 10, Bo 70 .mul 3 (Kn 10000) (Tm 69) 3, Mv 71 7, Oo 72 (.build 82 #[(0, (Tm 70)), (1, (Tm 71)), (5, (Kn 1)), (7, (Kn 1))]), Mv 73 9, Cl 74 26 #[Tm 72, Tm 73] #[82, 3], Mv 68 74, Xt 75 68 0, Xt 76 68 1, Xt 77 68 2, Oo 12 (.alloc 77), Sr 77 (Tm 12) (Tm 75), Sg 13 76, Sg 14 77]) (.seq (R0 [Ld 79 33 5, Cl 80 24 #[Tm 79] #[33], Cl 81 25 #[] #[], Mv 82 11, Cl 83 27 #[Tm 80, Tm 81, Tm 82] #[33, 37, 3], Mv 78 83, Xt 84 78 0, Xt 85 78 1, Sg 15 84, Sg 16 85]) (.seq (.seq (R0 [Mv 86 14, Bo 87 .neq 47 (Tm 86) (Kn 0) 47, Mv 88 87, Gm 89 16 88 false, Gb 90 .neq 47 (Tm 89) (Kn 0) 47 88 false, Pk 91 88 (Kb true) (Tm 90), Mv 92 91, Gm 93 15 92 false, Og 94 (.call { callee := .builtin .len, args := #[Tm 93], argTypes := #[83] }) 92 false, Gb 95 .neq 3 (Tm 94) (Kn 3) 3 92 false, Pk 96 92 (Kb true) (Tm 95), Mv 97 96, Gf 98 77 12 0 97 false, Gl 99 3 98 97 false, Gb 100 .lss 3 (Tm 99) (Kn 0) 3 97 false, Pk 101 97 (Kb true) (Tm 100), Mv 102 101, Gf 103 77 12 0 102 false, Gl 104 3 103 102 false, Gb 105 .gtr 3 (Tm 104) (Kn 10000000) 3 102 false, Pk 106 102 (Kb true) (Tm 105)]) (.cond (Tm 106) (.seq (R0 [Sk 4 (Kb false)]) .ret) .skip)) (.seq (R0 [Fa 107 33 5 1, Ld 108 31 107, Oo 109 (.indexAddr 31 (Tm 108) (Kn 0)), Fa 110 87 109 0, Ld 111 3 110, Sg 17 111, Sk 18 (Kn 0)]) (.seq (.seq (R0 [Sk 19 (Kn 0)]) (.block 2 (.loop (.seq (.seq (R0 [Mv 112 19, Bo 113 .lss 3 (Tm 112) (Kn 3) 3]) (.cond (Tm 113) .skip (.exit 2))) (.seq (.block 3 (.seq (.seq (R0 [Mv 116 15, Mv 117 19, Ix 118 83 116 117, Fa 119 62 118 1, Ld 120 3 119, Bo 121 .lss 3 (Tm 120) (Kn 1) 3, Mv 122 121, Gm 123 17 122 false, Gm 124 15 122 false, Gm 125 19 122 false, Gx 126 83 124 125 122 false, Gf 127 62 126 1 122 false, Gl 128 3 127 122 false, Gb 129 .rem 3 (Tm 123) (Tm 128) 3 122 false, Gb 130 .neq 3 (Tm 129) (Kn 0) 3 122 false, Pk 131 122 (Kb true) (Tm 130), Mv 132 131, Gm 133 15 132 false, Gm 134 19 132 false, Gx 135 83 133 134 132 false, Gf 136 62 135 0 132 false, Gl 137 3 136 132 false, Gb 138 .lss 3 (Tm 137) (Kn 0) 3 132 false, Pk 139 132 (Kb true) (Tm 138), Mv 140 139, Gm 141 15 140 false, Gm 142 19 140 false, Gx 143 83 141 142 140 false, Gf 144 62 143 0 140 false, Gl 145 3 144 140 false, Gb 146 .gtr 3 (Tm 145) (Kn 1099511627776) 3 140 false, Pk 147 140 (Kb true) (Tm 146)]) (.cond (Tm 147) (.seq (R0 [Sk 4 (Kb false)]) .ret) .skip)) (R1 [Mv 148 18, Mv 149 15, Mv 150 19, Ix 151 83 149 150, Fa 152 62 151 0, Ld 153 3 152, Mv 154 17, Mv 155 15, Mv 156 19, Ix 157 83 155 156, Fa 158 62 157 1, Ld 159 3 158, Bo 160 .quo 3 (Tm 154) (Tm 159) 3, Bo 161 .mul 3 (Tm 153) (Tm 160) 3, Fa 162 33 5 0, Ld 163 30 162, Mv 164 19, Ix 165 30 163 164, Fa 166 57 165 4, Ld 167 3 166, Bo 168 .mul 3 (Tm 161) (Tm 167) 3, Bo 169 .add 3 (Tm 148) (Tm 168) 3, Sg 18 169]))) (R0 [Mv 114 19, Bo 115 .add 3 (Tm 114) (Kn 1) 3, Sg 19 115])))))) (.seq (R0 [Fa 170 77 12 0, Ld 171 3 170, Bo 172 .mul 3 (Tm 171) (Kn 1000000) 3, Mv 173 17, Bo 174 .mul 3 (Tm 172) (Tm 173) 3, Mv 175 18, Bo 176 .geq 3 (Tm 174) (Tm 175) 3, Mv 177 176, Gf 178 77 12 0 177 true, Gl 179 3 178 177 true, Gb 180 .mul 3 (Tm 179) (Kn 1000) 3 177 true, Gm 181 11 177 true, Gb 182 .sub 3 (Tm 180) (Tm 181) 3 177 true, Gb 183 .sub 3 (Tm 182) (Kn 1000) 3 177 true, Gb 184 .mul 3 (Tm 183) (Kn 1000) 3 177 true, Gm 185 17 177 true, Gb 186 .mul 3 (Tm 184) (Tm 185) 3 177 true, Gm 187 18 177 true, Gb 188 .lss 3 (Tm 186) (Tm 187) 3 177 true, Pk 189 177 (Tm 188) (Kb false), Mv 190 189, Gc 191 28 #[] #[] 190 true, Pk 192 190 (Tm 191) (Kb false), Mv 193 192, Gc 194 29 #[] #[] 193 true, Pk 195 193 (Tm 194) (Kb false), Sg 4 195]) .ret)))))))))))))⟩
def s5 : SF := ⟨185, [.tmp 4], (.seq (R0 [Oo 2 (.box 26 (Tm 0)), Sk 4 (Kb false)]) (.seq (R1 [Ld 19 26 2, Cl 20 7 #[Tm 19] #[26], Ld 21 26 2, Cl 22 8 #[Tm 21] #[26], Oo 5 (.alloc 33), Oo 6 (.alloc 37), Sr 33 (Tm 5) (Tm 20), Sr 37 (Tm 6) (Tm 22)]) (.seq (R0 [Mv 23 1, Oo 24 (.convert 89 3 (Tm 23)), Bo 25 .rem 3 (Tm 24) (Kn 5000) 3, Sg 7 25]) (.seq (R1 [Ld 27 33 5, Cl 28 14 #[Tm 27] #[33], Ld 29 37 6, Cl 30 17 #[Tm 29] #[37], Mv 31 7, Bo 32 .mul 3 (Kn 1000) (Tm 31) 3, Cl 33 30 #[Tm 28, Tm 30, Tm 32] #[33, 37, 3], Mv 26 33, Xt 34 26 0, Xt 35 26 1, Sg 8 34, Sg 9 35]) (.seq (R1 [Ld 37 33 5, Cl 38 14 #[Tm 37] #[33], Ld 39 37 6, Cl 40 17 #[Tm 39] #[37], Mv 41 7, Cl 42 27 #[Tm 38, Tm 40, Tm 41] #[33, 37, 3], Mv 36 42, Xt 43 36 0, Xt 44 36 1, Sg 10 43, Sg 11 44]) (.seq (.seq (R0 [Mv 45 9, Bo 46 .neq 47 (Tm 45) (Kn 0) 47, Mv 47 46, Gm 48 11 47 false, Gb 49 .neq 47 (Tm 48) (Kn 0) 47 47 false, Pk 50 47 (Kb true) (Tm 49), Mv 51 50, Gm 52 8 51 false, Og 53 (.call { callee := .builtin .len, args := #[Tm 52], argTypes := #[35] }) 51 false, Gf 54 37 6 0 51 false, Gl 55 35 54 51 false, Og 56 (.call { callee := .builtin .len, args := #[Tm 55], argTypes := #[35] }) 51 false, Gb 57 .neq 3 (Tm 53) (Tm 56) 3 51 false, Pk 58 51 (Kb true) (Tm 57), Mv 59 58, Gm 60 10 59 false, Og 61 (.call { callee := .builtin .len, args := #[Tm 60], argTypes := #[83] }) 59 false, Gf 62 33 5 0 59 false, Gl 63 30 62 59 false, Og 64 (.call { callee := .builtin .len, args := #[Tm 63], argTypes := #[30] }) 59 false, Gb 65 .neq 3 (Tm 61) (Tm 64) 3 59 false, Pk 66 59 (Kb true) (Tm 65)]) (.cond (Tm 66) (.seq (R0 [Sk 4 (Kb false)]) .ret) .skip)) (.seq (R0 [Ld 67 33 5, Ld 68 37 6, Cl 69 31 #[Tm 67, Tm 68] #[33, 37], Sg 12 69]) (.seq (.seq (R0 [Sk 13 (Kn 0)]) (.block 0 (.loop (.seq (.seq (R0 [Mv 70 13, Fa 71 33 5 0, Ld 72 30 71, Lq 73 72 30, Bo 74 .lss 3 (Tm 70) (Tm 73) 3]) (.cond (Tm 74) .skip (.exit 0))) (.seq (.block 1 (.seq (R0 [Mv 78 10, Mv 79 13, Mv 80 13, Bo 81 .add 3 (Tm 80) (Kn 1) 3, Mv 82 13, Bo 83 .add 3 (Tm 82) (Kn 1) 3, Oo 84 (.slice 83 (Tm 78) (some (Tm 79)) (some (Tm 81)) (some (Tm 83))), Mv 85 12, Cl 86 32 #[Tm 84, Tm 85] #[83, 3], Mv 77 86, Xt 87 77 0, Xt 88 77 1, Sg 14 87, Sg 15 88]) (.seq (R0 [Sk 16 (Kn 0), Sk 17 (Kn 0)]) (.seq (.seq (R0 [Sk 18 (Kn 0)]) (.block 2 (.loop (.seq (.seq (R0 [Mv 89 18, Mv 90 8, Lq 91 90 35, Bo 92 .lss 3 (Tm 89) (Tm 91) 3]) (.cond (Tm 92) .skip (.exit 2))) (.seq (.block 3 (.seq (.seq (R0 [Fa 95 37 6 0, Ld 96 35 95, Mv 97 18, Ix 98 35 96 97, Ld 99 3 98, Mv 100 13, Bo 101 .neq 3 (Tm 99) (Tm 100) 3]) (.cond (Tm 101) (.exit 3) .skip)) (.seq (.seq (R0 [Mv 102 8, Mv 103 18, Ix 104 35 102 103, Ld 105 3 104, Bo 106 .lss 3 (Tm 105) (Kn 0) 3, Mv 107 106, Gm 108 8 107 false, Gm 109 18 107 false, Gx 110 35 108 109 107 false, Gl 111 3 110 107 false, Gb 112 .gtr 3 (Tm 111) (Kn 10000000) 3 107 false, Pk 113 107 (Kb true) (Tm 112)]) (.cond (Tm 113) (.seq (R0 [Sk 4 (Kb false)]) .ret) .skip)) (.seq (R1 [Mv 114 16, Mv 115 8, Mv 116 18, Ix 117 35 115 116, Ld 118 3 117, Fa 119 33 5 0, Ld 120 30 119, Mv 121 13, Ix 122 30 120 121, Fa 123 57 122 1, Ld 124 3 123, Bo 125 .mul 3 (Tm 118) (Tm 124) 3, Bo 126 .add 3 (Tm 114) (Tm 125) 3, Sg 16 126]) (.seq (R0 [Mv 127 18, Bo 128 .rem 3 (Tm 127) (Kn 2) 3, Bo 129 .eql 3 (Tm 128) (Kn 1) 3]) (.cond (Tm 129) (R0 [Mv 130 17, Bo 131 .add 3 (Tm 130) (Kn 1) 3, Sg 17 131]) .skip)))))) (R0 [Mv 93 18, Bo 94 .add 3 (Tm 93) (Kn 1) 3, Sg 18 94])))))) (.seq (R0 [Mv 132 15, Oo 133 (.unOp .not 4 (Tm 132)), Mv 134 133, Gm 135 14 134 false, Gb 136 .gtr 3 (Tm 135) (Kn 1125899906842624) 3 134 false, Pk 137 134 (Kb true) (Tm 136), Mv 138 137, Gm 139 16 138 false, Gm 140 12 138 false, Gb 141 .mul 3 (Tm 139) (Tm 140) 3 138 false, Gm 142 14 138 false, Gb 143 .mul 3 (Kn 1000) (Tm 142) 3 138 false, Gb 144 .lss 3 (Tm 141) (Tm 143) 3 138 false, Pk 145 138 (Kb true) (Tm 144), Mv 146 145, Gm 147 17 146 false, Gb 148 .eql 3 (Tm 147) (Kn 0) 3 146 false, Gm 149 148 146 false, Gm 150 16 149 true, Gm 151 12 149 true, Gb 152 .mul 3 (Tm 150) (Tm 151) 3 149 true, Gm 153 14 149 true, Gb 154 .mul 3 (Kn 1000) (Tm 153) 3 149 true, Gb 155 .neq 3 (Tm 152) (Tm 154) 3 149 true, Og 156 (.pick (Tm 149) (Tm 155) (Kb false)) 146 false, Pk 157 146 (Kb true) (Tm 156), Mv 158 157, Gm 159 17 158 false, Gb 160 .gtr 3 (Tm 159) (Kn 0) 3 158 false, Gm 161 160 158 false, Gm 162 16 161 true, Gm 163 12 161 true, Gb 164 .mul 3 (Tm 162) (Tm 163) 3 161 true, Gm 165 14 161 true, Gb 166 .mul 3 (Kn 1000) (Tm 165) 3 161 true, Gm 167 17 161 true, Gf 168 33 5 0 161 true, Gl 169 30 168 161 true, Gm 170 13 161 true, Gx 171 30 169 170 161 true, Gf 172 57 171 1 161 true, Gl 173 3 172 161 true, Gb 174 .mul 3 (Tm 167) (Tm 173) 3 161 true, Gm 175 12 161 true, Gb 176 .mul 3 (Tm 174) (Tm 175) 3 161 true, Gb 177 .add 3 (Tm 166) (Tm 176) 3 161 true, Gb 178 .geq 3 (Tm 164) (Tm 177) 3 161 true, Og 179 (.pick (Tm 161) (Tm 178) (Kb false)) 158 false, Pk 180 158 (Kb true) (Tm 179)]) (.cond (Tm 180) (.seq (R0 [Sk 4 (Kb false)]) .ret) .skip)))))) (R0 [Mv 75 13, Bo 76 .add 3 (Tm 75) (Kn 1) 3, Sg 13 76])))))) (.seq (R0 [Cl 181 20 #[] #[], Mv 182 181, Gc 183 33 #[] #[] 182 true, Pk 184 182 (Tm 183) (Kb false), Sg 4 184]) .ret)))))))))⟩
def o6_0 : SO := (Ld 69 33 7)
def o6_1 : SO := (Cl 70 14 #[Tm 69] #[33])
def o6_2 : SO := (Ld 71 37 8)
def o6_3 : SO := (Cl 72 17 #[Tm 71] #[37])
def o6_4 : SO := (Cl 73 16 #[Tm 70, Tm 72] #[33, 37])
def o6_5 : SO := (Mv 68 73)
def o6_6 : SO := (Xt 74 68 0)
def o6_7 : SO := (Oo 15 (.alloc 42))
def o6_8 : SO := (Oo 16 (.alloc 42))
def o6_9 : SO := (Xt 75 68 1)
def o6_10 : SO := (Xt 76 68 2)
def o6_11 : SO := (Sr 42 (Tm 15) (Tm 74))
def o6_12 : SO := (Sr 42 (Tm 16) (Tm 75))
def o6_13 : SO := (Sg 17 76)
def o6_14 : SO := (Mv 188 13)
def o6_15 : SO := (Mv 189 13)
def o6_16 : SO := (Cl 190 15 #[Tm 188, Tm 189] #[3, 3])
def o6_17 : SO := (Ld 191 42 16)
def o6_18 : SO := (Mv 192 18)
def o6_19 : SO := (Bo 193 .mul 3 (Kn 2) (Tm 192) 3)
def o6_20 : SO := (Oo 194 (.indexAddr 71 (Tm 5) (Kn 1)))
def o6_21 : SO := (Ld 195 5 194)
def o6_22 : SO := (Oo 196 (.convert 5 3 (Tm 195)))
def o6_23 : SO := (Bo 197 .add 3 (Kn 1) (Tm 196) 3)
def o6_24 : SO := (Oo 198 (.build 107 #[(0, (Tm 190)), (1, (Tm 191)), (2, (Tm 193)), (3, (Tm 197))]))
def o6_25 : SO := (Cl 199 37 #[Tm 198] #[107])
def o6_26 : SO := (Mv 187 199)
def o6_27 : SO := (Xt 200 187 0)
def o6_28 : SO := (Oo 24 (.alloc 42))
def o6_29 : SO := (Sr 42 (Tm 24) (Tm 200))
def o6_30 : SO := (Xt 201 187 1)
def o6_31 : SO := (Sg 25 201)
def o6_32 : SO := (Oo 217 (.buildSlice 112 0 #[]))
def o6_33 : SO := (Mv 218 27)
def o6_34 : SO := (Ld 216 109 26)
def o6_35 : SO := (Oo 219 (.call { callee := .builtin .append, args := #[Tm 217, Tm 218], argTypes := #[112, 112] }))
def o6_36 : SO := (Oo 220 (.indexAddr 71 (Tm 5) (Kn 2)))
def o6_37 : SO := (Ld 221 5 220)
def o6_38 : SO := (Oo 222 (.convert 5 3 (Tm 221)))
def o6_39 : SO := (Cl 223 38 #[Tm 216, Tm 219, Tm 222] #[109, 112, 3])
def o6_40 : SO := (Mv 215 223)
def o6_41 : SO := (Xt 224 215 0)
def o6_42 : SO := (Xt 225 215 1)
def o6_43 : SO := (Sg 28 224)
def o6_44 : SO := (Sg 29 225)
def s6 : SF := ⟨273, [.tmp 6], (.seq (R0 [Oo 3 (.box 26 (Tm 0)), Oo 4 (.box 98 (Tm 1)), Oo 5 (.box 71 (Tm 2)), Sk 6 (Kb false)]) (.seq (R1 [Ld 35 26 3, Cl 36 7 #[Tm 35] #[26], Ld 37 26 3, Cl 38 8 #[Tm 37] #[26], Oo 7 (.alloc 33), Oo 8 (.alloc 37), Sr 33 (Tm 7) (Tm 36), Sr 37 (Tm 8) (Tm 38)]) (.seq (R1 [Fa 39 33 7 1, Ld 40 31 39, Fa 41 37 8 1, Ld 42 35 41, Oo 43 (.indexAddr 35 (Tm 42) (Kn 0)), Ld 44 3 43, Ix 45 31 40 44, Ld 46 87 45, Oo 9 (.alloc 87), Sr 87 (Tm 9) (Tm 46)]) (.seq (R0 [Ld 47 98 4, Fa 48 87 9 1, Ld 49 3 48, Fa 50 87 9 0, Ld 51 3 50, Oo 52 (.build 62 #[(0, (Tm 49)), (1, (Tm 51))]), Cl 53 34 #[Tm 47, Tm 52] #[98, 62], Oo 10 (.alloc 100), Sr 100 (Tm 10) (Tm 53)]) (.seq (R0 [Ld 55 100 10, Cl 56 36 #[Tm 55] #[100], Cl 57 35 #[Tm 56] #[100], Mv 54 57, Xt 58 54 0, Xt 59 54 1, Oo 11 (.alloc 42), Sr 42 (Tm 11) (Tm 58), Sg 12 59]) (.seq (R1 [Ld 61 33 7, Cl 62 14 #[Tm 61] #[33], Ld 63 37 8, Cl 64 17 #[Tm 63] #[37], Cl 65 19 #[Tm 62, Tm 64] #[33, 37], Mv 60 65, Xt 66 60 0, Xt 67 60 1, Sg 13 66, Sg 14 67]) (.seq (.ord (.op o6_0 (.op o6_1 (.op o6_2 (.op o6_3 (.op o6_4 (.op o6_5 (.op o6_6 (.op o6_7 (.op o6_8 (.alt (.op o6_9 (.alt (.op o6_10 (.op o6_11 (.op o6_12 (.op o6_13 .done)))) (.op o6_11 (.alt (.op o6_10 (.op o6_12 (.op o6_13 .done))) (.op o6_12 (.op o6_10 (.op o6_13 .done))))))) (.alt (.op o6_10 (.alt (.op o6_9 (.op o6_11 (.op o6_12 (.op o6_13 .done)))) (.op o6_11 (.op o6_9 (.op o6_12 (.op o6_13 .done)))))) (.op o6_11 (.op o6_9 (.alt (.op o6_10 (.op o6_12 (.op o6_13 .done))) (.op o6_12 (.op o6_10 (.op o6_13 .done)))))))))))))))))) (.seq (.seq (R0 [Mv 77 12, Bo 78 .neq 47 (Tm 77) (Kn 0) 47, Mv 79 78, Gm 80 14 79 false, Gb 81 .neq 47 (Tm 80) (Kn 0) 47 79 false, Pk 82 79 (Kb true) (Tm 81), Mv 83 82, Gm 84 17 83 false, Gb 85 .neq 47 (Tm 84) (Kn 0) 47 83 false, Pk 86 83 (Kb true) (Tm 85), Mv 87 86, Gf 88 42 11 0 87 false, Gl 89 3 88 87 false, Gb 90 .lss 3 (Tm 89) (Kn 0) 3 87 false, Pk 91 87 (Kb true) (Tm 90), Mv 92 91, Gf 93 42 11 0 92 false, Gl 94 3 93 92 false, Gb 95 .gtr 3 (Tm 94) (Kn 20000) 3 92 false, Pk 96 92 (Kb true) (Tm 95), Mv 97 96, Gm 98 13 97 false, Gb 99 .lss 3 (Tm 98) (Kn 0) 3 97 false, Pk 100 97 (Kb true) (Tm 99), Mv 101 100, Gm 102 13 101 false, Gb 103 .gtr 3 (Tm 102) (Kn 100000) 3 101 false, Pk 104 101 (Kb true) (Tm 103), Mv 105 104, Gf 106 42 16 0 105 false, Gl 107 3 106 105 false, Gb 108 .lss 3 (Tm 107) (Kn 1) 3 105 false, Pk 109 105 (Kb true) (Tm 108), Mv 110 109, Gf 111 42 16 1 110 false, Gl 112 3 111 110 false, Gb 113 .gtr 3 (Tm 112) (Kn 10000) 3 110 false, Pk 114 110 (Kb true) (Tm 113), Mv 115 114, Gf 116 42 15 0 115 false, Gl 117 3 116 115 false, Gb 118 .lss 3 (Tm 117) (Kn 0) 3 115 false, Pk 119 115 (Kb true) (Tm 118), Mv 120 119, Gf 121 42 15 1 120 false, Gl 122 3 121 120 false, Gb 123 .gtr 3 (Tm 122) (Kn 10000) 3 120 false, Pk 124 120 (Kb true) (Tm 123)]) (.cond (Tm 124) (.seq (R0 [Sk 6 (Kb false)]) .ret) .skip)) (.seq (R0 [Oo 125 (.indexAddr 71 (Tm 5) (Kn 0)), Ld 126 5 125, Oo 127 (.convert 5 3 (Tm 126)), Bo 128 .mul 3 (Kn 2) (Tm 127) 3, Bo 129 .add 3 (Kn 200) (Tm 128) 3, Sg 18 129]) (.seq (R0 [Fa 130 42 11 0, Ld 131 3 130, Mv 132 18, Bo 133 .quo 3 (Tm 131) (Tm 132) 3, Sg 19 133]) (.seq (R1 [Ld 135 33 7, Cl 136 14 #[Tm 135] #[33], Ld 137 37 8, Cl 138 17 #[Tm 137] #[37], Mv 139 19, Mv 140 18, Bo 141 .mul 3 (Tm 139) (Tm 140) 3, Cl 142 30 #[Tm 136, Tm 138, Tm 141] #[33, 37, 3], Mv 134 142, Xt 143 134 0, Xt 144 134 1, Sg 20 143, Sg 21 144]) (.seq (.seq (R0 [Mv 145 21, Bo 146 .neq 47 (Tm 145) (Kn 0) 47, Mv 147 146, Gm 148 20 147 false, Og 149 (.call { callee := .builtin .len, args := #[Tm 148], argTypes := #[35] }) 147 false, Gf 150 37 8 0 147 false, Gl 151 35 150 147 false, Og 152 (.call { callee := .builtin .len, args := #[Tm 151], argTypes := #[35] }) 147 false, Gb 153 .neq 3 (Tm 149) (Tm 152) 3 147 false, Pk 154 147 (Kb true) (Tm 153)]) (.cond (Tm 154) (.seq (R0 [Sk 6 (Kb false)]) .ret) .skip)) (.seq (R0 [Sk 22 (Kn 0)]) (.seq (.seq (R0 [Sk 23 (Kn 0)]) (.block 0 (.loop (.seq (.seq (R0 [Mv 155 23, Fa 156 100 10 2, Ld 157 46 156, Lq 158 157 46, Bo 159 .lss 3 (Tm 155) (Tm 158) 3]) (.cond (Tm 159) .skip (.exit 0))) (.seq (.block 1 (R1 [Mv 162 22, Fa 163 100 10 2, Ld 164 46 163, Mv 165 23, Ix 166 46 164 165, Fa 167 42 166 0, Ld 168 3 167, Fa 169 100 10 1, Ld 170 3 169, Bo 171 .sub 3 (Tm 168) (Tm 170) 3, Bo 172 .add 3 (Tm 162) (Tm 171) 3, Sg 22 172])) (R0 [Mv 160 23, Bo 161 .add 3 (Tm 160) (Kn 1) 3, Sg 23 161])))))) (.seq (.seq (R0 [Mv 173 20, Oo 174 (.indexAddr 35 (Tm 173) (Kn 1)), Ld 175 3 174, Mv 176 22, Bo 177 .gtr 3 (Tm 175) (Tm 176) 3, Mv 178 177, Gm 179 20 178 false, Og 180 (.indexAddr 35 (Tm 179) (Kn 0)) 178 false, Gl 181 3 180 178 false, Gm 182 19 178 false, Gm 183 18 178 false, Gb 184 .mul 3 (Tm 182) (Tm 183) 3 178 false, Gb 185 .neq 3 (Tm 181) (Tm 184) 3 178 false, Pk 186 178 (Kb true) (Tm 185)]) (.cond (Tm 186) (.seq (R0 [Sk 6 (Kb false)]) .ret) .skip)) (.seq (.ord (.op o6_14 (.op o6_15 (.op o6_16 (.op o6_17 (.op o6_18 (.op o6_19 (.op o6_20 (.op o6_21 (.op o6_22 (.op o6_23 (.op o6_24 (.op o6_25 (.op o6_26 (.op o6_27 (.op o6_28 (.app o6_29 [187] [201] (.op o6_30 (.op o6_31 .done))))))))))))))))))) (.seq (R1 [Ld 202 42 24, Fa 203 42 15 0, Ld 204 3 203, Bo 205 .quo 3 (Tm 204) (Kn 10) 3, Fa 206 42 15 1, Ld 207 3 206, Bo 208 .quo 3 (Tm 207) (Kn 10) 3, Bo 209 .add 3 (Tm 208) (Kn 1) 3, Cl 210 15 #[Tm 205, Tm 209] #[3, 3], Oo 211 (.build 109 #[(0, (Tm 202)), (1, (Tm 210))]), Oo 26 (.alloc 109), Sr 109 (Tm 26) (Tm 211)]) (.seq (R0 [Oo 212 (.build 111 #[(1, (Kn 1000))]), Oo 213 (.build 111 #[(0, (Kn 30)), (1, (Kn 600))]), Oo 214 (.buildSlice 112 2 #[(0, (Tm 212)), (1, (Tm 213))]), Sg 27 214]) (.seq (.ord (.op o6_32 (.op o6_33 (.alt (.op o6_34 (.alt (.op o6_35 (.op o6_36 (.op o6_37 (.op o6_38 (.op o6_39 (.op o6_40 (.op o6_41 (.op o6_42 (.op o6_43 (.op o6_44 .done)))))))))) (.op o6_36 (.alt (.op o6_35 (.op o6_37 (.op o6_38 (.op o6_39 (.op o6_40 (.op o6_41 (.op o6_42 (.op o6_43 (.op o6_44 .done))))))))) (.op o6_37 (.alt (.op o6_35 (.op o6_38 (.op o6_39 (.op o6_40 (.op o6_41 (.op o6_42 (.op o6_43 (.op o6_44 .done)))))))) (.op o6_38 (.op o6_35 (.op o6_39 (.op o6_40 (.op o6_41 (.op o6_42 (.op o6_43 (.op o6_44 .done)))))))))))))) (.alt (.op o6_35 (.op o6_34 (.op o6_36 (.op o6_37 (.op o6_38 (.op o6_39 (.op o6_40 (.op o6_41 (.op o6_42 (.op o6_43 (.op o6_44 .done))))))))))) (.op o6_36 (.alt (.op o6_34 (.alt (.op o6_35 (.op o6_37 (.op o6_38 (.op o6_39 (.op o6_40 (.op o6_41 (.op o6_42 (.op o6_43 (.op o6_44 .done))))))))) (.op o6_37 (.alt (.op o6_35 (.op o6_38 (.op o6_39 (.op o6_40 (.op o6_41 (.op o6_42 (.op o6_43 (.op o6_44 .done)))))))) (.op o6_38 (.op o6_35 (.op o6_39 (.op o6_40 (.op o6_41 (.op o6_42 (.op o6_43 (.op o6_44 .done)))))))))))) (.alt (.op o6_35 (.op o6_34 (.op o6_37 (.op o6_38 (.op o6_39 (.op o6_40 (.op o6_41 (.op o6_42 (.op o6_43 (.op o6_44 .done)))))))))) (.op o6_37 (.alt (.op o6_34 (.alt (.op o6_35 (.op o6_38 (.op o6_39 (.op o6_40 (.op o6_41 (.op o6_42 (.op o6_43 (.op o6_44 .done)))))))) (.op o6_38 (.op o6_35 (.op o6_39 (.op o6_40 (.op o6_41 (.op o6_42 (.op o6_43 (.op o6_44 .done)))))))))) (.alt (.op o6_35 (.op o6_34 (.op o6_38 (.op o6_39 (.op o6_40 (.op o6_41 (.op o6_42 (.op o6_43 (.op o6_44 .done))))))))) (.op o6_38 (.alt (.op o6_34 (.op o6_35 (.op o6_39 (.op o6_40 (.op o6_41 (.op o6_42 (.op o6_43 (.op o6_44 .done)))))))) (.op o6_35 (.op o6_34 (.op o6_39 (.op o6_40 (.op o6_41 (.op o6_42 (.op o6_43 (.op o6_44 .done))))))))))))))))))))) (.seq (.seq (R0 [Mv 226 25, Bo 227 .neq 47 (Tm 226) (Kn 0) 47, Mv 228 227, Gm 229 29 228 false, Gb 230 .neq 47 (Tm 229) (Kn 0) 47 228 false, Pk 231 228 (Kb true) (Tm 230), Mv 232 231, Gm 233 28 232 false, Gb 234 .lss 3 (Tm 233) (Kn 1) 3 232 false, Pk 235 232 (Kb true) (Tm 234), Mv 236 235, Gm 237 28 236 false, Gb 238 .gtr 3 (Tm 237) (Kn 50) 3 236 false, Pk 239 236 (Kb true) (Tm 238)]) (.cond (Tm 239) (.seq (R0 [Sk 6 (Kb false)]) .ret) .skip)) (.seq (R0 [Oo 240 (.buildSlice 114 0 #[]), Sg 30 240]) (.seq (.seq (R0 [Sk 31 (Kn 0)]) (.block 2 (.loop (.seq (.seq (R0 [Mv 241 31, Mv 242 28, Mv 243 19, Oo 244 (.call { callee := .builtin .min, args := #[Tm 242, Tm 243], argTypes := #[3, 3] }), Bo 245 .lss 3 (Tm 241) (Tm 244) 3]) (.cond (Tm 245) .skip (.exit 2))) (.seq (.block 3 (R0 [Mv 248 30, Ld 249 109 26, Oo 250 (.buildSlice 114 1 #[(0, (Tm 249))]), Oo 251 (.call { callee := .builtin .append, args := #[Tm 248, Tm 250], argTypes := #[114, 114] }), Sg 30 251])) (R0 [Mv 246 31, Bo 247 .add 3 (Tm 246) (Kn 1) 3, Sg 31 247])))))) (.seq (R0 [Mv 253 30, Mv 254 27, Oo 255 (.indexAddr 71 (Tm 5) (Kn 2)), Ld 256 5 255, Oo 257 (.convert 5 3 (Tm 256)), Cl 258 39 #[Tm 253, Tm 254, Tm 257] #[114, 112, 3], Mv 252 258, Xt 259 252 0, Xt 260 252 1, Xt 261 252 2, Sg 32 259, Sg 33 260, Sg 34 261]) (.seq (R0 [Mv 262 34, Bo 263 .eql 47 (Tm 262) (Kn 7) 47, Mv 264 263, Gc 265 20 #[] #[] 264 true, Pk 266 264 (Tm 265) (Kb false), Mv 267 266, Gc 268 40 #[] #[] 267 true, Pk 269 267 (Tm 268) (Kb false), Mv 270 269, Gc 271 33 #[] #[] 270 true, Pk 272 270 (Tm 271) (Kb false), Sg 6 272]) .ret))))))))))))))))))))))))⟩
theorem sf6 : sfOf Try.f6 = some s6 := by kernel_rfl
theorem hb6 : hasBody Try.prog 6 = true := by kernel_rfl
def s7 : SF := ⟨159, [.cell 2 33], (.seq (R0 [Oo 1 (.box 26 (Tm 0)), Oo 2 (.alloc 33)]) (.seq (R0 [Oo 10 (.build 33 #[]), Oo 3 (.alloc 33), Sr 33 (Tm 3) (Tm 10)]) (.seq (.seq (R0 [Sk 4 (Kn 0)]) (.block 0 (.loop (.seq (.seq (R0 [Mv 11 4, Bo 12 .lss 3 (Tm 11) (Kn 2) 3, Mv 13 12, Gm 14 4 13 false, Gf 15 26 1 0 13 false, Gl 16 22 15 13 false, Og 17 (.call { callee := .builtin .len, args := #[Tm 16], argTypes := #[22] }) 13 false, Gb 18 .lss 3 (Tm 14) (Tm 17) 3 13 false, Gm 19 18 13 false, Gm 20 4 19 true, Gb 21 .lss 3 (Tm 20) (Kn 5) 3 19 true, Og 22 (.pick (Tm 19) (Tm 21) (Kb false)) 13 false, Pk 23 13 (Kb true) (Tm 22)]) (.cond (Tm 23) .skip (.exit 0))) (.seq (.block 1 (.seq (R0 [Mv 26 4, Oo 27 (.convert 3 5 (Tm 26)), Oo 28 (.build 118 #[(0, (Tm 27)), (1, (.const (.int .u8 120))), (2, (.const (.int .u8 20))), (3, (.const (.int .u8 7))), (4, (.const (.int .u8 30))), (5, (.const (.int .u8 20)))]), Oo 5 (.alloc 118), Sr 118 (Tm 5) (Tm 28)]) (.seq (.seq (R0 [Mv 29 4, Fa 30 26 1 0, Ld 31 22 30, Lq 32 31 22, Bo 33 .lss 3 (Tm 29) (Tm 32) 3]) (.cond (Tm 33) (R0 [Fa 34 26 1 0, Ld 35 22 34, Mv 36 4, Ix 37 22 35 36, Ld 38 118 37, Sr 118 (Tm 5) (Tm 38)]) .skip)) (.seq (R1 [Mv 39 4, Bo 40 .add 3 (Kn 1) (Tm 39) 3, Oo 41 (.indexAddr 118 (Tm 5) (Kn 1)), Ld 42 5 41, Oo 43 (.convert 5 3 (Tm 42)), Bo 44 .add 3 (Kn 50) (Tm 43) 3, Oo 45 (.indexAddr 118 (Tm 5) (Kn 2)), Ld 46 5 45, Oo 47 (.convert 5 3 (Tm 46)), Bo 48 .add 3 (Kn 50) (Tm 47) 3, Oo 49 (.indexAddr 118 (Tm 5) (Kn 2)), Ld 50 5 49, Oo 51 (.convert 5 3 (Tm 50)), Bo 52 .add 3 (Kn 50) (Tm 51) 3, Oo 53 (.indexAddr 118 (Tm 5) (Kn 0)), Ld 54 5 53, Oo 55 (.convert 5 3 (Tm 54)), Bo 56 .quo 3 (Tm 55) (Kn 8) 3, Bo 57 .add 3 (Tm 52) (Tm 56) 3, Cl 58 15 #[Tm 48, Tm 57] #[3, 3], Oo 59 (.indexAddr 118 (Tm 5) (Kn 3)), Ld 60 5 59, Oo 61 (.convert 5 3 (Tm 60)), Bo 62 .rem 3 (Tm 61) (Kn 100) 3, Oo 63 (.indexAddr 118 (Tm 5) (Kn 3)), Ld 64 5 63, Oo 65 (.convert 5 3 (Tm 64)), Bo 66 .rem 3 (Tm 65) (Kn 100) 3, Oo 67 (.indexAddr 118 (Tm 5) (Kn 3)), Ld 68 5 67, Oo 69 (.convert 5 3 (Tm 68)), Bo 70 .quo 3 (Tm 69) (Kn 16) 3, Bo 71 .add 3 (Tm 66) (Tm 70) 3, Cl 72 15 #[Tm 62, Tm 71] #[3, 3], Oo 73 (.indexAddr 118 (Tm 5) (Kn 4)), Ld 74 5 73, Oo 75 (.convert 5 3 (Tm 74)), Bo 76 .mul 3 (Kn 1000) (Tm 75) 3, Oo 77 (.indexAddr 118 (Tm 5) (Kn 5)), Ld 78 5 77, Oo 79 (.convert 5 3 (Tm 78)), Bo 80 .mul 3 (Kn 10) (Tm 79) 3, Oo 81 (.build 57 #[(0, (Tm 40)), (1, (Tm 44)), (2, (Tm 58)), (3, (Tm 72)), (4, (Tm 76)), (5, (Tm 80))]), Oo 6 (.alloc 57), Sr 57 (Tm 6) (Tm 81)]) (.seq (.seq (R0 [Mv 82 4, Bo 83 .gtr 3 (Tm 82) (Kn 1) 3]) (.cond (Tm 83) (R0 [Oo 84 (.indexAddr 118 (Tm 5) (Kn 0)), Ld 85 5 84, Bo 86 .rem 5 (Tm 85) (.const (.int .u8 2)) 5, Bo 87 .add 5 (.const (.int .u8 1)) (Tm 86) 5, Oo 88 (.convert 5 55 (Tm 87)), Fa 89 57 6 0, Sr 55 (Tm 89) (Tm 88)]) .skip)) (R0 [Fa 90 33 3 0, Ld 91 30 90, Ld 92 57 6, Oo 93 (.buildSlice 30 1 #[(0, (Tm 92))]), Oo 94 (.call { callee := .builtin .append, args := #[Tm 91, Tm 93], argTypes := #[30, 30] }), Fa 95 33 3 0, Sr 30 (Tm 95) (Tm 94)])))))) (R0 [Mv 24 4, Bo 25 .add 3 (Tm 24) (Kn 1) 3, Sg 4 25])))))) (.seq (.seq (R0 [Sk 7 (Kn 0)]) (.block 2 (.loop (.seq (.seq (R0 [Mv 96 7, Bo 97 .eql 3 (Tm 96) (Kn 0) 3, Mv 98 97, Gm 99 7 98 false, Gf 100 26 1 1 98 false, Gl 101 23 100 98 false, Og 102 (.call { callee := .builtin .len, args := #[Tm 101], argTypes := #[23] }) 98 false, Gb 103 .lss 3 (Tm 99) (Tm 102) 3 98 false, Gm 104 103 98 false, Gm 105 7 104 true, Gb 106 .lss 3 (Tm 105) (Kn 3) 3 104 true, Og 107 (.pick (Tm 104) (Tm 106) (Kb false)) 98 false, Pk 108 98 (Kb true) (Tm 107)]) (.cond (Tm 108) .skip (.exit 2))) (.seq (.block 3 (.seq (R0 [Oo 111 (.build 71 #[(0, (.const (.int .u8 80))), (1, (.const (.int .u8 128))), (2, (.const (.int .u8 36)))]), Oo 8 (.alloc 71), Sr 71 (Tm 8) (Tm 111)]) (.seq (.seq (R0 [Mv 112 7, Fa 113 26 1 1, Ld 114 23 113, Lq 115 114 23, Bo 116 .lss 3 (Tm 112) (Tm 115) 3]) (.cond (Tm 116) (R0 [Fa 117 26 1 1, Ld 118 23 117, Mv 119 7, Ix 120 23 118 119, Ld 121 71 120, Sr 71 (Tm 8) (Tm 121)]) .skip)) (.seq (R0 [Oo 122 (.indexAddr 71 (Tm 8) (Kn 0)), Ld 123 5 122, Oo 124 (.convert 5 3 (Tm 123)), Bo 125 .mul 3 (Kn 35) (Tm 124) 3, Bo 126 .add 3 (Kn 1000) (Tm 125) 3, Sg 9 126]) (R1 [Fa 127 33 3 1, Ld 128 31 127, Mv 129 9, Mv 130 9, Mv 131 9, Oo 132 (.indexAddr 71 (Tm 8) (Kn 1)), Ld 133 5 132, Oo 134 (.convert 5 3 (Tm 133)), Bo 135 .mul 3 (Tm 131) (Tm 134) 3, Bo 136 .quo 3 (Tm 135) (Kn 255) 3, Bo 137 .add 3 (Tm 130) (Tm 136) 3, Oo 138 (.indexAddr 71 (Tm 8) (Kn 2)), Ld 139 5 138, Oo 140 (.convert 5 3 (Tm 139)), Bo 141 .mul 3 (Kn 10) (Tm 140) 3, Bo 142 .add 3 (Kn 500) (Tm 141) 3, Oo 143 (.indexAddr 71 (Tm 8) (Kn 2)), Ld 144 5 143, Oo 145 (.convert 5 3 (Tm 144)), Bo 146 .mul 3 (Kn 10) (Tm 145) 3, Bo 147 .add 3 (Kn 500) (Tm 146) 3, Oo 148 (.indexAddr 71 (Tm 8) (Kn 1)), Ld 149 5 148, Oo 150 (.convert 5 3 (Tm 149)), Bo 151 .rem 3 (Tm 150) (Kn 90) 3, Bo 152 .add 3 (Tm 147) (Tm 151) 3, Cl 153 15 #[Tm 142, Tm 152] #[3, 3], Oo 154 (.build 87 #[(0, (Tm 129)), (1, (Tm 137)), (2, (Tm 153))]), Oo 155 (.buildSlice 31 1 #[(0, (Tm 154))]), Oo 156 (.call { callee := .builtin .append, args := #[Tm 128, Tm 155], argTypes := #[31, 31] }), Fa 157 33 3 1, Sr 31 (Tm 157) (Tm 156)]))))) (R0 [Mv 109 7, Bo 110 .add 3 (Tm 109) (Kn 1) 3, Sg 7 110])))))) (.seq (R0 [Ld 158 33 3, Sr 33 (Tm 2) (Tm 158)]) .ret)))))⟩
theorem sf7 : sfOf Try.f7 = some s7 := by kernel_rfl
theorem hb7 : hasBody Try.prog 7 = true := by kernel_rfl
def s8 : SF := ⟨87, [.cell 2 37], (.seq (R0 [Oo 1 (.box 26 (Tm 0)), Oo 2 (.alloc 37)]) (.seq (R0 [Ld 11 26 1, Cl 12 7 #[Tm 11] #[26], Oo 13 (.build 37 #[]), Oo 3 (.alloc 33), Oo 4 (.alloc 37), Sr 33 (Tm 3) (Tm 12), Sr 37 (Tm 4) (Tm 13)]) (.seq (R0 [Oo 14 (.build 119 #[]), Oo 5 (.alloc 119), Sr 119 (Tm 5) (Tm 14)]) (.seq (.seq (R0 [Sk 6 (Kn 0)]) (.block 0 (.loop (.seq (.seq (R0 [Mv 15 6, Fa 16 33 3 0, Ld 17 30 16, Lq 18 17 30, Bo 19 .lss 3 (Tm 15) (Tm 18) 3]) (.cond (Tm 19) .skip (.exit 0))) (.seq (.block 1 (.seq (R0 [Fa 22 33 3 0, Ld 23 30 22, Mv 24 6, Ix 25 30 23 24, Fa 26 57 25 0, Ld 27 55 26, Bo 28 .sub 3 (Tm 27) (Kn 1) 3, Sg 7 28]) (R0 [Mv 29 7, Mv 30 7, Ix 31 119 5 30, Ld 32 35 31, Mv 33 6, Oo 34 (.buildSlice 35 1 #[(0, (Tm 33))]), Oo 35 (.call { callee := .builtin .append, args := #[Tm 32, Tm 34], argTypes := #[35, 35] }), Ix 36 119 5 29, Sr 35 (Tm 36) (Tm 35)]))) (R0 [Mv 20 6, Bo 21 .add 3 (Tm 20) (Kn 1) 3, Sg 6 21])))))) (.seq (R0 [Fa 37 26 1 2, Ld 38 24 37, Cl 39 41 #[Tm 38, Kn 0] #[24, 3], Bo 40 .rem 3 (Tm 39) (Kn 2) 3, Bo 41 .add 3 (Kn 1) (Tm 40) 3, Sg 8 41]) (.seq (.seq (R0 [Sk 9 (Kn 0)]) (.block 2 (.loop (.seq (.seq (R0 [Mv 42 9, Mv 43 8, Bo 44 .mul 3 (Kn 2) (Tm 43) 3, Bo 45 .add 3 (Tm 44) (Kn 1) 3, Bo 46 .lss 3 (Tm 42) (Tm 45) 3]) (.cond (Tm 46) .skip (.exit 2))) (.seq (.block 3 (.seq (R0 [Mv 49 9, Bo 50 .rem 3 (Tm 49) (Kn 2) 3, Ix 51 119 5 50, Ld 52 35 51, Sg 10 52]) (.seq (R1 [Fa 53 37 4 0, Ld 54 35 53, Mv 55 10, Fa 56 26 1 2, Ld 57 24 56, Mv 58 9, Bo 59 .add 3 (Tm 58) (Kn 1) 3, Cl 60 41 #[Tm 57, Tm 59] #[24, 3], Mv 61 10, Lq 62 61 35, Bo 63 .rem 3 (Tm 60) (Tm 62) 3, Ix 64 35 55 63, Ld 65 3 64, Oo 66 (.buildSlice 35 1 #[(0, (Tm 65))]), Oo 67 (.call { callee := .builtin .append, args := #[Tm 54, Tm 66], argTypes := #[35, 35] }), Fa 68 37 4 0, Sr 35 (Tm 68) (Tm 67)]) (.seq (R0 [Mv 69 9, Bo 70 .rem 3 (Tm 69) (Kn 2) 3, Bo 71 .eql 3 (Tm 70) (Kn 1) 3]) (.cond (Tm 71) (R1 [Fa 72 37 4 1, Ld 73 35 72, Fa 74 26 1 2, Ld 75 24 74, Mv 76 9, Bo 77 .add 3 (Tm 76) (Kn 6) 3, Cl 78 41 #[Tm 75, Tm 77] #[24, 3], Fa 79 33 3 1, Ld 80 31 79, Lq 81 80 31, Bo 82 .rem 3 (Tm 78) (Tm 81) 3, Oo 83 (.buildSlice 35 1 #[(0, (Tm 82))]), Oo 84 (.call { callee := .builtin .append, args := #[Tm 73, Tm 83], argTypes := #[35, 35] }), Fa 85 37 4 1, Sr 35 (Tm 85) (Tm 84)]) .skip))))) (R0 [Mv 47 9, Bo 48 .add 3 (Tm 47) (Kn 1) 3, Sg 9 48])))))) (.seq (R0 [Ld 86 37 4, Sr 37 (Tm 2) (Tm 86)]) .ret)))))))⟩
theorem sf8 : sfOf Try.f8 = some s8 := by kernel_rfl
theorem hb8 : hasBody Try.prog 8 = true := by kernel_rfl
def o14_0 : SO := (Oo 3 (.buildSlice 30 0 #[]))
def o14_1 : SO := (Fa 4 33 1 0)
def o14_2 : SO := (Ld 5 30 4)
def o14_3 : SO := (Oo 6 (.call { callee := .builtin .append, args := #[Tm 3, Tm 5], argTypes := #[30, 30] }))
def o14_4 : SO := (Oo 7 (.buildSlice 31 0 #[]))
def o14_5 : SO := (Fa 8 33 1 1)
def o14_6 : SO := (Ld 9 31 8)
def o14_7 : SO := (Oo 10 (.call { callee := .builtin .append, args := #[Tm 7, Tm 9], argTypes := #[31, 31] }))
def o14_8 : SO := (Oo 11 (.build 33 #[(0, (Tm 6)), (1, (Tm 10))]))
def o14_9 : SO := (Sr 33 (Tm 2) (Tm 11))
def s14 : SF := ⟨12, [.cell 2 33], (.seq (R0 [Oo 1 (.box 33 (Tm 0)), Oo 2 (.alloc 33)]) (.seq (.ord (.op o14_0 (.op o14_1 (.op o14_2 (.app o14_3 [1, 8] [7, 8, 9] (.op o14_4 (.op o14_5 (.op o14_6 (.op o14_7 (.op o14_8 (.op o14_9 .done))))))))))) .ret))⟩
theorem sf14 : sfOf Try.f14 = some s14 := by kernel_rfl
theorem hb14 : hasBody Try.prog 14 = true := by kernel_rfl
def s15 : SF := ⟨8, [.cell 4 42], (.seq (R0 [Oo 4 (.alloc 42)]) (.seq (R0 [Mv 5 0, Mv 6 1, Oo 7 (.build 42 #[(0, (Tm 5)), (1, (Tm 6))]), Sr 42 (Tm 4) (Tm 7)]) .ret))⟩
theorem sf15 : sfOf Try.f15 = some s15 := by kernel_rfl
theorem hb15 : hasBody Try.prog 15 = true := by kernel_rfl
end Go.Dw.Seat
end
section
namespace Go.Dw.Seat
open Go Go.Dw Go.Proofs
def o16_0 : SO := (Ld 16 42 4)
def o16_1 : SO := (Ld 17 42 5)
def o16_2 : SO := (Mv 18 6)
def o16_3 : SO := (Sr 42 (Tm 4) (Tm 16))
def o16_4 : SO := (Sr 42 (Tm 5) (Tm 17))
def o16_5 : SO := (Sg 6 18)
def o16_6 : SO := (Ld 24 42 4)
def o16_7 : SO := (Ld 25 42 5)
def o16_8 : SO := (Sr 42 (Tm 4) (Tm 24))
def o16_9 : SO := (Sr 42 (Tm 5) (Tm 25))
def o16_10 : SO := (Sk 6 (Kn 0))
def s16 : SF := ⟨26, [.cell 4 42, .cell 5 42, .tmp 6], (.seq (R0 [Oo 2 (.box 33 (Tm 0)), Oo 3 (.box 37 (Tm 1)), Oo 4 (.alloc 42), Oo 5 (.alloc 42), Sk 6 (Kn 0)]) (.seq (R0 [Ld 9 33 2, Ld 10 37 3, Cl 11 45 #[Tm 9, Tm 10] #[33, 37], Mv 8 11, Xt 12 8 0, Xt 13 8 1, Oo 7 (.alloc 130), Sr 130 (Tm 7) (Tm 12), Sg 6 13]) (.seq (.seq (R0 [Mv 14 6, Bo 15 .neq 47 (Tm 14) (Kn 0) 47]) (.cond (Tm 15) (.seq (.ord (.op o16_0 (.alt (.op o16_1 (.alt (.op o16_2 (.op o16_3 (.op o16_4 (.op o16_5 .done)))) (.op o16_3 (.alt (.op o16_2 (.op o16_4 (.op o16_5 .done))) (.op o16_4 (.op o16_2 (.op o16_5 .done))))))) (.alt (.op o16_2 (.alt (.op o16_1 (.op o16_3 (.op o16_4 (.op o16_5 .done)))) (.op o16_3 (.op o16_1 (.op o16_4 (.op o16_5 .done)))))) (.op o16_3 (.op o16_1 (.alt (.op o16_2 (.op o16_4 (.op o16_5 .done))) (.op o16_4 (.op o16_2 (.op o16_5 .done)))))))))) .ret) .skip)) (.seq (R0 [Ld 20 130 7, Cl 21 46 #[Tm 20] #[130], Mv 19 21, Xt 22 19 0, Xt 23 19 1, Sr 42 (Tm 4) (Tm 22), Sr 42 (Tm 5) (Tm 23)]) (.seq (.ord (.op o16_6 (.alt (.op o16_7 (.op o16_8 (.op o16_9 (.op o16_10 .done)))) (.op o16_8 (.op o16_7 (.op o16_9 (.op o16_10 .done))))))) .ret)))))⟩
theorem sf16 : sfOf Try.f16 = some s16 := by kernel_rfl
theorem hb16 : hasBody Try.prog 16 = true := by kernel_rfl
def s17 : SF := ⟨10, [.cell 2 37], (.seq (R0 [Oo 1 (.box 37 (Tm 0)), Oo 2 (.alloc 37)]) (.seq (R1 [Fa 3 37 1 0, Ld 4 35 3, Cl 5 47 #[Tm 4] #[35], Fa 6 37 1 1, Ld 7 35 6, Cl 8 47 #[Tm 7] #[35], Oo 9 (.build 37 #[(0, (Tm 5)), (1, (Tm 8))]), Sr 37 (Tm 2) (Tm 9)]) .ret))⟩
theorem sf17 : sfOf Try.f17 = some s17 := by kernel_rfl
theorem hb17 : hasBody Try.prog 17 = true := by kernel_rfl
def s19 : SF := ⟨19, [.tmp 4, .tmp 5], (.seq (R0 [Oo 2 (.box 33 (Tm 0)), Oo 3 (.box 37 (Tm 1)), Sk 4 (Kn 0), Sk 5 (Kn 0)]) (.seq (R0 [Ld 9 33 2, Ld 10 37 3, Cl 11 45 #[Tm 9, Tm 10] #[33, 37], Mv 8 11, Xt 12 8 0, Xt 13 8 1, Oo 6 (.alloc 130), Sr 130 (Tm 6) (Tm 12), Sg 7 13]) (.seq (.seq (R0 [Mv 14 7, Bo 15 .neq 47 (Tm 14) (Kn 0) 47]) (.cond (Tm 15) (.seq (R0 [Mv 16 7, Sk 4 (Kn 0), Sg 5 16]) .ret) .skip)) (.seq (R0 [Ld 17 130 6, Cl 18 51 #[Tm 17] #[130], Sg 4 18, Sk 5 (Kn 0)]) .ret))))⟩
theorem sf19 : sfOf Try.f19 = some s19 := by kernel_rfl
theorem hb19 : hasBody Try.prog 19 = true := by kernel_rfl
def s20 : SF := ⟨55, [.tmp 0], (.seq (R0 [Sk 0 (Kb false)]) (.seq (R0 [Cl 8 15 #[Kn 250, Kn 270] #[3, 3], Cl 9 15 #[Kn 60, Kn 80] #[3, 3], Oo 10 (.build 57 #[(0, (Kn 1)), (1, (Kn 200)), (2, (Tm 8)), (3, (Tm 9)), (4, (Kn 400000)), (5, (Kn 300))]), Cl 11 15 #[Kn 180, Kn 190] #[3, 3], Cl 12 15 #[Kn 70, Kn 90] #[3, 3], Oo 13 (.build 57 #[(0, (Kn 2)), (1, (Kn 120)), (2, (Tm 11)), (3, (Tm 12)), (4, (Kn 300000)), (5, (Kn 200))]), Oo 14 (.buildSlice 30 2 #[(0, (Tm 10)), (1, (Tm 13))]), Cl 15 15 #[Kn 3600, Kn 3700] #[3, 3], Oo 16 (.build 87 #[(0, (Kn 8000)), (1, (Kn 12000)), (2, (Tm 15))]), Oo 17 (.buildSlice 31 1 #[(0, (Tm 16))]), Oo 18 (.build 33 #[(0, (Tm 14)), (1, (Tm 17))]), Oo 1 (.alloc 33), Sr 33 (Tm 1) (Tm 18)]) (.seq (R0 [Oo 19 (.buildSlice 35 3 #[(0, (Kn 0)), (1, (Kn 1)), (2, (Kn 0))]), Oo 20 (.buildSlice 35 1 #[(0, (Kn 0))]), Oo 21 (.build 37 #[(0, (Tm 19)), (1, (Tm 20))]), Oo 2 (.alloc 37), Sr 37 (Tm 2) (Tm 21)]) (.seq (R0 [Ld 23 33 1, Ld 24 37 2, Cl 25 16 #[Tm 23, Tm 24] #[33, 37], Mv 22 25, Xt 26 22 0, Xt 27 22 1, Xt 28 22 2, Oo 3 (.alloc 42), Oo 4 (.alloc 42), Sr 42 (Tm 3) (Tm 26), Sr 42 (Tm 4) (Tm 27), Sg 5 28]) (.seq (R0 [Ld 30 33 1, Ld 31 37 2, Cl 32 19 #[Tm 30, Tm 31] #[33, 37], Mv 29 32, Xt 33 29 0, Xt 34 29 1, Sg 6 33, Sg 7 34]) (.seq (R1 [Mv 35 5, Bo 36 .eql 47 (Tm 35) (Kn 0) 47, Mv 37 36, Gm 38 7 37 true, Gb 39 .eql 47 (Tm 38) (Kn 0) 47 37 true, Pk 40 37 (Tm 39) (Kb false), Mv 41 40, Gl 42 42 3 41 true, Gc 43 15 #[Kn 616, Kn 628] #[3, 3] 41 true, Gb 44 .eql 42 (Tm 42) (Tm 43) 42 41 true, Pk 45 41 (Tm 44) (Kb false), Mv 46 45, Gl 47 42 4 46 true, Gc 48 15 #[Kn 4100, Kn 4240] #[3, 3] 46 true, Gb 49 .eql 42 (Tm 47) (Tm 48) 42 46 true, Pk 50 46 (Tm 49) (Kb false), Mv 51 50, Gm 52 6 51 true, Gb 53 .eql 3 (Tm 52) (Kn 900) 3 51 true, Pk 54 51 (Tm 53) (Kb false), Sg 0 54]) .ret))))))⟩
theorem sf20 : sfOf Try.f20 = some s20 := by kernel_rfl
theorem hb20 : hasBody Try.prog 20 = true := by kernel_rfl
def s30 : SF := ⟨57, [.tmp 6, .tmp 7], (.seq (R0 [Oo 3 (.box 33 (Tm 0)), Oo 4 (.box 37 (Tm 1)), Oo 6 (.assign (.const (.slice none 0 0))), Sk 7 (Kn 0)]) (.seq (.seq (R0 [Ld 12 33 3, Ld 13 37 4, Cl 14 61 #[Tm 12, Tm 13] #[33, 37], Sg 8 14]) (.block 0 (.seq (R0 [Mv 16 8, Bo 17 .neq 47 (Tm 16) (Kn 0) 47, Sg 15 17]) (.cond (Tm 15) (.seq (R0 [Mv 18 8, Oo 6 (.assign (.const (.slice none 0 0))), Sg 7 18]) .ret) (.seq (R0 [Mv 20 2, Oo 21 (.buildSlice 35 1 #[(0, (Tm 20))]), Cl 22 62 #[Kn 0, Kn 5000000, Tm 21] #[3, 3, 35], Oo 23 (.unOp .not 4 (Tm 22)), Sg 19 23]) (.cond (Tm 19) (.seq (R0 [Oo 6 (.assign (.const (.slice none 0 0))), Sk 7 (Kn 3)]) .ret) .skip)))))) (.seq (.seq (R0 [Fa 24 37 4 0, Ld 25 35 24, Lq 26 25 35, Oo 27 (.move (Kn 0))]) (.block 1 (.loop (.seq (R0 [Bo 28 .lss 3 (Tm 27) (Tm 26) 3]) (.seq (.cond (Tm 28) .skip (.exit 1)) (.seq (.block 2 (.seq (R0 [Mv 29 27, Sg 9 29]) (.seq (R0 [Mv 30 2, Sg 10 30]) (.seq (.seq (R0 [Mv 31 9, Bo 32 .rem 3 (Tm 31) (Kn 2) 3, Bo 33 .eql 3 (Tm 32) (Kn 1) 3]) (.cond (Tm 33) (.seq (R1 [Fa 34 33 3 1, Ld 35 31 34, Fa 36 37 4 1, Ld 37 35 36, Mv 38 9, Bo 39 .quo 3 (Tm 38) (Kn 2) 3, Ix 40 35 37 39, Ld 41 3 40, Ix 42 31 35 41, Ld 43 87 42, Oo 11 (.alloc 87), Sr 87 (Tm 11) (Tm 43)]) (R0 [Mv 44 2, Fa 45 87 11 1, Ld 46 3 45, Bo 47 .mul 3 (Tm 44) (Tm 46) 3, Fa 48 87 11 0, Ld 49 3 48, Cl 50 63 #[Tm 47, Tm 49] #[3, 3], Sg 10 50])) .skip)) (R0 [Mv 51 6, Mv 52 10, Oo 53 (.buildSlice 35 1 #[(0, (Tm 52))]), Oo 54 (.call { callee := .builtin .append, args := #[Tm 51, Tm 53], argTypes := #[35, 35] }), Sg 6 54]))))) (R0 [Bo 55 .add 3 (Tm 27) (Kn 1) 3, Mv 27 55]))))))) (.seq (R0 [Mv 56 6, Sg 6 56, Sk 7 (Kn 0)]) .ret))))⟩
theorem sf30 : sfOf Try.f30 = some s30 := by kernel_rfl
theorem hb30 : hasBody Try.prog 30 = true := by kernel_rfl
def s33 : SF := ⟨47, [.tmp 0], (.seq (R0 [Sk 0 (Kb false)]) (.seq (R0 [Oo 6 (.build 62 #[(0, (Kn 3)), (1, (Kn 2))]), Cl 7 15 #[Kn 3100, Kn 3160] #[3, 3], Cl 8 15 #[Kn 6100, Kn 6100] #[3, 3], Oo 9 (.buildSlice 46 2 #[(0, (Tm 7)), (1, (Tm 8))]), Oo 10 (.build 100 #[(0, (Tm 6)), (1, (Kn 100)), (2, (Tm 9))]), Oo 1 (.alloc 100), Sr 100 (Tm 1) (Tm 10)]) (.seq (R0 [Ld 12 100 1, Cl 13 35 #[Tm 12] #[100], Mv 11 13, Xt 14 11 0, Xt 15 11 1, Oo 2 (.alloc 42), Sr 42 (Tm 2) (Tm 14), Sg 3 15]) (.seq (R1 [Ld 17 100 1, Cl 18 15 #[Kn 2010, Kn 2012] #[3, 3], Oo 19 (.build 157 #[(1, (Tm 18))]), Oo 20 (.buildSlice 158 1 #[(0, (Tm 19))]), Cl 21 64 #[Tm 17, Tm 20] #[100, 158], Mv 16 21, Xt 22 16 0, Xt 23 16 1, Sg 4 22, Sg 5 23]) (.seq (R1 [Mv 24 3, Bo 25 .eql 47 (Tm 24) (Kn 0) 47, Mv 26 25, Gm 27 5 26 true, Gb 28 .eql 47 (Tm 27) (Kn 0) 47 26 true, Pk 29 26 (Tm 28) (Kb false), Mv 30 29, Gl 31 42 2 30 true, Gc 32 15 #[Kn 6000, Kn 6040] #[3, 3] 30 true, Gb 33 .eql 42 (Tm 31) (Tm 32) 42 30 true, Pk 34 30 (Tm 33) (Kb false), Mv 35 34, Gm 36 4 35 true, Og 37 (.call { callee := .builtin .len, args := #[Tm 36], argTypes := #[46] }) 35 true, Gb 38 .eql 3 (Tm 37) (Kn 2) 3 35 true, Pk 39 35 (Tm 38) (Kb false), Mv 40 39, Gm 41 4 40 true, Og 42 (.indexAddr 46 (Tm 41) (Kn 0)) 40 true, Gl 43 42 42 40 true, Gc 44 15 #[Kn 3115, Kn 3119] #[3, 3] 40 true, Gb 45 .eql 42 (Tm 43) (Tm 44) 42 40 true, Pk 46 40 (Tm 45) (Kb false), Sg 0 46]) .ret)))))⟩
theorem sf33 : sfOf Try.f33 = some s33 := by kernel_rfl
theorem hb33 : hasBody Try.prog 33 = true := by kernel_rfl
def s34 : SF := ⟨55, [.cell 4 100], (.seq (R0 [Oo 2 (.box 98 (Tm 0)), Oo 3 (.box 62 (Tm 1)), Oo 4 (.alloc 100)]) (.seq (R0 [Ld 8 62 3, Fa 9 98 2 0, Ld 10 5 9, Oo 11 (.convert 5 3 (Tm 10)), Bo 12 .rem 3 (Tm 11) (Kn 50) 3, Oo 13 (.build 100 #[(0, (Tm 8)), (1, (Tm 12))]), Oo 5 (.alloc 100), Sr 100 (Tm 5) (Tm 13)]) (.seq (.seq (R0 [Sk 6 (Kn 0)]) (.block 0 (.loop (.seq (.seq (R0 [Mv 14 6, Fa 15 98 2 1, Ld 16 96 15, Lq 17 16 96, Bo 18 .lss 3 (Tm 14) (Tm 17) 3, Mv 19 18, Gm 20 6 19 true, Gb 21 .lss 3 (Tm 20) (Kn 5) 3 19 true, Pk 22 19 (Tm 21) (Kb false)]) (.cond (Tm 22) .skip (.exit 0))) (.seq (.block 1 (.seq (R1 [Fa 25 100 5 1, Ld 26 3 25, Bo 27 .add 3 (Tm 26) (Kn 1) 3, Fa 28 98 2 1, Ld 29 96 28, Mv 30 6, Ix 31 96 29 30, Oo 32 (.indexAddr 27 (Tm 31) (Kn 0)), Ld 33 5 32, Oo 34 (.convert 5 3 (Tm 33)), Bo 35 .mul 3 (Kn 10) (Tm 34) 3, Bo 36 .add 3 (Tm 27) (Tm 35) 3, Sg 7 36]) (R1 [Fa 37 100 5 2, Ld 38 46 37, Mv 39 7, Mv 40 7, Fa 41 98 2 1, Ld 42 96 41, Mv 43 6, Ix 44 96 42 43, Oo 45 (.indexAddr 27 (Tm 44) (Kn 1)), Ld 46 5 45, Oo 47 (.convert 5 3 (Tm 46)), Bo 48 .rem 3 (Tm 47) (Kn 40) 3, Bo 49 .add 3 (Tm 40) (Tm 48) 3, Cl 50 15 #[Tm 39, Tm 49] #[3, 3], Oo 51 (.buildSlice 46 1 #[(0, (Tm 50))]), Oo 52 (.call { callee := .builtin .append, args := #[Tm 38, Tm 51], argTypes := #[46, 46] }), Fa 53 100 5 2, Sr 46 (Tm 53) (Tm 52)]))) (R0 [Mv 23 6, Bo 24 .add 3 (Tm 23) (Kn 1) 3, Sg 6 24])))))) (.seq (R0 [Ld 54 100 5, Sr 100 (Tm 4) (Tm 54)]) .ret))))⟩
theorem sf34 : sfOf Try.f34 = some s34 := by kernel_rfl
theorem hb34 : hasBody Try.prog 34 = true := by kernel_rfl
def s35 : SF := ⟨17, [.cell 2 42, .tmp 3], (.seq (R0 [Oo 1 (.box 100 (Tm 0)), Oo 2 (.alloc 42), Sk 3 (Kn 0)]) (.seq (.seq (R0 [Ld 5 100 1, Cl 6 65 #[Tm 5] #[100], Sg 4 6]) (.seq (R0 [Mv 7 4, Bo 8 .neq 47 (Tm 7) (Kn 0) 47]) (.cond (Tm 8) (.seq (R0 [Oo 9 (.build 42 #[]), Mv 10 4, Sr 42 (Tm 2) (Tm 9), Sg 3 10]) .ret) .skip))) (.seq (R1 [Ld 11 100 1, Oo 12 (.build 161 #[(0, (Tm 11))]), Ld 13 100 1, Oo 14 (.build 161 #[(0, (Tm 13))]), Cl 15 67 #[Tm 14] #[161], Cl 16 66 #[Tm 12, Tm 15] #[161, 42], Sr 42 (Tm 2) (Tm 16), Sk 3 (Kn 0)]) .ret)))⟩
theorem sf35 : sfOf Try.f35 = some s35 := by kernel_rfl
theorem hb35 : hasBody Try.prog 35 = true := by kernel_rfl
def o36_0 : SO := (Oo 7 (.buildSlice 46 0 #[]))
def o36_1 : SO := (Fa 8 100 1 2)
def o36_2 : SO := (Ld 9 46 8)
def o36_3 : SO := (Fa 3 100 1 0)
def o36_4 : SO := (Ld 4 62 3)
def o36_5 : SO := (Fa 5 100 1 1)
def o36_6 : SO := (Ld 6 3 5)
def o36_7 : SO := (Oo 10 (.call { callee := .builtin .append, args := #[Tm 7, Tm 9], argTypes := #[46, 46] }))
def o36_8 : SO := (Oo 11 (.build 100 #[(0, (Tm 4)), (1, (Tm 6)), (2, (Tm 10))]))
def o36_9 : SO := (Sr 100 (Tm 2) (Tm 11))
def s36 : SF := ⟨12, [.cell 2 100], (.seq (R0 [Oo 1 (.box 100 (Tm 0)), Oo 2 (.alloc 100)]) (.seq (.ord (.op o36_0 (.op o36_1 (.op o36_2 (.alt (.op o36_3 (.alt (.op o36_4 (.alt (.op o36_5 (.alt (.op o36_6 (.op o36_7 (.op o36_8 (.op o36_9 .done)))) (.op o36_7 (.op o36_6 (.op o36_8 (.op o36_9 .done)))))) (.op o36_7 (.op o36_5 (.op o36_6 (.op o36_8 (.op o36_9 .done))))))) (.alt (.op o36_5 (.alt (.op o36_4 (.alt (.op o36_6 (.op o36_7 (.op o36_8 (.op o36_9 .done)))) (.op o36_7 (.op o36_6 (.op o36_8 (.op o36_9 .done)))))) (.alt (.op o36_6 (.alt (.op o36_4 (.op o36_7 (.op o36_8 (.op o36_9 .done)))) (.op o36_7 (.op o36_4 (.op o36_8 (.op o36_9 .done)))))) (.op o36_7 (.op o36_4 (.op o36_6 (.op o36_8 (.op o36_9 .done)))))))) (.op o36_7 (.op o36_4 (.op o36_5 (.op o36_6 (.op o36_8 (.op o36_9 .done))))))))) (.alt (.op o36_5 (.alt (.op o36_3 (.alt (.op o36_4 (.alt (.op o36_6 (.op o36_7 (.op o36_8 (.op o36_9 .done)))) (.op o36_7 (.op o36_6 (.op o36_8 (.op o36_9 .done)))))) (.alt (.op o36_6 (.alt (.op o36_4 (.op o36_7 (.op o36_8 (.op o36_9 .done)))) (.op o36_7 (.op o36_4 (.op o36_8 (.op o36_9 .done)))))) (.op o36_7 (.op o36_4 (.op o36_6 (.op o36_8 (.op o36_9 .done)))))))) (.alt (.op o36_6 (.alt (.op o36_3 (.alt (.op o36_4 (.op o36_7 (.op o36_8 (.op o36_9 .done)))) (.op o36_7 (.op o36_4 (.op o36_8 (.op o36_9 .done)))))) (.op o36_7 (.op o36_3 (.op o36_4 (.op o36_8 (.op o36_9 .done))))))) (.op o36_7 (.op o36_3 (.op o36_4 (.op o36_6 (.op o36_8 (.op o36_9 .done))))))))) (.op o36_7 (.op o36_3 (.op o36_4 (.op o36_5 (.op o36_6 (.op o36_8 (.op o36_9 .done))))))))))))) .ret))⟩
theorem sf36 : sfOf Try.f36 = some s36 := by kernel_rfl
theorem hb36 : hasBody Try.prog 36 = true := by kernel_rfl
def s37 : SF := ⟨48, [.cell 2 42, .tmp 3], (.seq (R0 [Oo 1 (.box 107 (Tm 0)), Oo 2 (.alloc 42), Sk 3 (Kn 0)]) (.seq (.seq (R0 [Fa 5 107 1 0, Ld 6 42 5, Cl 7 68 #[Tm 6, Kn 0, Kn 100000] #[42, 3, 3], Oo 8 (.unOp .not 4 (Tm 7)), Mv 9 8, Gf 10 107 1 1 9 false, Gl 11 42 10 9 false, Gc 12 68 #[Tm 11, Kn 1, Kn 10000] #[42, 3, 3] 9 false, Og 13 (.unOp .not 4 (Tm 12)) 9 false, Pk 14 9 (Kb true) (Tm 13), Mv 15 14, Gf 16 107 1 2 15 false, Gl 17 3 16 15 false, Og 18 (.buildSlice 35 1 #[(0, (Tm 17))]) 15 false, Gc 19 69 #[Kn 1, Kn 20000, Tm 18] #[3, 3, 35] 15 false, Og 20 (.unOp .not 4 (Tm 19)) 15 false, Pk 21 15 (Kb true) (Tm 20), Mv 22 21, Gf 23 107 1 3 22 false, Gl 24 3 23 22 false, Og 25 (.buildSlice 35 1 #[(0, (Tm 24))]) 22 false, Gc 26 69 #[Kn 1, Kn 1000, Tm 25] #[3, 3, 35] 22 false, Og 27 (.unOp .not 4 (Tm 26)) 22 false, Pk 28 22 (Kb true) (Tm 27)]) (.cond (Tm 28) (.seq (R0 [Ld 29 42 2, Sr 42 (Tm 2) (Tm 29), Sk 3 (Kn 2)]) .ret) .skip)) (.seq (R0 [Oo 30 (.makeFunc (.func 70) #[] #[Tm 1]), Sg 4 30]) (.seq (R1 [Mv 31 4, Fa 32 107 1 0, Fa 33 42 32 0, Ld 34 3 33, Fa 35 107 1 1, Fa 36 42 35 0, Ld 37 3 36, Oo 38 (.call { callee := .value (Tm 31), args := #[Tm 34, Tm 37], argTypes := #[3, 3] }), Mv 39 4, Fa 40 107 1 0, Fa 41 42 40 1, Ld 42 3 41, Fa 43 107 1 1, Fa 44 42 43 1, Ld 45 3 44, Oo 46 (.call { callee := .value (Tm 39), args := #[Tm 42, Tm 45], argTypes := #[3, 3] }), Oo 47 (.build 42 #[(0, (Tm 38)), (1, (Tm 46))]), Sr 42 (Tm 2) (Tm 47), Sk 3 (Kn 0)]) .ret))))⟩
theorem sf37 : sfOf Try.f37 = some s37 := by kernel_rfl
theorem hb37 : hasBody Try.prog 37 = true := by kernel_rfl
def s38 : SF := ⟨42, [.tmp 6, .tmp 7], (.seq (R0 [Oo 3 (.box 109 (Tm 0)), Sk 6 (Kn 0), Sk 7 (Kn 0)]) (.seq (.seq (R0 [Ld 11 109 3, Oo 12 (.buildSlice 114 1 #[(0, (Tm 11))]), Cl 13 72 #[Tm 12, Kn 1] #[114, 3], Sg 8 13]) (.seq (R0 [Mv 14 8, Bo 15 .neq 47 (Tm 14) (Kn 0) 47]) (.cond (Tm 15) (.seq (R0 [Mv 16 8, Sk 6 (Kn 0), Sg 7 16]) .ret) .skip))) (.seq (R0 [Mv 18 1, Mv 19 2, Cl 20 73 #[Tm 18, Tm 19] #[112, 3], Mv 17 20, Xt 21 17 0, Xt 22 17 1, Oo 9 (.alloc 167), Sr 167 (Tm 9) (Tm 21), Sg 10 22]) (.seq (.block 0 (.seq (R0 [Mv 24 10, Bo 25 .neq 47 (Tm 24) (Kn 0) 47, Sg 23 25]) (.cond (Tm 23) (.seq (R0 [Mv 26 10, Sk 6 (Kn 0), Sg 7 26]) .ret) (.seq (R0 [Fa 28 109 3 1, Fa 29 42 28 1, Ld 30 3 29, Bo 31 .eql 3 (Tm 30) (Kn 0) 3, Sg 27 31]) (.cond (Tm 27) (.seq (R0 [Sk 6 (Kn 50), Sk 7 (Kn 0)]) .ret) .skip))))) (.seq (R1 [Ld 32 109 3, Ld 33 167 9, Cl 34 75 #[Tm 33] #[167], Cl 35 74 #[Tm 32, Tm 34] #[109, 3], Fa 36 109 3 1, Fa 37 42 36 1, Ld 38 3 37, Bo 39 .quo 3 (Tm 35) (Tm 38) 3, Bo 40 .add 3 (Kn 1) (Tm 39) 3, Oo 41 (.call { callee := .builtin .min, args := #[Kn 50, Tm 40], argTypes := #[3, 3] }), Sg 6 41, Sk 7 (Kn 0)]) .ret)))))⟩
theorem sf38 : sfOf Try.f38 = some s38 := by kernel_rfl
theorem hb38 : hasBody Try.prog 38 = true := by kernel_rfl
def s39 : SF := ⟨53, [.tmp 6, .tmp 7, .tmp 8], (.seq (R0 [Sk 6 (Kn 0), Sk 7 (Kn 0), Sk 8 (Kn 0)]) (.seq (.seq (R0 [Mv 15 0, Cl 16 72 #[Tm 15, Kn 50] #[114, 3], Sg 9 16]) (.seq (R0 [Mv 17 9, Bo 18 .neq 47 (Tm 17) (Kn 0) 47]) (.cond (Tm 18) (.seq (R0 [Mv 19 9, Sk 6 (Kn 0), Sk 7 (Kn 0), Sg 8 19]) .ret) .skip))) (.seq (R0 [Mv 21 1, Mv 22 2, Cl 23 73 #[Tm 21, Tm 22] #[112, 3], Mv 20 23, Xt 24 20 0, Xt 25 20 1, Oo 10 (.alloc 167), Sr 167 (Tm 10) (Tm 24), Sg 8 25]) (.seq (.seq (R0 [Mv 26 8, Bo 27 .neq 47 (Tm 26) (Kn 0) 47]) (.cond (Tm 27) (.seq (R0 [Mv 28 8, Sk 6 (Kn 0), Sk 7 (Kn 0), Sg 8 28]) .ret) .skip)) (.seq (.seq (R0 [Fa 29 167 10 0, Ld 30 112 29, Lq 31 30 112, Oo 32 (.move (Kn 0))]) (.block 0 (.loop (.seq (R0 [Bo 33 .lss 3 (Tm 32) (Tm 31) 3]) (.seq (.cond (Tm 33) .skip (.exit 0)) (.seq (.block 1 (.seq (R0 [Ix 34 112 30 32, Ld 35 111 34, Oo 12 (.alloc 111), Sr 111 (Tm 12) (Tm 35)]) (.seq (.seq (R0 [Fa 36 111 12 0, Ld 37 3 36, Fa 38 167 10 1, Ld 39 3 38, Bo 40 .gtr 3 (Tm 37) (Tm 39) 3]) (.cond (Tm 40) (.exit 0) .skip)) (.seq (R0 [Mv 42 0, Fa 43 111 12 1, Ld 44 3 43, Cl 45 76 #[Tm 42, Tm 44] #[114, 3], Mv 41 45, Xt 46 41 0, Xt 47 41 1, Sg 13 46, Sg 14 47]) (.seq (R0 [Mv 48 14]) (.cond (Tm 48) (.seq (R0 [Fa 49 111 12 0, Ld 50 3 49, Mv 51 13, Sg 6 50, Sg 7 51, Sk 8 (Kn 0)]) .ret) .skip)))))) (R0 [Bo 52 .add 3 (Tm 32) (Kn 1) 3, Mv 32 52]))))))) (.seq (R0 [Sk 6 (Kn 0), Sk 7 (Kn 0), Sk 8 (Kn 7)]) .ret))))))⟩
theorem sf39 : sfOf Try.f39 = some s39 := by kernel_rfl
theorem hb39 : hasBody Try.prog 39 = true := by kernel_rfl
def s40 : SF := ⟨38, [.tmp 0], (.seq (R0 [Sk 0 (Kb false)]) (.seq (R0 [Cl 6 15 #[Kn 5000, Kn 6000] #[3, 3], Cl 7 15 #[Kn 4000, Kn 4200] #[3, 3], Oo 8 (.build 107 #[(0, (Tm 6)), (1, (Tm 7)), (2, (Kn 1600)), (3, (Kn 587))]), Cl 9 37 #[Tm 8] #[107], Mv 5 9, Xt 10 5 0, Xt 11 5 1, Oo 1 (.alloc 42), Sr 42 (Tm 1) (Tm 10), Sg 2 11]) (.seq (R0 [Cl 13 15 #[Kn 300, Kn 320] #[3, 3], Cl 14 15 #[Kn 100, Kn 110] #[3, 3], Oo 15 (.build 109 #[(0, (Tm 13)), (1, (Tm 14))]), Oo 16 (.build 111 #[(1, (Kn 1000))]), Oo 17 (.build 111 #[(0, (Kn 10)), (1, (Kn 800))]), Oo 18 (.build 111 #[(0, (Kn 30)), (1, (Kn 600))]), Oo 19 (.buildSlice 112 3 #[(0, (Tm 16)), (1, (Tm 17)), (2, (Tm 18))]), Cl 20 38 #[Tm 15, Tm 19, Kn 10] #[109, 112, 3], Mv 12 20, Xt 21 12 0, Xt 22 12 1, Sg 3 21, Sg 4 22]) (.seq (R1 [Mv 23 2, Bo 24 .eql 47 (Tm 23) (Kn 0) 47, Mv 25 24, Gm 26 4 25 true, Gb 27 .eql 47 (Tm 26) (Kn 0) 47 25 true, Pk 28 25 (Tm 27) (Kb false), Mv 29 28, Gl 30 42 1 29 true, Gc 31 15 #[Kn 74226, Kn 91290] #[3, 3] 29 true, Gb 32 .eql 42 (Tm 30) (Tm 31) 42 29 true, Pk 33 29 (Tm 32) (Kb false), Mv 34 33, Gm 35 3 34 true, Gb 36 .eql 3 (Tm 35) (Kn 3) 3 34 true, Pk 37 34 (Tm 36) (Kb false), Sg 0 37]) .ret))))⟩
theorem sf40 : sfOf Try.f40 = some s40 := by kernel_rfl
theorem hb40 : hasBody Try.prog 40 = true := by kernel_rfl
def s41 : SF := ⟨16, [.tmp 4], (.seq (R0 [Sk 4 (Kn 0)]) (.seq (.seq (R0 [Mv 5 0, Lq 6 5 24, Bo 7 .eql 3 (Tm 6) (Kn 0) 3]) (.cond (Tm 7) (.seq (R0 [Sk 4 (Kn 0)]) .ret) .skip)) (.seq (R0 [Mv 8 0, Mv 9 1, Mv 10 0, Lq 11 10 24, Bo 12 .rem 3 (Tm 9) (Tm 11) 3, Ix 13 24 8 12, Ld 14 5 13, Oo 15 (.convert 5 3 (Tm 14)), Sg 4 15]) .ret)))⟩
theorem sf41 : sfOf Try.f41 = some s41 := by kernel_rfl
theorem hb41 : hasBody Try.prog 41 = true := by kernel_rfl
def s45 : SF := ⟨17, [.cell 4 130, .tmp 5], (.seq (R0 [Oo 2 (.box 33 (Tm 0)), Oo 3 (.box 37 (Tm 1)), Oo 4 (.alloc 130), Sk 5 (Kn 0)]) (.seq (.seq (R0 [Ld 7 33 2, Ld 8 37 3, Cl 9 61 #[Tm 7, Tm 8] #[33, 37], Sg 6 9]) (.seq (R0 [Mv 10 6, Bo 11 .neq 47 (Tm 10) (Kn 0) 47]) (.cond (Tm 11) (.seq (R0 [Ld 12 130 4, Mv 13 6, Sr 130 (Tm 4) (Tm 12), Sg 5 13]) .ret) .skip))) (.seq (R0 [Ld 14 33 2, Ld 15 37 3, Cl 16 84 #[Tm 14, Tm 15] #[33, 37], Sr 130 (Tm 4) (Tm 16), Sk 5 (Kn 0)]) .ret)))⟩
theorem sf45 : sfOf Try.f45 = some s45 := by kernel_rfl
theorem hb45 : hasBody Try.prog 45 = true := by kernel_rfl
def o46_0 : SO := (Ld 6 130 1)
def o46_1 : SO := (Mv 7 4)
def o46_2 : SO := (Cl 8 87 #[Tm 6, Tm 7] #[130, 179])
def o46_3 : SO := (Ld 9 130 1)
def o46_4 : SO := (Mv 10 5)
def o46_5 : SO := (Cl 11 87 #[Tm 9, Tm 10] #[130, 179])
def o46_6 : SO := (Oo 12 (.build 42 #[(0, (Tm 8)), (1, (Tm 11))]))
def o46_7 : SO := (Ld 13 130 1)
def o46_8 : SO := (Mv 14 4)
def o46_9 : SO := (Cl 15 88 #[Tm 13, Tm 14] #[130, 179])
def o46_10 : SO := (Ld 16 130 1)
def o46_11 : SO := (Mv 17 5)
def o46_12 : SO := (Cl 18 88 #[Tm 16, Tm 17] #[130, 179])
def o46_13 : SO := (Oo 19 (.build 42 #[(0, (Tm 15)), (1, (Tm 18))]))
def o46_14 : SO := (Sr 42 (Tm 2) (Tm 12))
def o46_15 : SO := (Sr 42 (Tm 3) (Tm 19))
def s46 : SF := ⟨20, [.cell 2 42, .cell 3 42], (.seq (R0 [Oo 1 (.box 130 (Tm 0)), Oo 2 (.alloc 42), Oo 3 (.alloc 42)]) (.seq (R0 [Oo 4 (.assign (.func 85)), Oo 5 (.assign (.func 86))]) (.seq (.ord (.op o46_0 (.op o46_1 (.op o46_2 (.op o46_3 (.op o46_4 (.op o46_5 (.op o46_6 (.op o46_7 (.op o46_8 (.op o46_9 (.op o46_10 (.op o46_11 (.op o46_12 (.alt (.op o46_13 (.op o46_14 (.op o46_15 .done))) (.op o46_14 (.op o46_13 (.op o46_15 .done)))))))))))))))))) .ret)))⟩
theorem sf46 : sfOf Try.f46 = some s46 := by kernel_rfl
theorem hb46 : hasBody Try.prog 46 = true := by kernel_rfl
def s47 : SF := ⟨6, [.tmp 2], (.seq (R0 [Oo 2 (.assign (.const (.slice none 0 0)))]) (.seq (R0 [Oo 3 (.buildSlice 35 0 #[]), Mv 4 0, Oo 5 (.call { callee := .builtin .append, args := #[Tm 3, Tm 4], argTypes := #[35, 35] }), Sg 2 5]) .ret))⟩
theorem sf47 : sfOf Try.f47 = some s47 := by kernel_rfl
theorem hb47 : hasBody Try.prog 47 = true := by kernel_rfl
def s49 : SF := ⟨24, [.cell 4 3], (.seq (R0 [Oo 2 (.box 130 (Tm 0)), Oo 3 (.box 138 (Tm 1)), Oo 4 (.alloc 3)]) (.seq (.seq (R0 [Ld 7 130 2, Oo 8 (.makeFunc (.func 59) #[Tm 7] #[])]) (.block 0 (.rng (Tm 8) [9, 10] (.seq (R0 [Sg 5 9]) (R0 [Sg 6 10])) (.block 1 (R1 [Ld 11 3 4, Ld 12 138 3, Fa 13 130 2 1, Fa 14 33 13 0, Ld 15 30 14, Mv 16 5, Ix 17 30 15 16, Ld 18 57 17, Oo 19 (.call { callee := .value (Tm 12), args := #[Tm 18], argTypes := #[57] }), Mv 20 6, Bo 21 .mul 3 (Tm 19) (Tm 20) 3, Bo 22 .add 3 (Tm 11) (Tm 21) 3, Sr 3 (Tm 4) (Tm 22)]))))) (.seq (R0 [Ld 23 3 4, Sr 3 (Tm 4) (Tm 23)]) .ret)))⟩
theorem sf49 : sfOf Try.f49 = some s49 := by kernel_rfl
theorem hb49 : hasBody Try.prog 49 = true := by kernel_rfl
def s51 : SF := ⟨8, [.tmp 2], (.seq (R0 [Oo 1 (.box 130 (Tm 0)), Sk 2 (Kn 0)]) (.seq (R1 [Ld 3 130 1, Cl 4 49 #[Tm 3, .func 89] #[130, 138], Fa 5 130 1 2, Ld 6 3 5, Bo 7 .quo 3 (Tm 4) (Tm 6) 3, Sg 2 7]) .ret))⟩
theorem sf51 : sfOf Try.f51 = some s51 := by kernel_rfl
theorem hb51 : hasBody Try.prog 51 = true := by kernel_rfl
def s58 : SF := ⟨11, [.tmp 6], (.seq (R0 [Oo 3 (.box 3 (Tm 0)), Oo 4 (.box 3 (Tm 1)), Sk 6 (Kb false)]) (.seq (R0 [Mv 7 2, Oo 8 (.makeFunc (.func 98) #[] #[Tm 3, Tm 4]), Cl 9 97 #[Tm 7, Tm 8] #[35, 186], Oo 10 (.unOp .not 4 (Tm 9)), Sg 6 10]) .ret))⟩
theorem sf58 : sfOf Try.f58 = some s58 := by kernel_rfl
theorem hb58 : hasBody Try.prog 58 = true := by kernel_rfl
def s59 : SF := ⟨47, [], (.seq (R0 [Oo 2 (.box 130 (Tm 0))]) (.seq (R0 [Fa 8 130 2 0, Fa 9 37 8 0, Ld 10 35 9, Lq 11 10 35, Oo 12 (.move (Kn 0))]) (.block 0 (.loop (.seq (R0 [Bo 13 .lss 3 (Tm 12) (Tm 11) 3]) (.seq (.cond (Tm 13) .skip (.exit 0)) (.seq (.block 1 (.seq (R0 [Mv 14 12, Ix 15 35 10 12, Ld 16 3 15, Sg 4 14, Sg 5 16]) (.seq (R0 [Fa 17 130 2 2, Ld 18 3 17, Sg 6 18]) (.seq (.seq (R0 [Mv 19 4, Bo 20 .rem 3 (Tm 19) (Kn 2) 3, Bo 21 .eql 3 (Tm 20) (Kn 1) 3]) (.cond (Tm 21) (.seq (R1 [Fa 22 130 2 1, Fa 23 33 22 1, Ld 24 31 23, Fa 25 130 2 0, Fa 26 37 25 1, Ld 27 35 26, Mv 28 4, Bo 29 .quo 3 (Tm 28) (Kn 2) 3, Ix 30 35 27 29, Ld 31 3 30, Ix 32 31 24 31, Ld 33 87 32, Oo 7 (.alloc 87), Sr 87 (Tm 7) (Tm 33)]) (R1 [Mv 34 6, Fa 35 87 7 0, Ld 36 3 35, Bo 37 .quo 3 (Tm 34) (Tm 36) 3, Fa 38 87 7 1, Ld 39 3 38, Bo 40 .mul 3 (Tm 37) (Tm 39) 3, Sg 6 40])) .skip)) (.seq (R0 [Mv 41 1, Mv 42 5, Mv 43 6, Oo 44 (.call { callee := .value (Tm 41), args := #[Tm 42, Tm 43], argTypes := #[3, 3] }), Oo 45 (.unOp .not 4 (Tm 44))]) (.cond (Tm 45) .ret .skip)))))) (R0 [Bo 46 .add 3 (Tm 12) (Kn 1) 3, Mv 12 46]))))))))⟩
theorem sf59 : sfOf Try.f59 = some s59 := by kernel_rfl
theorem hb59 : hasBody Try.prog 59 = true := by kernel_rfl
end Go.Dw.Seat
end
section
namespace Go.Dw.Seat
open Go Go.Dw Go.Proofs
def s61 : SF := ⟨57, [.tmp 4], (.seq (R0 [Oo 2 (.box 33 (Tm 0)), Oo 3 (.box 37 (Tm 1)), Sk 4 (Kn 0)]) (.seq (.seq (R0 [Ld 8 33 2, Cl 9 100 #[Tm 8] #[33], Sg 5 9]) (.seq (R0 [Mv 10 5, Bo 11 .neq 47 (Tm 10) (Kn 0) 47]) (.cond (Tm 11) (.seq (R0 [Mv 12 5, Sg 4 12]) .ret) .skip))) (.seq (.block 0 (.seq (R0 [Ld 14 37 3, Cl 15 101 #[Tm 14] #[37], Oo 16 (.unOp .not 4 (Tm 15)), Sg 13 16]) (.cond (Tm 13) (.seq (R0 [Sk 4 (Kn 4)]) .ret) (.seq (.seq (R0 [Fa 18 33 2 0, Ld 19 30 18, Lq 20 19 30, Bo 21 .sub 3 (Tm 20) (Kn 1) 3, Fa 22 37 3 0, Ld 23 35 22, Cl 24 58 #[Kn 0, Tm 21, Tm 23] #[3, 3, 35], Oo 25 (.unOp .not 4 (Tm 24)), Sg 17 25]) (.cond (Tm 17) .skip (R0 [Fa 26 33 2 1, Ld 27 31 26, Lq 28 27 31, Bo 29 .sub 3 (Tm 28) (Kn 1) 3, Fa 30 37 3 1, Ld 31 35 30, Cl 32 58 #[Kn 0, Tm 29, Tm 31] #[3, 3, 35], Oo 33 (.unOp .not 4 (Tm 32)), Sg 17 33]))) (.cond (Tm 17) (.seq (R0 [Sk 4 (Kn 7)]) .ret) .skip))))) (.seq (.seq (R0 [Fa 34 37 3 1, Ld 35 35 34, Lq 36 35 35, Cl 37 102 #[Tm 36] #[3], Lq 38 37 190, Oo 39 (.move (Kn 0))]) (.block 1 (.loop (.seq (R0 [Bo 40 .lss 3 (Tm 39) (Tm 38) 3]) (.seq (.cond (Tm 40) .skip (.exit 1)) (.seq (.block 2 (.seq (R0 [Mv 41 39, Ix 42 190 37 39, Ld 43 55 42, Sg 6 41, Sg 7 43]) (.seq (R1 [Fa 44 33 2 0, Ld 45 30 44, Fa 46 37 3 0, Ld 47 35 46, Mv 48 6, Ix 49 35 47 48, Ld 50 3 49, Ix 51 30 45 50, Fa 52 57 51 0, Ld 53 55 52, Mv 54 7, Bo 55 .neq 55 (Tm 53) (Tm 54) 55]) (.cond (Tm 55) (.seq (R0 [Sk 4 (Kn 2)]) .ret) .skip)))) (R0 [Bo 56 .add 3 (Tm 39) (Kn 1) 3, Mv 39 56]))))))) (.seq (R0 [Sk 4 (Kn 0)]) .ret)))))⟩
theorem sf61 : sfOf Try.f61 = some s61 := by kernel_rfl
theorem hb61 : hasBody Try.prog 61 = true := by kernel_rfl
def s62 : SF := ⟨11, [.tmp 6], (.seq (R0 [Oo 3 (.box 3 (Tm 0)), Oo 4 (.box 3 (Tm 1)), Sk 6 (Kb false)]) (.seq (R0 [Mv 7 2, Oo 8 (.makeFunc (.func 103) #[] #[Tm 3, Tm 4]), Cl 9 97 #[Tm 7, Tm 8] #[35, 186], Oo 10 (.unOp .not 4 (Tm 9)), Sg 6 10]) .ret))⟩
theorem sf62 : sfOf Try.f62 = some s62 := by kernel_rfl
theorem hb62 : hasBody Try.prog 62 = true := by kernel_rfl
def s63 : SF := ⟨11, [.tmp 4], (.seq (R0 [Sk 4 (Kn 0)]) (.seq (R0 [Mv 5 0, Mv 6 1, Bo 7 .add 3 (Tm 5) (Tm 6) 3, Bo 8 .sub 3 (Tm 7) (Kn 1) 3, Mv 9 1, Bo 10 .quo 3 (Tm 8) (Tm 9) 3, Sg 4 10]) .ret))⟩
theorem sf63 : sfOf Try.f63 = some s63 := by kernel_rfl
theorem hb63 : hasBody Try.prog 63 = true := by kernel_rfl
def s64 : SF := ⟨114, [.tmp 4, .tmp 5], (.seq (R0 [Oo 2 (.box 100 (Tm 0)), Oo 4 (.assign (.const (.slice none 0 0))), Sk 5 (Kn 0)]) (.seq (.seq (R0 [Ld 13 100 2, Cl 14 65 #[Tm 13] #[100], Sg 6 14]) (.block 0 (.seq (R0 [Mv 16 6, Bo 17 .neq 47 (Tm 16) (Kn 0) 47, Sg 15 17]) (.cond (Tm 15) (.seq (R0 [Mv 18 6, Oo 4 (.assign (.const (.slice none 0 0))), Sg 5 18]) .ret) (.seq (R0 [Mv 20 1, Lq 21 20 158, Bo 22 .gtr 3 (Tm 21) (Kn 12) 3, Sg 19 22]) (.cond (Tm 19) (.seq (R0 [Oo 4 (.assign (.const (.slice none 0 0))), Sk 5 (Kn 8)]) .ret) (.seq (R0 [Mv 24 1, Cl 25 104 #[Tm 24, .func 105] #[158, 193], Sg 23 25]) (.cond (Tm 23) (.seq (R0 [Oo 4 (.assign (.const (.slice none 0 0))), Sk 5 (Kn 3)]) .ret) (.seq (R0 [Mv 27 1, Oo 28 (.makeFunc (.func 107) #[] #[Tm 2]), Cl 29 104 #[Tm 27, Tm 28] #[158, 193], Sg 26 29]) (.cond (Tm 26) (.seq (R0 [Oo 4 (.assign (.const (.slice none 0 0))), Sk 5 (Kn 7)]) .ret) .skip)))))))))) (.seq (R0 [Fa 30 100 2 2, Ld 31 46 30, Lq 32 31 46, Bo 33 .add 3 (Tm 32) (Kn 1) 3, Cl 34 108 #[Tm 33] #[3], Sg 7 34]) (.seq (.seq (R0 [Fa 35 100 2 2, Ld 36 46 35, Lq 37 36 46, Oo 38 (.move (Kn 0))]) (.block 1 (.loop (.seq (R0 [Bo 39 .lss 3 (Tm 38) (Tm 37) 3]) (.seq (.cond (Tm 39) .skip (.exit 1)) (.seq (.block 2 (.seq (R0 [Mv 40 38, Ix 41 46 36 38, Ld 42 42 41, Oo 9 (.alloc 42), Sg 8 40, Sr 42 (Tm 9) (Tm 42)]) (R0 [Mv 43 7, Mv 44 8, Mv 45 8, Bo 46 .add 3 (Tm 45) (Kn 1) 3, Fa 47 42 9 0, Ld 48 3 47, Fa 49 100 2 1, Ld 50 3 49, Bo 51 .sub 3 (Tm 48) (Tm 50) 3, Fa 52 42 9 1, Ld 53 3 52, Fa 54 100 2 1, Ld 55 3 54, Bo 56 .sub 3 (Tm 53) (Tm 55) 3, Oo 57 (.build 42 #[(0, (Tm 51)), (1, (Tm 56))]), Cl 58 109 #[Tm 43, Tm 44, Tm 46, Tm 57] #[195, 3, 3, 42]]))) (R0 [Bo 59 .add 3 (Tm 38) (Kn 1) 3, Mv 38 59]))))))) (.seq (.seq (R0 [Mv 60 1, Lq 61 60 158, Oo 62 (.move (Kn 0))]) (.block 3 (.loop (.seq (R0 [Bo 63 .lss 3 (Tm 62) (Tm 61) 3]) (.seq (.cond (Tm 63) .skip (.exit 3)) (.seq (.block 4 (.seq (R0 [Ix 64 158 60 62, Ld 65 157 64, Oo 11 (.alloc 157), Sr 157 (Tm 11) (Tm 65)]) (.regL [Mv 66 7, Fa 67 157 11 0, Ld 68 3 67, Bo 69 .add 3 (Tm 68) (Kn 1) 3, Ld 70 100 2, Oo 71 (.build 161 #[(0, (Tm 70))]), Fa 72 157 11 1, Ld 73 42 72, Cl 74 110 #[Tm 71, Tm 73] #[161, 42]] (Cl 75 109 #[Tm 66, Kn 0, Tm 69, Tm 74] #[195, 3, 3, 42]) []))) (R0 [Bo 76 .add 3 (Tm 62) (Kn 1) 3, Mv 62 76]))))))) (.seq (.seq (R0 [Mv 77 7, Cl 78 111 #[Tm 77] #[195], Oo 79 (.unOp .not 4 (Tm 78))]) (.cond (Tm 79) (.seq (R0 [Oo 4 (.assign (.const (.slice none 0 0))), Sk 5 (Kn 9)]) .ret) .skip)) (.seq (.seq (R0 [Fa 80 100 2 2, Ld 81 46 80, Lq 82 81 46, Oo 83 (.move (Kn 0))]) (.block 5 (.loop (.seq (R0 [Bo 84 .lss 3 (Tm 83) (Tm 82) 3]) (.seq (.cond (Tm 84) .skip (.exit 5)) (.seq (.block 6 (.seq (R0 [Mv 85 83, Sg 12 85]) (R1 [Mv 86 4, Fa 87 100 2 1, Ld 88 3 87, Mv 89 7, Mv 90 12, Bo 91 .add 3 (Tm 90) (Kn 1) 3, Ix 92 195 89 91, Ld 93 35 92, Mv 94 12, Ix 95 35 93 94, Ld 96 3 95, Bo 97 .sub 3 (Tm 88) (Tm 96) 3, Fa 98 100 2 1, Ld 99 3 98, Mv 100 7, Mv 101 12, Ix 102 195 100 101, Ld 103 35 102, Mv 104 12, Bo 105 .add 3 (Tm 104) (Kn 1) 3, Ix 106 35 103 105, Ld 107 3 106, Bo 108 .add 3 (Tm 99) (Tm 107) 3, Oo 109 (.build 42 #[(0, (Tm 97)), (1, (Tm 108))]), Oo 110 (.buildSlice 46 1 #[(0, (Tm 109))]), Oo 111 (.call { callee := .builtin .append, args := #[Tm 86, Tm 110], argTypes := #[46, 46] }), Sg 4 111]))) (R0 [Bo 112 .add 3 (Tm 83) (Kn 1) 3, Mv 83 112]))))))) (.seq (R0 [Mv 113 4, Sg 4 113, Sk 5 (Kn 0)]) .ret))))))))⟩
theorem sf64 : sfOf Try.f64 = some s64 := by kernel_rfl
theorem hb64 : hasBody Try.prog 64 = true := by kernel_rfl
def s65 : SF := ⟨38, [.tmp 2], (.seq (R0 [Oo 1 (.box 100 (Tm 0)), Sk 2 (Kn 0)]) (.seq (.block 0 (.seq (.seq (R0 [Fa 4 100 1 0, Fa 5 62 4 1, Ld 6 3 5, Oo 7 (.buildSlice 35 1 #[(0, (Tm 6))]), Cl 8 62 #[Kn 1, Kn 10000, Tm 7] #[3, 3, 35], Oo 9 (.unOp .not 4 (Tm 8)), Sg 3 9]) (.cond (Tm 3) .skip (.seq (R0 [Fa 10 100 1 0, Fa 11 62 10 1, Ld 12 3 11, Fa 13 100 1 0, Fa 14 62 13 1, Ld 15 3 14, Bo 16 .mul 3 (Kn 2) (Tm 15) 3, Fa 17 100 1 0, Fa 18 62 17 0, Ld 19 3 18, Oo 20 (.buildSlice 35 1 #[(0, (Tm 19))]), Cl 21 62 #[Tm 12, Tm 16, Tm 20] #[3, 3, 35], Oo 22 (.unOp .not 4 (Tm 21)), Sg 3 22]) (.cond (Tm 3) .skip (R0 [Fa 23 100 1 1, Ld 24 3 23, Oo 25 (.buildSlice 35 1 #[(0, (Tm 24))]), Cl 26 62 #[Kn 0, Kn 10000, Tm 25] #[3, 3, 35], Oo 27 (.unOp .not 4 (Tm 26)), Sg 3 27]))))) (.cond (Tm 3) (.seq (R0 [Sk 2 (Kn 2)]) .ret) (.seq (R0 [Fa 29 100 1 2, Ld 30 46 29, Lq 31 30 46, Bo 32 .gtr 3 (Tm 31) (Kn 6) 3, Sg 28 32]) (.cond (Tm 28) (.seq (R0 [Sk 2 (Kn 5)]) .ret) (.seq (R0 [Fa 34 100 1 2, Ld 35 46 34, Oo 36 (.makeFunc (.func 113) #[] #[Tm 1]), Cl 37 112 #[Tm 35, Tm 36] #[46, 181], Sg 33 37]) (.cond (Tm 33) (.seq (R0 [Sk 2 (Kn 4)]) .ret) .skip))))))) (.seq (R0 [Sk 2 (Kn 0)]) .ret)))⟩
theorem sf65 : sfOf Try.f65 = some s65 := by kernel_rfl
theorem hb65 : hasBody Try.prog 65 = true := by kernel_rfl
def s66 : SF := ⟨14, [.cell 4 42], (.seq (R0 [Oo 2 (.box 161 (Tm 0)), Oo 3 (.box 42 (Tm 1)), Oo 4 (.alloc 42)]) (.seq (R1 [Ld 5 161 2, Fa 6 42 3 0, Ld 7 3 6, Cl 8 114 #[Tm 5, Tm 7] #[161, 3], Ld 9 161 2, Fa 10 42 3 1, Ld 11 3 10, Cl 12 114 #[Tm 9, Tm 11] #[161, 3], Oo 13 (.build 42 #[(0, (Tm 8)), (1, (Tm 12))]), Sr 42 (Tm 4) (Tm 13)]) .ret))⟩
theorem sf66 : sfOf Try.f66 = some s66 := by kernel_rfl
theorem hb66 : hasBody Try.prog 66 = true := by kernel_rfl
def s67 : SF := ⟨11, [.cell 2 42], (.seq (R0 [Oo 1 (.box 161 (Tm 0)), Oo 2 (.alloc 42)]) (.seq (.seq (R0 [Ld 5 161 1, Oo 6 (.makeFunc (.func 115) #[Tm 5] #[])]) (.block 0 (.rng (Tm 6) [7, 8] (R0 [Oo 4 (.alloc 42), Sr 42 (Tm 4) (Tm 8)]) (.block 1 (R0 [Ld 9 42 4, Sr 42 (Tm 2) (Tm 9)]))))) (.seq (R0 [Ld 10 42 2, Sr 42 (Tm 2) (Tm 10)]) .ret)))⟩
theorem sf67 : sfOf Try.f67 = some s67 := by kernel_rfl
theorem hb67 : hasBody Try.prog 67 = true := by kernel_rfl
def s68 : SF := ⟨22, [.tmp 6], (.seq (R0 [Oo 3 (.box 42 (Tm 0)), Sk 6 (Kb false)]) (.seq (R0 [Mv 7 1, Mv 8 2, Fa 9 42 3 0, Ld 10 3 9, Fa 11 42 3 1, Ld 12 3 11, Oo 13 (.buildSlice 35 2 #[(0, (Tm 10)), (1, (Tm 12))]), Cl 14 69 #[Tm 7, Tm 8, Tm 13] #[3, 3, 35], Mv 15 14, Gf 16 42 3 0 15 true, Gl 17 3 16 15 true, Gf 18 42 3 1 15 true, Gl 19 3 18 15 true, Gb 20 .leq 3 (Tm 17) (Tm 19) 3 15 true, Pk 21 15 (Tm 20) (Kb false), Sg 6 21]) .ret))⟩
theorem sf68 : sfOf Try.f68 = some s68 := by kernel_rfl
theorem hb68 : hasBody Try.prog 68 = true := by kernel_rfl
def s69 : SF := ⟨11, [.tmp 6], (.seq (R0 [Oo 3 (.box 3 (Tm 0)), Oo 4 (.box 3 (Tm 1)), Sk 6 (Kb false)]) (.seq (R0 [Mv 7 2, Oo 8 (.makeFunc (.func 116) #[] #[Tm 3, Tm 4]), Cl 9 97 #[Tm 7, Tm 8] #[35, 186], Oo 10 (.unOp .not 4 (Tm 9)), Sg 6 10]) .ret))⟩
theorem sf69 : sfOf Try.f69 = some s69 := by kernel_rfl
theorem hb69 : hasBody Try.prog 69 = true := by kernel_rfl
def s70 : SF := ⟨17, [.tmp 5], (.seq (R0 [Sk 5 (Kn 0)]) (.seq (R1 [Mv 6 0, Mv 7 1, Fa 8 107 2 2, Ld 9 3 8, Bo 10 .mul 3 (Tm 7) (Tm 9) 3, Cl 11 71 #[Tm 10] #[3], Bo 12 .mul 3 (Tm 6) (Tm 11) 3, Fa 13 107 2 3, Ld 14 3 13, Bo 15 .mul 3 (Tm 12) (Tm 14) 3, Bo 16 .quo 3 (Tm 15) (Kn 100000) 3, Sg 5 16]) .ret))⟩
theorem sf70 : sfOf Try.f70 = some s70 := by kernel_rfl
theorem hb70 : hasBody Try.prog 70 = true := by kernel_rfl
def s71 : SF := ⟨7, [.tmp 2], (.seq (R0 [Oo 1 (.box 3 (Tm 0)), Sk 2 (Kn 0)]) (.seq (R0 [Ld 3 3 1, Bo 4 .add 3 (Tm 3) (Kn 1) 3, Oo 5 (.makeFunc (.func 118) #[] #[Tm 1]), Cl 6 117 #[Tm 4, Tm 5] #[3, 186], Sg 2 6]) .ret))⟩
theorem sf71 : sfOf Try.f71 = some s71 := by kernel_rfl
theorem hb71 : hasBody Try.prog 71 = true := by kernel_rfl
def s72 : SF := ⟨15, [.tmp 4], (.seq (R0 [Sk 4 (Kn 0)]) (.seq (R0 [Oo 5 (.assign (.func 119))]) (.seq (.block 0 (.seq (R0 [Mv 7 0, Lq 8 7 114, Mv 9 1, Bo 10 .gtr 3 (Tm 8) (Tm 9) 3, Sg 6 10]) (.cond (Tm 6) (.seq (R0 [Sk 4 (Kn 5)]) .ret) (.seq (R0 [Mv 12 0, Mv 13 5, Cl 14 120 #[Tm 12, Tm 13] #[114, 201], Sg 11 14]) (.cond (Tm 11) (.seq (R0 [Sk 4 (Kn 2)]) .ret) .skip))))) (.seq (R0 [Sk 4 (Kn 0)]) .ret))))⟩
theorem sf72 : sfOf Try.f72 = some s72 := by kernel_rfl
theorem hb72 : hasBody Try.prog 72 = true := by kernel_rfl
def s73 : SF := ⟨76, [.cell 4 167, .tmp 5], (.seq (R0 [Oo 4 (.alloc 167), Sk 5 (Kn 0)]) (.seq (.seq (R0 [Mv 8 0, Lq 9 8 112, Oo 10 (.buildSlice 35 1 #[(0, (Tm 9))]), Cl 11 69 #[Kn 1, Kn 10, Tm 10] #[3, 3, 35], Oo 12 (.unOp .not 4 (Tm 11)), Mv 13 12, Gm 14 0 13 false, Og 15 (.indexAddr 112 (Tm 14) (Kn 0)) 13 false, Gf 16 111 15 0 13 false, Gl 17 3 16 13 false, Gb 18 .neq 3 (Tm 17) (Kn 0) 3 13 false, Pk 19 13 (Kb true) (Tm 18)]) (.cond (Tm 19) (.seq (R0 [Ld 20 167 4, Sr 167 (Tm 4) (Tm 20), Sk 5 (Kn 4)]) .ret) .skip)) (.seq (.seq (R0 [Mv 21 0, Lq 22 21 112, Oo 23 (.move (Kn 0))]) (.block 0 (.loop (.seq (R0 [Bo 24 .lss 3 (Tm 23) (Tm 22) 3]) (.seq (.cond (Tm 24) .skip (.exit 0)) (.seq (.block 1 (.seq (R0 [Mv 25 23, Ix 26 112 21 23, Ld 27 111 26, Oo 7 (.alloc 111), Sg 6 25, Sr 111 (Tm 7) (Tm 27)]) (.seq (R1 [Fa 28 111 7 0, Ld 29 3 28, Oo 30 (.buildSlice 35 1 #[(0, (Tm 29))]), Cl 31 69 #[Kn 0, Kn 10000, Tm 30] #[3, 3, 35], Oo 32 (.unOp .not 4 (Tm 31)), Mv 33 32, Gf 34 111 7 1 33 false, Gl 35 3 34 33 false, Og 36 (.buildSlice 35 1 #[(0, (Tm 35))]) 33 false, Gc 37 69 #[Kn 0, Kn 1000, Tm 36] #[3, 3, 35] 33 false, Og 38 (.unOp .not 4 (Tm 37)) 33 false, Pk 39 33 (Kb true) (Tm 38), Mv 40 39, Gm 41 6 40 false, Gb 42 .gtr 3 (Tm 41) (Kn 0) 3 40 false, Gm 43 42 40 false, Gf 44 111 7 0 43 true, Gl 45 3 44 43 true, Gm 46 0 43 true, Gm 47 6 43 true, Gb 48 .sub 3 (Tm 47) (Kn 1) 3 43 true, Gx 49 112 46 48 43 true, Gf 50 111 49 0 43 true, Gl 51 3 50 43 true, Gb 52 .leq 3 (Tm 45) (Tm 51) 3 43 true, Gm 53 52 43 true, Gf 54 111 7 1 53 false, Gl 55 3 54 53 false, Gm 56 0 53 false, Gm 57 6 53 false, Gb 58 .sub 3 (Tm 57) (Kn 1) 3 53 false, Gx 59 112 56 58 53 false, Gf 60 111 59 1 53 false, Gl 61 3 60 53 false, Gb 62 .gtr 3 (Tm 55) (Tm 61) 3 53 false, Og 63 (.pick (Tm 53) (Kb true) (Tm 62)) 43 true, Og 64 (.pick (Tm 43) (Tm 63) (Kb false)) 40 false, Pk 65 40 (Kb true) (Tm 64)]) (.cond (Tm 65) (.seq (R0 [Ld 66 167 4, Sr 167 (Tm 4) (Tm 66), Sk 5 (Kn 4)]) .ret) .skip)))) (R0 [Bo 67 .add 3 (Tm 23) (Kn 1) 3, Mv 23 67]))))))) (.seq (.seq (R0 [Mv 68 1, Oo 69 (.buildSlice 35 1 #[(0, (Tm 68))]), Cl 70 69 #[Kn 0, Kn 10000, Tm 69] #[3, 3, 35], Oo 71 (.unOp .not 4 (Tm 70))]) (.cond (Tm 71) (.seq (R0 [Ld 72 167 4, Sr 167 (Tm 4) (Tm 72), Sk 5 (Kn 3)]) .ret) .skip)) (.seq (R0 [Mv 73 0, Mv 74 1, Oo 75 (.build 167 #[(0, (Tm 73)), (1, (Tm 74))]), Sr 167 (Tm 4) (Tm 75), Sk 5 (Kn 0)]) .ret)))))⟩
theorem sf73 : sfOf Try.f73 = some s73 := by kernel_rfl
theorem hb73 : hasBody Try.prog 73 = true := by kernel_rfl
def s74 : SF := ⟨11, [.tmp 4], (.seq (R0 [Oo 2 (.box 109 (Tm 0)), Sk 4 (Kn 0)]) (.seq (R0 [Fa 5 109 2 0, Fa 6 42 5 0, Ld 7 3 6, Mv 8 1, Bo 9 .mul 3 (Tm 7) (Tm 8) 3, Bo 10 .quo 3 (Tm 9) (Kn 1000) 3, Sg 4 10]) .ret))⟩
theorem sf74 : sfOf Try.f74 = some s74 := by kernel_rfl
theorem hb74 : hasBody Try.prog 74 = true := by kernel_rfl
def s75 : SF := ⟨21, [.tmp 2], (.seq (R0 [Oo 1 (.box 167 (Tm 0)), Sk 2 (Kn 0)]) (.seq (.seq (R0 [Fa 5 167 1 0, Ld 6 112 5, Lq 7 6 112, Oo 8 (.move (Kn 0))]) (.block 0 (.loop (.seq (R0 [Bo 9 .lss 3 (Tm 8) (Tm 7) 3]) (.seq (.cond (Tm 9) .skip (.exit 0)) (.seq (.block 1 (.seq (R0 [Ix 10 112 6 8, Ld 11 111 10, Oo 4 (.alloc 111), Sr 111 (Tm 4) (Tm 11)]) (.seq (R0 [Fa 12 111 4 0, Ld 13 3 12, Fa 14 167 1 1, Ld 15 3 14, Bo 16 .leq 3 (Tm 13) (Tm 15) 3]) (.cond (Tm 16) (R0 [Fa 17 111 4 1, Ld 18 3 17, Sg 2 18]) .skip)))) (R0 [Bo 19 .add 3 (Tm 8) (Kn 1) 3, Mv 8 19]))))))) (.seq (R0 [Mv 20 2, Sg 2 20]) .ret)))⟩
theorem sf75 : sfOf Try.f75 = some s75 := by kernel_rfl
theorem hb75 : hasBody Try.prog 75 = true := by kernel_rfl
def o76_0 : SO := (Ld 22 3 4)
def o76_1 : SO := (Ld 23 4 5)
def o76_2 : SO := (Sr 3 (Tm 4) (Tm 22))
def o76_3 : SO := (Sr 4 (Tm 5) (Tm 23))
def s76 : SF := ⟨24, [.cell 4 3, .cell 5 4], (.seq (R0 [Oo 2 (.box 114 (Tm 0)), Oo 3 (.box 3 (Tm 1)), Oo 4 (.alloc 3), Oo 5 (.alloc 4)]) (.seq (.seq (R0 [Ld 8 114 2, Cl 9 121 #[Tm 8] #[114]]) (.block 0 (.rng (Tm 9) [10, 11] (.seq (R0 [Sg 6 10]) (R0 [Oo 7 (.alloc 42), Sr 42 (Tm 7) (Tm 11)])) (.block 1 (.seq (R1 [Fa 12 42 7 1, Ld 13 3 12, Ld 14 114 2, Mv 15 6, Ix 16 114 14 15, Ld 17 109 16, Ld 18 3 3, Cl 19 74 #[Tm 17, Tm 18] #[109, 3], Bo 20 .gtr 3 (Tm 13) (Tm 19) 3]) (.cond (Tm 20) (R0 [Mv 21 6, Sr 3 (Tm 4) (Tm 21), Sr 4 (Tm 5) (Kb true)]) .skip)))))) (.seq (.ord (.op o76_0 (.alt (.op o76_1 (.op o76_2 (.op o76_3 .done))) (.op o76_2 (.op o76_1 (.op o76_3 .done)))))) .ret)))⟩
theorem sf76 : sfOf Try.f76 = some s76 := by kernel_rfl
theorem hb76 : hasBody Try.prog 76 = true := by kernel_rfl
def s84 : SF := ⟨30, [.cell 4 130], (.seq (R0 [Oo 2 (.box 33 (Tm 0)), Oo 3 (.box 37 (Tm 1)), Oo 4 (.alloc 130)]) (.seq (R0 [Ld 8 37 3, Ld 9 33 2, Oo 10 (.build 130 #[(0, (Tm 8)), (1, (Tm 9)), (2, (Kn 1))]), Oo 5 (.alloc 130), Sr 130 (Tm 5) (Tm 10)]) (.seq (.seq (R0 [Fa 11 37 3 1, Ld 12 35 11, Lq 13 12 35, Oo 14 (.move (Kn 0))]) (.block 0 (.loop (.seq (R0 [Bo 15 .lss 3 (Tm 14) (Tm 13) 3]) (.seq (.cond (Tm 15) .skip (.exit 0)) (.seq (.block 1 (.seq (R0 [Ix 16 35 12 14, Ld 17 3 16, Sg 7 17]) (R1 [Fa 18 130 5 2, Ld 19 3 18, Fa 20 33 2 1, Ld 21 31 20, Mv 22 7, Ix 23 31 21 22, Fa 24 87 23 0, Ld 25 3 24, Bo 26 .mul 3 (Tm 19) (Tm 25) 3, Fa 27 130 5 2, Sr 3 (Tm 27) (Tm 26)]))) (R0 [Bo 28 .add 3 (Tm 14) (Kn 1) 3, Mv 14 28]))))))) (.seq (R0 [Ld 29 130 5, Sr 130 (Tm 4) (Tm 29)]) .ret))))⟩
theorem sf84 : sfOf Try.f84 = some s84 := by kernel_rfl
theorem hb84 : hasBody Try.prog 84 = true := by kernel_rfl
def s85 : SF := ⟨5, [.tmp 2], (.seq (R0 [Oo 1 (.box 42 (Tm 0)), Sk 2 (Kn 0)]) (.seq (R0 [Fa 3 42 1 0, Ld 4 3 3, Sg 2 4]) .ret))⟩
theorem sf85 : sfOf Try.f85 = some s85 := by kernel_rfl
theorem hb85 : hasBody Try.prog 85 = true := by kernel_rfl
def s86 : SF := ⟨5, [.tmp 2], (.seq (R0 [Oo 1 (.box 42 (Tm 0)), Sk 2 (Kn 0)]) (.seq (R0 [Fa 3 42 1 1, Ld 4 3 3, Sg 2 4]) .ret))⟩
theorem sf86 : sfOf Try.f86 = some s86 := by kernel_rfl
theorem hb86 : hasBody Try.prog 86 = true := by kernel_rfl
def s87 : SF := ⟨12, [.tmp 4], (.seq (R0 [Oo 2 (.box 130 (Tm 0)), Oo 3 (.box 179 (Tm 1)), Sk 4 (Kn 0)]) (.seq (R1 [Ld 5 130 2, Oo 6 (.makeFunc (.func 127) #[] #[Tm 3]), Cl 7 49 #[Tm 5, Tm 6] #[130, 138], Fa 8 130 2 2, Ld 9 3 8, Bo 10 .mul 3 (Kn 1000) (Tm 9) 3, Bo 11 .quo 3 (Tm 7) (Tm 10) 3, Sg 4 11]) .ret))⟩
theorem sf87 : sfOf Try.f87 = some s87 := by kernel_rfl
theorem hb87 : hasBody Try.prog 87 = true := by kernel_rfl
def s88 : SF := ⟨54, [.tmp 4], (.seq (R0 [Oo 2 (.box 130 (Tm 0)), Sk 4 (Kn 0)]) (.seq (.seq (R0 [Fa 9 130 2 0, Fa 10 37 9 0, Ld 11 35 10, Lq 12 11 35, Oo 13 (.move (Kn 0))]) (.block 0 (.loop (.seq (R0 [Bo 14 .lss 3 (Tm 13) (Tm 12) 3]) (.seq (.cond (Tm 14) .skip (.exit 0)) (.seq (.block 1 (.seq (R0 [Mv 15 13, Ix 16 35 11 13, Ld 17 3 16, Sg 5 15, Sg 6 17]) (.seq (R0 [Mv 18 5, Bo 19 .rem 3 (Tm 18) (Kn 2) 3, Bo 20 .eql 3 (Tm 19) (Kn 0) 3]) (.cond (Tm 20) (R0 [Mv 21 4, Mv 22 1, Fa 23 130 2 1, Fa 24 33 23 0, Ld 25 30 24, Mv 26 6, Ix 27 30 25 26, Fa 28 57 27 2, Ld 29 42 28, Oo 30 (.call { callee := .value (Tm 22), args := #[Tm 29], argTypes := #[42] }), Bo 31 .add 3 (Tm 21) (Tm 30) 3, Sg 4 31]) .skip)))) (R0 [Bo 32 .add 3 (Tm 13) (Kn 1) 3, Mv 13 32]))))))) (.seq (.seq (R0 [Fa 33 130 2 0, Fa 34 37 33 1, Ld 35 35 34, Lq 36 35 35, Oo 37 (.move (Kn 0))]) (.block 2 (.loop (.seq (R0 [Bo 38 .lss 3 (Tm 37) (Tm 36) 3]) (.seq (.cond (Tm 38) .skip (.exit 2)) (.seq (.block 3 (.seq (R0 [Ix 39 35 35 37, Ld 40 3 39, Sg 8 40]) (R0 [Mv 41 4, Mv 42 1, Fa 43 130 2 1, Fa 44 33 43 1, Ld 45 31 44, Mv 46 8, Ix 47 31 45 46, Fa 48 87 47 2, Ld 49 42 48, Oo 50 (.call { callee := .value (Tm 42), args := #[Tm 49], argTypes := #[42] }), Bo 51 .add 3 (Tm 41) (Tm 50) 3, Sg 4 51]))) (R0 [Bo 52 .add 3 (Tm 37) (Kn 1) 3, Mv 37 52]))))))) (.seq (R0 [Mv 53 4, Sg 4 53]) .ret))))⟩
theorem sf88 : sfOf Try.f88 = some s88 := by kernel_rfl
theorem hb88 : hasBody Try.prog 88 = true := by kernel_rfl
def s89 : SF := ⟨5, [.tmp 2], (.seq (R0 [Oo 1 (.box 57 (Tm 0)), Sk 2 (Kn 0)]) (.seq (R0 [Fa 3 57 1 5, Ld 4 3 3, Sg 2 4]) .ret))⟩
theorem sf89 : sfOf Try.f89 = some s89 := by kernel_rfl
theorem hb89 : hasBody Try.prog 89 = true := by kernel_rfl
def s97 : SF := ⟨9, [.tmp 4], (.seq (R0 [Sk 4 (Kb false)]) (.seq (R0 [Mv 5 0, Mv 6 1, Cl 7 133 #[Tm 5, Tm 6] #[35, 186], Bo 8 .geq 3 (Tm 7) (Kn 0) 3, Sg 4 8]) .ret))⟩
theorem sf97 : sfOf Try.f97 = some s97 := by kernel_rfl
theorem hb97 : hasBody Try.prog 97 = true := by kernel_rfl
def s98 : SF := ⟨13, [.tmp 4], (.seq (R0 [Sk 4 (Kb false)]) (.seq (R0 [Mv 5 0, Ld 6 3 1, Bo 7 .lss 3 (Tm 5) (Tm 6) 3, Mv 8 7, Gm 9 0 8 false, Gl 10 3 2 8 false, Gb 11 .gtr 3 (Tm 9) (Tm 10) 3 8 false, Pk 12 8 (Kb true) (Tm 11), Sg 4 12]) .ret))⟩
theorem sf98 : sfOf Try.f98 = some s98 := by kernel_rfl
theorem hb98 : hasBody Try.prog 98 = true := by kernel_rfl
def s100 : SF := ⟨28, [.tmp 2], (.seq (R0 [Oo 1 (.box 33 (Tm 0)), Sk 2 (Kn 0)]) (.seq (.block 0 (.seq (.seq (R0 [Fa 4 33 1 0, Ld 5 30 4, Lq 6 5 30, Bo 7 .gtr 3 (Tm 6) (Kn 8) 3, Sg 3 7]) (.cond (Tm 3) .skip (R0 [Fa 8 33 1 1, Ld 9 31 8, Lq 10 9 31, Bo 11 .gtr 3 (Tm 10) (Kn 4) 3, Sg 3 11]))) (.cond (Tm 3) (.seq (R0 [Sk 2 (Kn 5)]) .ret) (.seq (.seq (R0 [Fa 13 33 1 0, Ld 14 30 13, Lq 15 14 30, Bo 16 .eql 3 (Tm 15) (Kn 0) 3, Sg 12 16]) (.cond (Tm 12) .skip (R0 [Fa 17 33 1 1, Ld 18 31 17, Lq 19 18 31, Bo 20 .eql 3 (Tm 19) (Kn 0) 3, Sg 12 20]))) (.cond (Tm 12) (.seq (R0 [Sk 2 (Kn 2)]) .ret) (.seq (.seq (R0 [Fa 22 33 1 0, Ld 23 30 22, Cl 24 135 #[Tm 23, .func 136] #[30, 214], Sg 21 24]) (.cond (Tm 21) .skip (R0 [Fa 25 33 1 1, Ld 26 31 25, Cl 27 138 #[Tm 26, .func 139] #[31, 216], Sg 21 27]))) (.cond (Tm 21) (.seq (R0 [Sk 2 (Kn 2)]) .ret) .skip))))))) (.seq (R0 [Sk 2 (Kn 0)]) .ret)))⟩
theorem sf100 : sfOf Try.f100 = some s100 := by kernel_rfl
theorem hb100 : hasBody Try.prog 100 = true := by kernel_rfl
def s101 : SF := ⟨19, [.tmp 2], (.seq (R0 [Oo 1 (.box 37 (Tm 0)), Sk 2 (Kb false)]) (.seq (R1 [Fa 3 37 1 1, Ld 4 35 3, Lq 5 4 35, Oo 6 (.buildSlice 35 1 #[(0, (Tm 5))]), Cl 7 58 #[Kn 1, Kn 2, Tm 6] #[3, 3, 35], Mv 8 7, Gf 9 37 1 0 8 true, Gl 10 35 9 8 true, Og 11 (.call { callee := .builtin .len, args := #[Tm 10], argTypes := #[35] }) 8 true, Gf 12 37 1 1 8 true, Gl 13 35 12 8 true, Og 14 (.call { callee := .builtin .len, args := #[Tm 13], argTypes := #[35] }) 8 true, Gc 15 102 #[Tm 14] #[3] 8 true, Og 16 (.call { callee := .builtin .len, args := #[Tm 15], argTypes := #[190] }) 8 true, Gb 17 .eql 3 (Tm 11) (Tm 16) 3 8 true, Pk 18 8 (Tm 17) (Kb false), Sg 2 18]) .ret))⟩
theorem sf101 : sfOf Try.f101 = some s101 := by kernel_rfl
theorem hb101 : hasBody Try.prog 101 = true := by kernel_rfl
def s102 : SF := ⟨13, [.tmp 2], (.seq (R0 [Oo 2 (.assign (.const (.slice none 0 0)))]) (.seq (R0 [Oo 4 (.buildSlice 190 1 #[(0, (Kn 1))]), Sg 3 4]) (.seq (.seq (R0 [Mv 5 0, Oo 6 (.move (Kn 0))]) (.block 0 (.loop (.seq (R0 [Bo 7 .lss 3 (Tm 6) (Tm 5) 3]) (.seq (.cond (Tm 7) .skip (.exit 0)) (.seq (.block 1 (R0 [Mv 8 3, Oo 9 (.buildSlice 190 2 #[(0, (Kn 2)), (1, (Kn 1))]), Oo 10 (.call { callee := .builtin .append, args := #[Tm 8, Tm 9], argTypes := #[190, 190] }), Sg 3 10])) (R0 [Bo 11 .add 3 (Tm 6) (Kn 1) 3, Mv 6 11]))))))) (.seq (R0 [Mv 12 3, Sg 2 12]) .ret))))⟩
theorem sf102 : sfOf Try.f102 = some s102 := by kernel_rfl
theorem hb102 : hasBody Try.prog 102 = true := by kernel_rfl
def s103 : SF := ⟨13, [.tmp 4], (.seq (R0 [Sk 4 (Kb false)]) (.seq (R0 [Mv 5 0, Ld 6 3 1, Bo 7 .lss 3 (Tm 5) (Tm 6) 3, Mv 8 7, Gm 9 0 8 false, Gl 10 3 2 8 false, Gb 11 .gtr 3 (Tm 9) (Tm 10) 3 8 false, Pk 12 8 (Kb true) (Tm 11), Sg 4 12]) .ret))⟩
theorem sf103 : sfOf Try.f103 = some s103 := by kernel_rfl
theorem hb103 : hasBody Try.prog 103 = true := by kernel_rfl
def s104 : SF := ⟨9, [.tmp 4], (.seq (R0 [Sk 4 (Kb false)]) (.seq (R0 [Mv 5 0, Mv 6 1, Cl 7 141 #[Tm 5, Tm 6] #[158, 193], Bo 8 .geq 3 (Tm 7) (Kn 0) 3, Sg 4 8]) .ret))⟩
theorem sf104 : sfOf Try.f104 = some s104 := by kernel_rfl
theorem hb104 : hasBody Try.prog 104 = true := by kernel_rfl
def s105 : SF := ⟨7, [.tmp 2], (.seq (R0 [Oo 1 (.box 157 (Tm 0)), Sk 2 (Kb false)]) (.seq (R0 [Fa 3 157 1 1, Ld 4 42 3, Cl 5 106 #[Tm 4, Kn 0, Kn 70000000] #[42, 3, 3], Oo 6 (.unOp .not 4 (Tm 5)), Sg 2 6]) .ret))⟩
theorem sf105 : sfOf Try.f105 = some s105 := by kernel_rfl
theorem hb105 : hasBody Try.prog 105 = true := by kernel_rfl
def s106 : SF := ⟨22, [.tmp 6], (.seq (R0 [Oo 3 (.box 42 (Tm 0)), Sk 6 (Kb false)]) (.seq (R0 [Mv 7 1, Mv 8 2, Fa 9 42 3 0, Ld 10 3 9, Fa 11 42 3 1, Ld 12 3 11, Oo 13 (.buildSlice 35 2 #[(0, (Tm 10)), (1, (Tm 12))]), Cl 14 62 #[Tm 7, Tm 8, Tm 13] #[3, 3, 35], Mv 15 14, Gf 16 42 3 0 15 true, Gl 17 3 16 15 true, Gf 18 42 3 1 15 true, Gl 19 3 18 15 true, Gb 20 .leq 3 (Tm 17) (Tm 19) 3 15 true, Pk 21 15 (Tm 20) (Kb false), Sg 6 21]) .ret))⟩
theorem sf106 : sfOf Try.f106 = some s106 := by kernel_rfl
theorem hb106 : hasBody Try.prog 106 = true := by kernel_rfl
def s107 : SF := ⟨13, [.tmp 3], (.seq (R0 [Oo 2 (.box 157 (Tm 0)), Sk 3 (Kb false)]) (.seq (R0 [Fa 4 100 1 2, Ld 5 46 4, Lq 6 5 46, Bo 7 .sub 3 (Tm 6) (Kn 1) 3, Fa 8 157 2 0, Ld 9 3 8, Oo 10 (.buildSlice 35 1 #[(0, (Tm 9))]), Cl 11 62 #[Kn 0, Tm 7, Tm 10] #[3, 3, 35], Oo 12 (.unOp .not 4 (Tm 11)), Sg 3 12]) .ret))⟩
theorem sf107 : sfOf Try.f107 = some s107 := by kernel_rfl
theorem hb107 : hasBody Try.prog 107 = true := by kernel_rfl
def s108 : SF := ⟨26, [.tmp 2], (.seq (R0 [Oo 2 (.assign (.const (.slice none 0 0)))]) (.seq (R0 [Mv 5 0, Oo 6 (.makeSlice 195 (Tm 5) (Tm 5)), Sg 3 6]) (.seq (.seq (R0 [Mv 7 3, Lq 8 7 195, Oo 9 (.move (Kn 0))]) (.block 0 (.loop (.seq (R0 [Bo 10 .lss 3 (Tm 9) (Tm 8) 3]) (.seq (.cond (Tm 10) .skip (.exit 0)) (.seq (.block 1 (.seq (R0 [Mv 11 9, Sg 4 11]) (.seq (R0 [Mv 12 3, Mv 13 4, Oo 14 (.buildSlice 35 1 #[(0, (Kn 1099511627776))]), Mv 15 0, Cl 16 142 #[Tm 14, Tm 15] #[35, 3], Ix 17 195 12 13, Sr 35 (Tm 17) (Tm 16)]) (R0 [Mv 18 3, Mv 19 4, Ix 20 195 18 19, Ld 21 35 20, Mv 22 4, Ix 23 35 21 22, Sr 3 (Tm 23) (Kn 0)])))) (R0 [Bo 24 .add 3 (Tm 9) (Kn 1) 3, Mv 9 24]))))))) (.seq (R0 [Mv 25 3, Sg 2 25]) .ret))))⟩
theorem sf108 : sfOf Try.f108 = some s108 := by kernel_rfl
theorem hb108 : hasBody Try.prog 108 = true := by kernel_rfl
def s109 : SF := ⟨41, [], (.seq (R0 [Oo 7 (.box 42 (Tm 3))]) (.seq (R1 [Mv 8 0, Mv 9 1, Ix 10 195 8 9, Ld 11 35 10, Mv 12 2, Mv 13 0, Mv 14 1, Ix 15 195 13 14, Ld 16 35 15, Mv 17 2, Ix 18 35 16 17, Ld 19 3 18, Fa 20 42 7 1, Ld 21 3 20, Oo 22 (.call { callee := .builtin .min, args := #[Tm 19, Tm 21], argTypes := #[3, 3] }), Ix 23 35 11 12, Sr 3 (Tm 23) (Tm 22)]) (R1 [Mv 24 0, Mv 25 2, Ix 26 195 24 25, Ld 27 35 26, Mv 28 1, Mv 29 0, Mv 30 2, Ix 31 195 29 30, Ld 32 35 31, Mv 33 1, Ix 34 35 32 33, Ld 35 3 34, Fa 36 42 7 0, Ld 37 3 36, Oo 38 (.unOp .neg 3 (Tm 37)), Oo 39 (.call { callee := .builtin .min, args := #[Tm 35, Tm 38], argTypes := #[3, 3] }), Ix 40 35 27 28, Sr 3 (Tm 40) (Tm 39)])))⟩
theorem sf109 : sfOf Try.f109 = some s109 := by kernel_rfl
theorem hb109 : hasBody Try.prog 109 = true := by kernel_rfl
def s110 : SF := ⟨32, [.cell 4 42], (.seq (R0 [Oo 2 (.box 161 (Tm 0)), Oo 3 (.box 42 (Tm 1)), Oo 4 (.alloc 42)]) (.seq (R1 [Fa 5 42 3 0, Ld 6 3 5, Fa 7 161 2 0, Fa 8 100 7 0, Fa 9 62 8 0, Ld 10 3 9, Bo 11 .mul 3 (Tm 6) (Tm 10) 3, Fa 12 161 2 0, Fa 13 100 12 0, Fa 14 62 13 1, Ld 15 3 14, Cl 16 63 #[Tm 11, Tm 15] #[3, 3], Fa 17 42 3 1, Ld 18 3 17, Bo 19 .add 3 (Tm 18) (Kn 1) 3, Fa 20 161 2 0, Fa 21 100 20 0, Fa 22 62 21 0, Ld 23 3 22, Bo 24 .mul 3 (Tm 19) (Tm 23) 3, Fa 25 161 2 0, Fa 26 100 25 0, Fa 27 62 26 1, Ld 28 3 27, Cl 29 63 #[Tm 24, Tm 28] #[3, 3], Bo 30 .sub 3 (Tm 29) (Kn 1) 3, Oo 31 (.build 42 #[(0, (Tm 16)), (1, (Tm 30))]), Sr 42 (Tm 4) (Tm 31)]) .ret))⟩
theorem sf110 : sfOf Try.f110 = some s110 := by kernel_rfl
theorem hb110 : hasBody Try.prog 110 = true := by kernel_rfl
def s111 : SF := ⟨68, [.tmp 2], (.seq (R0 [Sk 2 (Kb false)]) (.seq (.seq (R0 [Mv 7 0, Lq 8 7 195, Oo 9 (.move (Kn 0))]) (.block 0 (.loop (.seq (R0 [Bo 10 .lss 3 (Tm 9) (Tm 8) 3]) (.seq (.cond (Tm 10) .skip (.exit 0)) (.seq (.block 1 (.seq (R0 [Mv 11 9, Sg 3 11]) (.seq (R0 [Mv 12 0, Lq 13 12 195, Oo 14 (.move (Kn 0))]) (.block 2 (.loop (.seq (R0 [Bo 15 .lss 3 (Tm 14) (Tm 13) 3]) (.seq (.cond (Tm 15) .skip (.exit 2)) (.seq (.block 3 (.seq (R0 [Mv 16 14, Sg 4 16]) (.seq (R0 [Mv 17 0, Lq 18 17 195, Oo 19 (.move (Kn 0))]) (.block 4 (.loop (.seq (R0 [Bo 20 .lss 3 (Tm 19) (Tm 18) 3]) (.seq (.cond (Tm 20) .skip (.exit 4)) (.seq (.block 5 (.seq (R0 [Mv 21 19, Sg 5 21]) (R1 [Mv 22 0, Mv 23 4, Ix 24 195 22 23, Ld 25 35 24, Mv 26 5, Mv 27 0, Mv 28 4, Ix 29 195 27 28, Ld 30 35 29, Mv 31 5, Ix 32 35 30 31, Ld 33 3 32, Mv 34 0, Mv 35 4, Ix 36 195 34 35, Ld 37 35 36, Mv 38 3, Ix 39 35 37 38, Ld 40 3 39, Mv 41 0, Mv 42 3, Ix 43 195 41 42, Ld 44 35 43, Mv 45 5, Ix 46 35 44 45, Ld 47 3 46, Bo 48 .add 3 (Tm 40) (Tm 47) 3, Oo 49 (.call { callee := .builtin .min, args := #[Tm 33, Tm 48], argTypes := #[3, 3] }), Ix 50 35 25 26, Sr 3 (Tm 50) (Tm 49)]))) (R0 [Bo 51 .add 3 (Tm 19) (Kn 1) 3, Mv 19 51]))))))))) (R0 [Bo 52 .add 3 (Tm 14) (Kn 1) 3, Mv 14 52]))))))))) (R0 [Bo 53 .add 3 (Tm 9) (Kn 1) 3, Mv 9 53]))))))) (.seq (.seq (R0 [Mv 54 0, Lq 55 54 195, Oo 56 (.move (Kn 0))]) (.block 6 (.loop (.seq (R0 [Bo 57 .lss 3 (Tm 56) (Tm 55) 3]) (.seq (.cond (Tm 57) .skip (.exit 6)) (.seq (.block 7 (.seq (R0 [Mv 58 56, Sg 6 58]) (.seq (R0 [Mv 59 0, Mv 60 6, Ix 61 195 59 60, Ld 62 35 61, Mv 63 6, Ix 64 35 62 63, Ld 65 3 64, Bo 66 .lss 3 (Tm 65) (Kn 0) 3]) (.cond (Tm 66) (.seq (R0 [Sk 2 (Kb false)]) .ret) .skip)))) (R0 [Bo 67 .add 3 (Tm 56) (Kn 1) 3, Mv 56 67]))))))) (.seq (R0 [Sk 2 (Kb true)]) .ret))))⟩
theorem sf111 : sfOf Try.f111 = some s111 := by kernel_rfl
theorem hb111 : hasBody Try.prog 111 = true := by kernel_rfl
def s112 : SF := ⟨9, [.tmp 4], (.seq (R0 [Sk 4 (Kb false)]) (.seq (R0 [Mv 5 0, Mv 6 1, Cl 7 143 #[Tm 5, Tm 6] #[46, 181], Bo 8 .geq 3 (Tm 7) (Kn 0) 3, Sg 4 8]) .ret))⟩
theorem sf112 : sfOf Try.f112 = some s112 := by kernel_rfl
theorem hb112 : hasBody Try.prog 112 = true := by kernel_rfl
def s113 : SF := ⟨10, [.tmp 3], (.seq (R0 [Oo 2 (.box 42 (Tm 0)), Sk 3 (Kb false)]) (.seq (R0 [Ld 4 42 2, Fa 5 100 1 1, Ld 6 3 5, Bo 7 .add 3 (Tm 6) (Kn 1) 3, Cl 8 106 #[Tm 4, Tm 7, Kn 10000000] #[42, 3, 3], Oo 9 (.unOp .not 4 (Tm 8)), Sg 3 9]) .ret))⟩
theorem sf113 : sfOf Try.f113 = some s113 := by kernel_rfl
theorem hb113 : hasBody Try.prog 113 = true := by kernel_rfl
def s114 : SF := ⟨16, [.tmp 4], (.seq (R0 [Oo 2 (.box 161 (Tm 0)), Sk 4 (Kn 0)]) (.seq (R0 [Mv 5 1, Fa 6 161 2 0, Fa 7 100 6 0, Fa 8 62 7 1, Ld 9 3 8, Bo 10 .mul 3 (Tm 5) (Tm 9) 3, Fa 11 161 2 0, Fa 12 100 11 0, Fa 13 62 12 0, Ld 14 3 13, Bo 15 .quo 3 (Tm 10) (Tm 14) 3, Sg 4 15]) .ret))⟩
theorem sf114 : sfOf Try.f114 = some s114 := by kernel_rfl
theorem hb114 : hasBody Try.prog 114 = true := by kernel_rfl
def s115 : SF := ⟨41, [], (.seq (R0 [Oo 2 (.box 161 (Tm 0))]) (.seq (R0 [Oo 4 (.alloc 42)]) (.seq (R0 [Fa 7 161 2 0, Fa 8 100 7 2, Ld 9 46 8, Lq 10 9 46, Oo 11 (.move (Kn 0))]) (.block 0 (.loop (.seq (R0 [Bo 12 .lss 3 (Tm 11) (Tm 10) 3]) (.seq (.cond (Tm 12) .skip (.exit 0)) (.seq (.block 1 (.seq (R0 [Mv 13 11, Ix 14 46 9 11, Ld 15 42 14, Oo 6 (.alloc 42), Sg 5 13, Sr 42 (Tm 6) (Tm 15)]) (.seq (R0 [Fa 16 42 4 0, Ld 17 3 16, Fa 18 42 6 0, Ld 19 3 18, Bo 20 .add 3 (Tm 17) (Tm 19) 3, Fa 21 161 2 0, Fa 22 100 21 1, Ld 23 3 22, Bo 24 .sub 3 (Tm 20) (Tm 23) 3, Fa 25 42 4 1, Ld 26 3 25, Fa 27 42 6 1, Ld 28 3 27, Bo 29 .add 3 (Tm 26) (Tm 28) 3, Fa 30 161 2 0, Fa 31 100 30 1, Ld 32 3 31, Bo 33 .sub 3 (Tm 29) (Tm 32) 3, Oo 34 (.build 42 #[(0, (Tm 24)), (1, (Tm 33))]), Sr 42 (Tm 4) (Tm 34)]) (.seq (R0 [Mv 35 1, Mv 36 5, Ld 37 42 4, Oo 38 (.call { callee := .value (Tm 35), args := #[Tm 36, Tm 37], argTypes := #[3, 42] }), Oo 39 (.unOp .not 4 (Tm 38))]) (.cond (Tm 39) .ret .skip))))) (R0 [Bo 40 .add 3 (Tm 11) (Kn 1) 3, Mv 11 40])))))))))⟩
theorem sf115 : sfOf Try.f115 = some s115 := by kernel_rfl
theorem hb115 : hasBody Try.prog 115 = true := by kernel_rfl
def s116 : SF := ⟨13, [.tmp 4], (.seq (R0 [Sk 4 (Kb false)]) (.seq (R0 [Mv 5 0, Ld 6 3 1, Bo 7 .lss 3 (Tm 5) (Tm 6) 3, Mv 8 7, Gm 9 0 8 false, Gl 10 3 2 8 false, Gb 11 .gtr 3 (Tm 9) (Tm 10) 3 8 false, Pk 12 8 (Kb true) (Tm 11), Sg 4 12]) .ret))⟩
theorem sf116 : sfOf Try.f116 = some s116 := by kernel_rfl
theorem hb116 : hasBody Try.prog 116 = true := by kernel_rfl
def s117 : SF := ⟨26, [.tmp 4], (.seq (R0 [Sk 4 (Kn 0)]) (.seq (R0 [Mv 8 0, Sk 5 (Kn 0), Sg 6 8]) (.seq (.block 0 (.loop (.seq (.seq (R0 [Mv 9 5, Mv 10 6, Bo 11 .lss 3 (Tm 9) (Tm 10) 3]) (.cond (Tm 11) .skip (.exit 0))) (.block 1 (.seq (R0 [Mv 12 5, Mv 13 6, Bo 14 .add 3 (Tm 12) (Tm 13) 3, Oo 15 (.convert 3 220 (Tm 14)), Bo 16 .shr 220 (Tm 15) (.const (.int .u64 1)) 220, Oo 17 (.convert 220 3 (Tm 16)), Sg 7 17]) (.seq (R0 [Mv 18 1, Mv 19 7, Oo 20 (.call { callee := .value (Tm 18), args := #[Tm 19], argTypes := #[3] }), Oo 21 (.unOp .not 4 (Tm 20))]) (.cond (Tm 21) (R0 [Mv 22 7, Bo 23 .add 3 (Tm 22) (Kn 1) 3, Sg 5 23]) (R0 [Mv 24 7, Sg 6 24])))))))) (.seq (R0 [Mv 25 5, Sg 4 25]) .ret))))⟩
theorem sf117 : sfOf Try.f117 = some s117 := by kernel_rfl
theorem hb117 : hasBody Try.prog 117 = true := by kernel_rfl
def s118 : SF := ⟨11, [.tmp 3], (.seq (R0 [Sk 3 (Kb false)]) (.seq (R0 [Mv 4 0, Bo 5 .add 3 (Tm 4) (Kn 1) 3, Mv 6 0, Bo 7 .add 3 (Tm 6) (Kn 1) 3, Bo 8 .mul 3 (Tm 5) (Tm 7) 3, Ld 9 3 1, Bo 10 .gtr 3 (Tm 8) (Tm 9) 3, Sg 3 10]) .ret))⟩
theorem sf118 : sfOf Try.f118 = some s118 := by kernel_rfl
theorem hb118 : hasBody Try.prog 118 = true := by kernel_rfl
def s119 : SF := ⟨13, [.tmp 2], (.seq (R0 [Oo 1 (.box 109 (Tm 0)), Sk 2 (Kb false)]) (.seq (R0 [Fa 3 109 1 0, Ld 4 42 3, Cl 5 68 #[Tm 4, Kn 0, Kn 20000000] #[42, 3, 3], Oo 6 (.unOp .not 4 (Tm 5)), Mv 7 6, Gf 8 109 1 1 7 false, Gl 9 42 8 7 false, Gc 10 68 #[Tm 9, Kn 0, Kn 100000] #[42, 3, 3] 7 false, Og 11 (.unOp .not 4 (Tm 10)) 7 false, Pk 12 7 (Kb true) (Tm 11), Sg 2 12]) .ret))⟩
theorem sf119 : sfOf Try.f119 = some s119 := by kernel_rfl
theorem hb119 : hasBody Try.prog 119 = true := by kernel_rfl
def s120 : SF := ⟨9, [.tmp 4], (.seq (R0 [Sk 4 (Kb false)]) (.seq (R0 [Mv 5 0, Mv 6 1, Cl 7 144 #[Tm 5, Tm 6] #[114, 201], Bo 8 .geq 3 (Tm 7) (Kn 0) 3, Sg 4 8]) .ret))⟩
theorem sf120 : sfOf Try.f120 = some s120 := by kernel_rfl
theorem hb120 : hasBody Try.prog 120 = true := by kernel_rfl
def s121 : SF := ⟨4, [.tmp 2], (.seq (R0 [Oo 1 (.box 114 (Tm 0)), Oo 2 (.assign (.const .nilFunc))]) (.seq (R0 [Oo 3 (.makeFunc (.func 145) #[] #[Tm 1]), Sg 2 3]) .ret))⟩
theorem sf121 : sfOf Try.f121 = some s121 := by kernel_rfl
theorem hb121 : hasBody Try.prog 121 = true := by kernel_rfl
def s127 : SF := ⟨12, [.tmp 3], (.seq (R0 [Oo 2 (.box 57 (Tm 0)), Sk 3 (Kn 0)]) (.seq (R1 [Fa 4 57 2 1, Ld 5 3 4, Ld 6 179 1, Fa 7 57 2 3, Ld 8 42 7, Oo 9 (.call { callee := .value (Tm 6), args := #[Tm 8], argTypes := #[42] }), Bo 10 .add 3 (Kn 1000) (Tm 9) 3, Bo 11 .mul 3 (Tm 5) (Tm 10) 3, Sg 3 11]) .ret))⟩
theorem sf127 : sfOf Try.f127 = some s127 := by kernel_rfl
theorem hb127 : hasBody Try.prog 127 = true := by kernel_rfl
def s133 : SF := ⟨19, [.tmp 4], (.seq (R0 [Sk 4 (Kn 0)]) (.seq (.seq (R0 [Mv 6 0, Lq 7 6 35, Oo 8 (.move (Kn 0))]) (.block 0 (.loop (.seq (R0 [Bo 9 .lss 3 (Tm 8) (Tm 7) 3]) (.seq (.cond (Tm 9) .skip (.exit 0)) (.seq (.block 1 (.seq (R0 [Mv 10 8, Sg 5 10]) (.seq (R0 [Mv 11 1, Mv 12 0, Mv 13 5, Ix 14 35 12 13, Ld 15 3 14, Oo 16 (.call { callee := .value (Tm 11), args := #[Tm 15], argTypes := #[3] })]) (.cond (Tm 16) (.seq (R0 [Mv 17 5, Sg 4 17]) .ret) .skip)))) (R0 [Bo 18 .add 3 (Tm 8) (Kn 1) 3, Mv 8 18]))))))) (.seq (R0 [Sk 4 (Kn (-1))]) .ret)))⟩
theorem sf133 : sfOf Try.f133 = some s133 := by kernel_rfl
theorem hb133 : hasBody Try.prog 133 = true := by kernel_rfl
def s135 : SF := ⟨9, [.tmp 4], (.seq (R0 [Sk 4 (Kb false)]) (.seq (R0 [Mv 5 0, Mv 6 1, Cl 7 150 #[Tm 5, Tm 6] #[30, 214], Bo 8 .geq 3 (Tm 7) (Kn 0) 3, Sg 4 8]) .ret))⟩
theorem sf135 : sfOf Try.f135 = some s135 := by kernel_rfl
theorem hb135 : hasBody Try.prog 135 = true := by kernel_rfl
end Go.Dw.Seat
end
section
namespace Go.Dw.Seat
open Go Go.Dw Go.Proofs
def s136 : SF := ⟨6, [.tmp 2], (.seq (R0 [Oo 1 (.box 57 (Tm 0)), Sk 2 (Kb false)]) (.seq (R0 [Ld 3 57 1, Cl 4 137 #[Tm 3] #[57], Oo 5 (.unOp .not 4 (Tm 4)), Sg 2 5]) .ret))⟩
theorem sf136 : sfOf Try.f136 = some s136 := by kernel_rfl
theorem hb136 : hasBody Try.prog 136 = true := by kernel_rfl
def s137 : SF := ⟨39, [.tmp 2], (.seq (R0 [Oo 1 (.box 57 (Tm 0)), Sk 2 (Kb false)]) (.seq (R0 [Fa 3 57 1 0, Ld 4 55 3, Bo 5 .eql 55 (Tm 4) (Kn 1) 55, Mv 6 5, Gf 7 57 1 0 6 false, Gl 8 55 7 6 false, Gb 9 .eql 55 (Tm 8) (Kn 2) 55 6 false, Pk 10 6 (Kb true) (Tm 9), Mv 11 10, Gf 12 57 1 1 11 true, Gl 13 3 12 11 true, Og 14 (.buildSlice 35 1 #[(0, (Tm 13))]) 11 true, Gc 15 58 #[Kn 1, Kn 1000, Tm 14] #[3, 3, 35] 11 true, Pk 16 11 (Tm 15) (Kb false), Mv 17 16, Gf 18 57 1 2 17 true, Gl 19 42 18 17 true, Gc 20 151 #[Tm 19, Kn 1, Kn 1000] #[42, 3, 3] 17 true, Pk 21 17 (Tm 20) (Kb false), Mv 22 21, Gf 23 57 1 3 22 true, Gl 24 42 23 22 true, Gc 25 151 #[Tm 24, Kn 0, Kn 200] #[42, 3, 3] 22 true, Pk 26 22 (Tm 25) (Kb false), Mv 27 26, Gf 28 57 1 4 27 true, Gl 29 3 28 27 true, Og 30 (.buildSlice 35 1 #[(0, (Tm 29))]) 27 true, Gc 31 58 #[Kn 0, Kn 1000000, Tm 30] #[3, 3, 35] 27 true, Pk 32 27 (Tm 31) (Kb false), Mv 33 32, Gf 34 57 1 5 33 true, Gl 35 3 34 33 true, Og 36 (.buildSlice 35 1 #[(0, (Tm 35))]) 33 true, Gc 37 58 #[Kn 0, Kn 10000, Tm 36] #[3, 3, 35] 33 true, Pk 38 33 (Tm 37) (Kb false), Sg 2 38]) .ret))⟩
theorem sf137 : sfOf Try.f137 = some s137 := by kernel_rfl
theorem hb137 : hasBody Try.prog 137 = true := by kernel_rfl
def s138 : SF := ⟨9, [.tmp 4], (.seq (R0 [Sk 4 (Kb false)]) (.seq (R0 [Mv 5 0, Mv 6 1, Cl 7 152 #[Tm 5, Tm 6] #[31, 216], Bo 8 .geq 3 (Tm 7) (Kn 0) 3, Sg 4 8]) .ret))⟩
theorem sf138 : sfOf Try.f138 = some s138 := by kernel_rfl
theorem hb138 : hasBody Try.prog 138 = true := by kernel_rfl
def s139 : SF := ⟨6, [.tmp 2], (.seq (R0 [Oo 1 (.box 87 (Tm 0)), Sk 2 (Kb false)]) (.seq (R0 [Ld 3 87 1, Cl 4 140 #[Tm 3] #[87], Oo 5 (.unOp .not 4 (Tm 4)), Sg 2 5]) .ret))⟩
theorem sf139 : sfOf Try.f139 = some s139 := by kernel_rfl
theorem hb139 : hasBody Try.prog 139 = true := by kernel_rfl
def s140 : SF := ⟨23, [.tmp 2], (.seq (R0 [Oo 1 (.box 87 (Tm 0)), Sk 2 (Kb false)]) (.seq (R0 [Fa 3 87 1 0, Ld 4 3 3, Oo 5 (.buildSlice 35 1 #[(0, (Tm 4))]), Cl 6 58 #[Kn 1000, Kn 10000, Tm 5] #[3, 3, 35], Mv 7 6, Gf 8 87 1 0 7 true, Gl 9 3 8 7 true, Gf 10 87 1 0 7 true, Gl 11 3 10 7 true, Gb 12 .mul 3 (Kn 2) (Tm 11) 3 7 true, Gf 13 87 1 1 7 true, Gl 14 3 13 7 true, Og 15 (.buildSlice 35 1 #[(0, (Tm 14))]) 7 true, Gc 16 58 #[Tm 9, Tm 12, Tm 15] #[3, 3, 35] 7 true, Pk 17 7 (Tm 16) (Kb false), Mv 18 17, Gf 19 87 1 2 18 true, Gl 20 42 19 18 true, Gc 21 151 #[Tm 20, Kn 1, Kn 10000] #[42, 3, 3] 18 true, Pk 22 18 (Tm 21) (Kb false), Sg 2 22]) .ret))⟩
theorem sf140 : sfOf Try.f140 = some s140 := by kernel_rfl
theorem hb140 : hasBody Try.prog 140 = true := by kernel_rfl
def s141 : SF := ⟨19, [.tmp 4], (.seq (R0 [Sk 4 (Kn 0)]) (.seq (.seq (R0 [Mv 6 0, Lq 7 6 158, Oo 8 (.move (Kn 0))]) (.block 0 (.loop (.seq (R0 [Bo 9 .lss 3 (Tm 8) (Tm 7) 3]) (.seq (.cond (Tm 9) .skip (.exit 0)) (.seq (.block 1 (.seq (R0 [Mv 10 8, Sg 5 10]) (.seq (R0 [Mv 11 1, Mv 12 0, Mv 13 5, Ix 14 158 12 13, Ld 15 157 14, Oo 16 (.call { callee := .value (Tm 11), args := #[Tm 15], argTypes := #[157] })]) (.cond (Tm 16) (.seq (R0 [Mv 17 5, Sg 4 17]) .ret) .skip)))) (R0 [Bo 18 .add 3 (Tm 8) (Kn 1) 3, Mv 8 18]))))))) (.seq (R0 [Sk 4 (Kn (-1))]) .ret)))⟩
theorem sf141 : sfOf Try.f141 = some s141 := by kernel_rfl
theorem hb141 : hasBody Try.prog 141 = true := by kernel_rfl
def o142_0 : SO := (Mv 39 7)
def o142_1 : SO := (Mv 40 8)
def o142_2 : SO := (Oo 41 (.slice 35 (Tm 39) (some (Tm 40)) none none))
def o142_3 : SO := (Mv 42 7)
def o142_4 : SO := (Mv 43 8)
def o142_5 : SO := (Oo 44 (.slice 35 (Tm 42) none (some (Tm 43)) none))
def o142_6 : SO := (Mv 38 8)
def o142_7 : SO := (Oo 45 (.call { callee := .builtin .copy, args := #[Tm 41, Tm 44], argTypes := #[35, 35] }))
def o142_8 : SO := (Bo 46 .add 3 (Tm 38) (Tm 45) 3)
def o142_9 : SO := (Sg 8 46)
def s142 : SF := ⟨48, [.tmp 4], (.seq (R0 [Oo 4 (.assign (.const (.slice none 0 0)))]) (.seq (.seq (R0 [Mv 9 1, Bo 10 .lss 3 (Tm 9) (Kn 0) 3]) (.cond (Tm 10) (R0 [⟨some 11, .makeInterface 9 (.const (.string ⟨#[99, 97, 110, 110, 111, 116, 32, 98, 101, 32, 110, 101, 103, 97, 116, 105, 118, 101]⟩)), none⟩, ⟨none, .panic (Tm 11), none⟩]) .skip)) (.seq (R0 [Mv 13 0, Lq 14 13 35, Oo 15 (.convert 3 220 (Tm 14)), Mv 16 1, Oo 17 (.convert 3 220 (Tm 16)), Cl 18 153 #[Tm 15, Tm 17] #[220, 220], Mv 12 18, Xt 19 12 0, Xt 20 12 1, Sg 5 19, Sg 6 20]) (.seq (.seq (R0 [Mv 21 5, Bo 22 .gtr 220 (Tm 21) (.const (.int .u64 0)) 220, Mv 23 22, Gm 24 6 23 false, Gb 25 .gtr 220 (Tm 24) (.const (.int .u64 9223372036854775807)) 220 23 false, Pk 26 23 (Kb true) (Tm 25)]) (.cond (Tm 26) (R0 [⟨some 27, .makeInterface 9 (.const (.string ⟨#[116, 104, 101, 32, 114, 101, 115, 117, 108, 116, 32, 111, 102, 32, 40, 108, 101, 110, 40, 120, 41, 32, 42, 32, 99, 111, 117, 110, 116, 41, 32, 111, 118, 101, 114, 102, 108, 111, 119, 115]⟩)), none⟩, ⟨none, .panic (Tm 27), none⟩]) .skip)) (.seq (R0 [Mv 28 6, Oo 29 (.convert 220 3 (Tm 28)), Oo 30 (.makeSlice 35 (Tm 29) (Tm 29)), Sg 7 30]) (.seq (R0 [Mv 31 7, Mv 32 0, Oo 33 (.call { callee := .builtin .copy, args := #[Tm 31, Tm 32], argTypes := #[35, 35] }), Sg 8 33]) (.seq (.block 0 (.loop (.seq (.seq (R0 [Mv 34 8, Mv 35 7, Lq 36 35 35, Bo 37 .lss 3 (Tm 34) (Tm 36) 3]) (.cond (Tm 37) .skip (.exit 0))) (.block 1 (.ord (.op o142_0 (.op o142_1 (.op o142_2 (.op o142_3 (.op o142_4 (.op o142_5 (.alt (.op o142_6 (.op o142_7 (.op o142_8 (.op o142_9 .done)))) (.op o142_7 (.op o142_6 (.op o142_8 (.op o142_9 .done)))))))))))))))) (.seq (R0 [Mv 47 7, Sg 4 47]) .ret))))))))⟩
theorem sf142 : sfOf Try.f142 = some s142 := by kernel_rfl
theorem hb142 : hasBody Try.prog 142 = true := by kernel_rfl
def s143 : SF := ⟨19, [.tmp 4], (.seq (R0 [Sk 4 (Kn 0)]) (.seq (.seq (R0 [Mv 6 0, Lq 7 6 46, Oo 8 (.move (Kn 0))]) (.block 0 (.loop (.seq (R0 [Bo 9 .lss 3 (Tm 8) (Tm 7) 3]) (.seq (.cond (Tm 9) .skip (.exit 0)) (.seq (.block 1 (.seq (R0 [Mv 10 8, Sg 5 10]) (.seq (R0 [Mv 11 1, Mv 12 0, Mv 13 5, Ix 14 46 12 13, Ld 15 42 14, Oo 16 (.call { callee := .value (Tm 11), args := #[Tm 15], argTypes := #[42] })]) (.cond (Tm 16) (.seq (R0 [Mv 17 5, Sg 4 17]) .ret) .skip)))) (R0 [Bo 18 .add 3 (Tm 8) (Kn 1) 3, Mv 8 18]))))))) (.seq (R0 [Sk 4 (Kn (-1))]) .ret)))⟩
theorem sf143 : sfOf Try.f143 = some s143 := by kernel_rfl
theorem hb143 : hasBody Try.prog 143 = true := by kernel_rfl
def s144 : SF := ⟨19, [.tmp 4], (.seq (R0 [Sk 4 (Kn 0)]) (.seq (.seq (R0 [Mv 6 0, Lq 7 6 114, Oo 8 (.move (Kn 0))]) (.block 0 (.loop (.seq (R0 [Bo 9 .lss 3 (Tm 8) (Tm 7) 3]) (.seq (.cond (Tm 9) .skip (.exit 0)) (.seq (.block 1 (.seq (R0 [Mv 10 8, Sg 5 10]) (.seq (R0 [Mv 11 1, Mv 12 0, Mv 13 5, Ix 14 114 12 13, Ld 15 109 14, Oo 16 (.call { callee := .value (Tm 11), args := #[Tm 15], argTypes := #[109] })]) (.cond (Tm 16) (.seq (R0 [Mv 17 5, Sg 4 17]) .ret) .skip)))) (R0 [Bo 18 .add 3 (Tm 8) (Kn 1) 3, Mv 8 18]))))))) (.seq (R0 [Sk 4 (Kn (-1))]) .ret)))⟩
theorem sf144 : sfOf Try.f144 = some s144 := by kernel_rfl
theorem hb144 : hasBody Try.prog 144 = true := by kernel_rfl
def s145 : SF := ⟨28, [], (.seq (R0 [Oo 2 (.box 52 (Tm 0))]) (.seq (R0 [Oo 3 (.alloc 42)]) (.seq (R0 [Ld 6 114 1, Cl 7 146 #[Tm 6] #[114]]) (.block 0 (.rng (Tm 7) [8, 9] (.seq (R0 [Sg 4 8]) (R0 [Oo 5 (.alloc 109), Sr 109 (Tm 5) (Tm 9)])) (.block 1 (.seq (.seq (R0 [Ld 10 52 2, Mv 11 4, Ld 12 42 3, Oo 13 (.call { callee := .value (Tm 10), args := #[Tm 11, Tm 12], argTypes := #[3, 42] }), Oo 14 (.unOp .not 4 (Tm 13))]) (.cond (Tm 14) .ret .skip)) (R0 [Fa 15 42 3 0, Ld 16 3 15, Fa 17 109 5 1, Fa 18 42 17 0, Ld 19 3 18, Bo 20 .add 3 (Tm 16) (Tm 19) 3, Fa 21 42 3 1, Ld 22 3 21, Fa 23 109 5 1, Fa 24 42 23 1, Ld 25 3 24, Bo 26 .add 3 (Tm 22) (Tm 25) 3, Oo 27 (.build 42 #[(0, (Tm 20)), (1, (Tm 26))]), Sr 42 (Tm 3) (Tm 27)]))))))))⟩
theorem sf145 : sfOf Try.f145 = some s145 := by kernel_rfl
theorem hb145 : hasBody Try.prog 145 = true := by kernel_rfl
def s146 : SF := ⟨4, [.tmp 2], (.seq (R0 [Oo 1 (.box 114 (Tm 0)), Oo 2 (.assign (.const .nilFunc))]) (.seq (R0 [Oo 3 (.makeFunc (.func 154) #[] #[Tm 1]), Sg 2 3]) .ret))⟩
theorem sf146 : sfOf Try.f146 = some s146 := by kernel_rfl
theorem hb146 : hasBody Try.prog 146 = true := by kernel_rfl
def s150 : SF := ⟨19, [.tmp 4], (.seq (R0 [Sk 4 (Kn 0)]) (.seq (.seq (R0 [Mv 6 0, Lq 7 6 30, Oo 8 (.move (Kn 0))]) (.block 0 (.loop (.seq (R0 [Bo 9 .lss 3 (Tm 8) (Tm 7) 3]) (.seq (.cond (Tm 9) .skip (.exit 0)) (.seq (.block 1 (.seq (R0 [Mv 10 8, Sg 5 10]) (.seq (R0 [Mv 11 1, Mv 12 0, Mv 13 5, Ix 14 30 12 13, Ld 15 57 14, Oo 16 (.call { callee := .value (Tm 11), args := #[Tm 15], argTypes := #[57] })]) (.cond (Tm 16) (.seq (R0 [Mv 17 5, Sg 4 17]) .ret) .skip)))) (R0 [Bo 18 .add 3 (Tm 8) (Kn 1) 3, Mv 8 18]))))))) (.seq (R0 [Sk 4 (Kn (-1))]) .ret)))⟩
theorem sf150 : sfOf Try.f150 = some s150 := by kernel_rfl
theorem hb150 : hasBody Try.prog 150 = true := by kernel_rfl
def s151 : SF := ⟨22, [.tmp 6], (.seq (R0 [Oo 3 (.box 42 (Tm 0)), Sk 6 (Kb false)]) (.seq (R0 [Mv 7 1, Mv 8 2, Fa 9 42 3 0, Ld 10 3 9, Fa 11 42 3 1, Ld 12 3 11, Oo 13 (.buildSlice 35 2 #[(0, (Tm 10)), (1, (Tm 12))]), Cl 14 58 #[Tm 7, Tm 8, Tm 13] #[3, 3, 35], Mv 15 14, Gf 16 42 3 0 15 true, Gl 17 3 16 15 true, Gf 18 42 3 1 15 true, Gl 19 3 18 15 true, Gb 20 .leq 3 (Tm 17) (Tm 19) 3 15 true, Pk 21 15 (Tm 20) (Kb false), Sg 6 21]) .ret))⟩
theorem sf151 : sfOf Try.f151 = some s151 := by kernel_rfl
theorem hb151 : hasBody Try.prog 151 = true := by kernel_rfl
def s152 : SF := ⟨19, [.tmp 4], (.seq (R0 [Sk 4 (Kn 0)]) (.seq (.seq (R0 [Mv 6 0, Lq 7 6 31, Oo 8 (.move (Kn 0))]) (.block 0 (.loop (.seq (R0 [Bo 9 .lss 3 (Tm 8) (Tm 7) 3]) (.seq (.cond (Tm 9) .skip (.exit 0)) (.seq (.block 1 (.seq (R0 [Mv 10 8, Sg 5 10]) (.seq (R0 [Mv 11 1, Mv 12 0, Mv 13 5, Ix 14 31 12 13, Ld 15 87 14, Oo 16 (.call { callee := .value (Tm 11), args := #[Tm 15], argTypes := #[87] })]) (.cond (Tm 16) (.seq (R0 [Mv 17 5, Sg 4 17]) .ret) .skip)))) (R0 [Bo 18 .add 3 (Tm 8) (Kn 1) 3, Mv 8 18]))))))) (.seq (R0 [Sk 4 (Kn (-1))]) .ret)))⟩
theorem sf152 : sfOf Try.f152 = some s152 := by kernel_rfl
theorem hb152 : hasBody Try.prog 152 = true := by kernel_rfl
def s153 : SF := ⟨30, [.tmp 4, .tmp 5], (.seq (R0 [Oo 4 (.assign (.const (.int .u64 0))), Oo 5 (.assign (.const (.int .u64 0)))]) (.seq (.cond (Kb false) (.seq (R0 [Mv 11 0, Oo 12 (.convert 220 235 (Tm 11)), Mv 13 1, Oo 14 (.convert 220 235 (Tm 13)), Cl 15 156 #[Tm 12, Tm 14] #[235, 235], Mv 10 15, Xt 16 10 0, Xt 17 10 1, Sg 6 16, Sg 7 17]) (.seq (R0 [Mv 18 6, Oo 19 (.convert 235 220 (Tm 18)), Mv 20 7, Oo 21 (.convert 235 220 (Tm 20)), Sg 4 19, Sg 5 21]) .ret)) .skip) (.seq (R0 [Mv 23 0, Mv 24 1, Cl 25 157 #[Tm 23, Tm 24] #[238, 238], Mv 22 25, Xt 26 22 0, Xt 27 22 1, Sg 8 26, Sg 9 27]) (.seq (R0 [Mv 28 8, Mv 29 9, Sg 4 28, Sg 5 29]) .ret))))⟩
theorem sf153 : sfOf Try.f153 = some s153 := by kernel_rfl
theorem hb153 : hasBody Try.prog 153 = true := by kernel_rfl
def s154 : SF := ⟨19, [], (.seq (R0 [Ld 4 114 1, Lq 5 4 114, Bo 6 .sub 3 (Tm 5) (Kn 1) 3, Sg 3 6]) (.block 0 (.loop (.seq (.seq (R0 [Mv 7 3, Bo 8 .geq 3 (Tm 7) (Kn 0) 3]) (.cond (Tm 8) .skip (.exit 0))) (.seq (.block 1 (.seq (R0 [Mv 11 0, Mv 12 3, Ld 13 114 1, Mv 14 3, Ix 15 114 13 14, Ld 16 109 15, Oo 17 (.call { callee := .value (Tm 11), args := #[Tm 12, Tm 16], argTypes := #[3, 109] }), Oo 18 (.unOp .not 4 (Tm 17))]) (.cond (Tm 18) .ret .skip))) (R0 [Mv 9 3, Bo 10 .sub 3 (Tm 9) (Kn 1) 3, Sg 3 10]))))))⟩
theorem sf154 : sfOf Try.f154 = some s154 := by kernel_rfl
theorem hb154 : hasBody Try.prog 154 = true := by kernel_rfl
def s157 : SF := ⟨51, [.tmp 4, .tmp 5], (.seq (R0 [Oo 4 (.assign (.const (.int .u64 0))), Oo 5 (.assign (.const (.int .u64 0)))]) (.seq (R0 [Mv 14 0, Bo 15 .and 238 (Tm 14) (.const (.int .u64 4294967295)) 238, Sg 6 15]) (.seq (R0 [Mv 16 0, Bo 17 .shr 238 (Tm 16) (.const (.int .u64 32)) 220, Sg 7 17]) (.seq (R0 [Mv 18 1, Bo 19 .and 238 (Tm 18) (.const (.int .u64 4294967295)) 238, Sg 8 19]) (.seq (R0 [Mv 20 1, Bo 21 .shr 238 (Tm 20) (.const (.int .u64 32)) 220, Sg 9 21]) (.seq (R0 [Mv 22 6, Mv 23 8, Bo 24 .mul 238 (Tm 22) (Tm 23) 238, Sg 10 24]) (.seq (R0 [Mv 25 7, Mv 26 8, Bo 27 .mul 238 (Tm 25) (Tm 26) 238, Mv 28 10, Bo 29 .shr 238 (Tm 28) (.const (.int .u64 32)) 220, Bo 30 .add 238 (Tm 27) (Tm 29) 238, Sg 11 30]) (.seq (R0 [Mv 31 11, Bo 32 .and 238 (Tm 31) (.const (.int .u64 4294967295)) 238, Sg 12 32]) (.seq (R0 [Mv 33 11, Bo 34 .shr 238 (Tm 33) (.const (.int .u64 32)) 220, Sg 13 34]) (.seq (R0 [Mv 35 12, Mv 36 6, Mv 37 9, Bo 38 .mul 238 (Tm 36) (Tm 37) 238, Bo 39 .add 238 (Tm 35) (Tm 38) 238, Sg 12 39]) (.seq (R0 [Mv 40 7, Mv 41 9, Bo 42 .mul 238 (Tm 40) (Tm 41) 238, Mv 43 13, Bo 44 .add 238 (Tm 42) (Tm 43) 238, Mv 45 12, Bo 46 .shr 238 (Tm 45) (.const (.int .u64 32)) 220, Bo 47 .add 238 (Tm 44) (Tm 46) 238, Sg 4 47]) (.seq (R0 [Mv 48 0, Mv 49 1, Bo 50 .mul 238 (Tm 48) (Tm 49) 238, Sg 5 50]) .ret))))))))))))⟩
theorem sf157 : sfOf Try.f157 = some s157 := by kernel_rfl
theorem hb157 : hasBody Try.prog 157 = true := by kernel_rfl
end Go.Dw.Seat
end
section
namespace Go.Dw.Seat
open Go Go.Dw Go.Proofs Go.IntWalk
theorem qA : type_of% @DW.seq := @DW.seq
theorem qB : type_of% @DW.block := @DW.block
theorem qC : type_of% @DW.skip := @DW.skip
theorem qD : type_of% @DW.exit := @DW.exit
theorem qE : type_of% @DW.ret := @DW.ret
theorem qF : type_of% @DW.reg := @DW.reg
theorem qG : type_of% @DW.cond_tt := @DW.cond_tt
theorem qH : type_of% @DW.cond_ff := @DW.cond_ff
theorem qI : type_of% @DW.cond := @DW.cond
theorem qJ : type_of% @g_split := @g_split
theorem qK : type_of% @call_c := @call_c
theorem qL : type_of% @DW.dreg := @DW.dreg
theorem qM : type_of% @retS_of := @retS_of
theorem qN : type_of% @bm_box := @bm_box
theorem qO : type_of% @bm_row := @bm_row
theorem qP : type_of% @bk_box := @bk_box
theorem qQ : type_of% @bk_row := @bk_row
theorem qR : type_of% @wkT_cons := @wkT_cons
theorem qS : type_of% @wkX_cons := @wkX_cons
theorem qTw : type_of% @wkT_nil := @wkT_nil
theorem qU : type_of% @wkX_nil := @wkX_nil
theorem qV : type_of% @ex_some := @ex_some
theorem qW : type_of% @wk_self := @wk_self
theorem qX : type_of% @wk_top := @wk_top
theorem qY : type_of% @wk_nil := @wk_nil
theorem qZ : type_of% @wkB_self := @wkB_self
theorem rA : type_of% @Int.natCast_add := @Int.natCast_add
theorem rB : type_of% @Int.natCast_one := @Int.natCast_one
theorem rC : type_of% @Int.ofNat_zero := @Int.ofNat_zero
theorem rD : type_of% @Int.natCast_zero := @Int.natCast_zero
theorem rE : type_of% @IntWalk.i64_in := @IntWalk.i64_in
theorem rF : type_of% @List.map_cons := @List.map_cons
theorem rG : type_of% @List.map_nil := @List.map_nil
end Go.Dw.Seat
end
section
set_option linter.unusedSimpArgs false
namespace Go.Dw.Seat
open Go Go.Dw Go.Proofs Go.IntWalk
structure Cause where
 noz : Int
 kind : Int
 frm : Int
instance : DecidableEq Cause := fun a b => decidable_of_iff (a.noz = b.noz ∧ a.kind = b.kind ∧ a.frm = b.frm) (by cases a; cases b; simp)
def eC (c : Cause) : List C := [.v (.int .i64 c.noz), .v (.int .i64 c.kind), .v (.int .i64 c.frm)]
structure Look where
 box : Int
 noz : Int
 step : Int
 glue : Bool
instance : DecidableEq Look := fun a b => decidable_of_iff (a.box = b.box ∧ a.noz = b.noz ∧ a.step = b.step ∧ a.glue = b.glue) (by cases a; cases b; simp)
def eL (c : Look) : List C := [.v (.int .i64 c.box), .v (.int .i64 c.noz), .v (.int .i64 c.step), .v (.bool c.glue)]
structure Room where
 wl : Int
 wh : Int
 dl : Int
 dh : Int
instance : DecidableEq Room := fun a b => decidable_of_iff (a.wl = b.wl ∧ a.wh = b.wh ∧ a.dl = b.dl ∧ a.dh = b.dh) (by cases a; cases b; simp)
def eR (c : Room) : List C := [.v (.int .i64 c.wl), .v (.int .i64 c.wh), .v (.int .i64 c.dl), .v (.int .i64 c.dh)]
def eSb (b : Bool) (s : List Cause) : List C := [.sl b 3 (rows eC s)]
abbrev eS := eSb false
def eG (s : List Int) : List C := [.sl false 1 (rows eI s)]
structure Plan where
 steps : Int
 noz : List Int
abbrev dP (b : Bool) (p : Plan) : D := .agg [.c (.v (.int .i64 p.steps)), .c (.sl b 1 (rows eI p.noz))]
abbrev dCs (b : Bool) (l : List Cause) : D := .c (.sl b 3 (rows eC l))
abbrev dLs (b : Bool) (l : List Look) : D := .c (.sl b 4 (rows eL l))
abbrev dSs (b : Bool) (l : List (List Cause)) : D := .c (.sl b 1 (rows eS l))
theorem rowC_snocC (l : List Cause) (a b c : Int) : rowC (rows eC l) ++ [[D.c (.v (.int .i64 a)), D.c (.v (.int .i64 b)), D.c (.v (.int .i64 c))]] = rowC (rows eC (l ++ [⟨a, b, c⟩])) := by simp [rowC, rows, eC]
theorem rowC_snocL (l : List Look) (a b c : Int) (d : Bool) : rowC (rows eL l) ++ [[D.c (.v (.int .i64 a)), D.c (.v (.int .i64 b)), D.c (.v (.int .i64 c)), D.c (.v (.bool d))]] = rowC (rows eL (l ++ [⟨a, b, c, d⟩])) := by simp [rowC, rows, eL]
theorem rowC_snocS (l : List (List Cause)) (s : List Cause) : rowC (rows (eSb false) l) ++ [[D.c (.sl false 3 (rows eC s))]] = rowC (rows (eSb false) (l ++ [s])) := by simp [rowC, rows, eSb]
attribute [go_sem] rowC_snocC rowC_snocL rowC_snocS
attribute [go_sem] eC eL eR eS eSb eG dP dCs dLs dSs
end Go.Dw.Seat
end
section
set_option linter.unusedSimpArgs false
namespace Go.Dw.Seat
open Go Go.Dw Go.Proofs Go.IntWalk
theorem c122 (b : Bool) (l : List (Int)) (hl : l.length ≤ 2 ^ 36) (g : FuncId) (fs caps : List C) (p : Int → Bool) (hp : ∀ x ∈ l, DCall Try.prog g (fs.map D.c ++ [dI x] ++ caps.map D.c) [] (bD (p x)) []) : DCall Try.prog 133 [.c (.sl b 1 (rows eI l)), .c (.fn (.func g) fs caps)] [] (dI (idxI p l)) [] := by
 refine DCall.of Try.func133 sf133 hb133 (Nat.le_of_ble_eq_true rfl) (okRes_nil fun _ => rfl) ?_; simp only [s133, idxs, Nat.reduceAdd]
 repeat' (first|(with_reducible first|apply qA|apply qB|apply qC|apply qD|apply qE|apply qF)|(simp (disch:=omega) only [go_sem, simprocAttr, Blk.men, Blk.keysIn])|exact qM rfl rfl rfl|(refine qG rfl ?_)|(refine qH rfl ?_)|(refine qI rfl ?_ ?_<;>intro hc<;>(try simp only [go_sem] at hc))|(refine qJ ?_ ?_<;>intro hc<;>(try simp only [hc])<;>(try simp only [go_sem] at hc)))
 refine DW.loop (ι := { i : Nat // i ≤ l.length ∧ ∀ j u, j < i → l[j]? = some u → p u = false }) (fun i => ⟨19, [(8, dI i.1), (7, dI l.length), (1, .c (.fn (.func g) fs caps)), (0, .c (.sl b 1 (rows eI l)))], []⟩) (fun i => l.length - i.1) ⟨0, Nat.zero_le _, fun j u h => by omega⟩ ?_ ?_
 ·refine Ent.to ?_ ?_ <;> simp (disch:=omega) only [qR,qS,qTw,qU,get,Nat.reduceEqDiff,↓reduceIte,qV,qW,qX,qY,qZ,and_self,dI,i64_in,and_true,true_and,rA,rB,rC,rD]
 rintro ⟨i, hi, hij⟩
 rcases at_or l i hi with ⟨v, hv, hlt, hd⟩ | ⟨he, hd⟩
 ·have hcall := hp v (List.mem_of_getElem? hv)
  repeat' (first|(with_reducible first|apply qA|apply qB|apply qC|apply qD|apply qE|apply qF)|(simp (disch:=omega) only [go_sem, simprocAttr, Blk.men, Blk.keysIn, hd, hv, closeDs_fn, rF, rG])|exact qM rfl rfl rfl|(refine qG rfl ?_)|(refine qH rfl ?_)|(refine qI rfl ?_ ?_<;>intro hc<;>(try simp only [go_sem] at hc))|(refine qJ ?_ ?_<;>intro hc<;>(try simp only [hc])<;>(try simp only [go_sem] at hc)))
  refine call_c hcall (by decide) ?_
  simp (disch:=omega) only [go_sem,simprocAttr,Blk.men,Blk.keysIn]
  refine DW.cond rfl ?_ ?_ <;> intro hc
  ·repeat' (first|(with_reducible first|apply qA|apply qB|apply qC|apply qD|apply qE|apply qF)|(simp (disch:=omega) only [go_sem, simprocAttr, Blk.men, Blk.keysIn])|exact qM rfl rfl rfl|(refine qG rfl ?_)|(refine qH rfl ?_)|(refine qI rfl ?_ ?_<;>intro hc<;>(try simp only [go_sem] at hc))|(refine qJ ?_ ?_<;>intro hc<;>(try simp only [hc])<;>(try simp only [go_sem] at hc)))
   refine retS_of rfl ?_ rfl; simp only [oneD, St.op, get, Nat.reduceEqDiff, ↓reduceIte, Option.getD_some, bD, dI]
   simp only [idxI, idxOf_some hij hv hc]
  ·repeat' (first|(with_reducible first|apply qA|apply qB|apply qC|apply qD|apply qE|apply qF)|(simp (disch:=omega) only [go_sem, simprocAttr, Blk.men, Blk.keysIn])|exact qM rfl rfl rfl|(refine qG rfl ?_)|(refine qH rfl ?_)|(refine qI rfl ?_ ?_<;>intro hc<;>(try simp only [go_sem] at hc))|(refine qJ ?_ ?_<;>intro hc<;>(try simp only [hc])<;>(try simp only [go_sem] at hc)))
   refine ⟨⟨i + 1, by omega, fun j u hj hu => by
    rcases Nat.lt_or_ge j i with h | h
    ·exact hij j u h hu
    ·have : j = i := by omega
     subst this
     rw [hv] at hu; cases hu; exact hc⟩, ?_, Ent.to ?_ ?_⟩ <;> first | (show _ < _; (try simp only); omega) | (simp (disch:=omega) only [qR,qS,qTw,qU,get,Nat.reduceEqDiff,↓reduceIte,qV,qW,qX,qY,qZ,and_self,dI,i64_in,and_true,true_and,rA,rB,rC,rD])
 ·repeat' (first|(with_reducible first|apply qA|apply qB|apply qC|apply qD|apply qE|apply qF)|(simp (disch:=omega) only [go_sem, simprocAttr, Blk.men, Blk.keysIn, hd])|exact qM rfl rfl rfl|(refine qG rfl ?_)|(refine qH rfl ?_)|(refine qI rfl ?_ ?_<;>intro hc<;>(try simp only [go_sem] at hc))|(refine qJ ?_ ?_<;>intro hc<;>(try simp only [hc])<;>(try simp only [go_sem] at hc)))
  refine retS_of rfl ?_ rfl; simp only [oneD, St.op, get, Nat.reduceEqDiff, ↓reduceIte, Option.getD_some, bD, dI]
  simp only [idxI, idxOf_none (he ▸ hij)]
theorem c110 (b : Bool) (l : List (Int)) (hl : l.length ≤ 2 ^ 36) (g : FuncId) (fs caps : List C) (p : Int → Bool) (hp : ∀ x ∈ l, DCall Try.prog g (fs.map D.c ++ [dI x] ++ caps.map D.c) [] (bD (p x)) []) : DCall Try.prog 97 [.c (.sl b 1 (rows eI l)), .c (.fn (.func g) fs caps)] [] (bD (l.any p)) [] := by
 refine DCall.of Try.func97 sf97 hb97 (Nat.le_of_ble_eq_true rfl) (okRes_nil fun _ => rfl) ?_; simp only [s97, idxs, Nat.reduceAdd]
 repeat' (first|(with_reducible first|apply qA|apply qB|apply qC|apply qD|apply qE|apply qF)|(simp (disch:=omega) only [go_sem, simprocAttr, Blk.men, Blk.keysIn])|exact qM rfl rfl rfl|(refine qG rfl ?_)|(refine qH rfl ?_)|(refine qI rfl ?_ ?_<;>intro hc<;>(try simp only [go_sem] at hc))|(refine qJ ?_ ?_<;>intro hc<;>(try simp only [hc])<;>(try simp only [go_sem] at hc)))
 refine call_c (c122 b l hl g fs caps p hp) (by decide) ?_
 repeat' (first|(with_reducible first|apply qA|apply qB|apply qC|apply qD|apply qE|apply qF)|(simp (disch:=omega) only [go_sem, simprocAttr, Blk.men, Blk.keysIn])|exact qM rfl rfl rfl|(refine qG rfl ?_)|(refine qH rfl ?_)|(refine qI rfl ?_ ?_<;>intro hc<;>(try simp only [go_sem] at hc))|(refine qJ ?_ ?_<;>intro hc<;>(try simp only [hc])<;>(try simp only [go_sem] at hc)))
 refine retS_of rfl ?_ rfl; simp only [oneD, St.op, get, Nat.reduceEqDiff, ↓reduceIte, Option.getD_some, bD, dI]
 rw [idxI_any]
end Go.Dw.Seat
end
section
set_option linter.unusedSimpArgs false
set_option maxRecDepth 100000
namespace Go.Dw.Seat
open Go Go.Dw Go.Proofs Go.IntWalk
theorem ud5 : Try.prog.underlying 5 = some (.int .u8) := by kernel_rfl
abbrev d8 (n : Nat) : D := .c (.v (.int .u8 n))
def eY (v : Nat) : List C := [.v (.int .u8 v)]
theorem eY_nb (v : Nat) : C.nbs (eY v) = true := rfl
attribute [go_sem] ud5 d8 eY
theorem tmodN (m k : Nat) : (m : Int).tmod (k : Int) = ((m % k : Nat) : Int) := by
 rw [Int.tmod_eq_emod_of_nonneg (by omega)]; simp
theorem tdivN (m k : Nat) : (m : Int).tdiv (k : Int) = ((m / k : Nat) : Int) := by
 rw [Int.tdiv_eq_ediv_of_nonneg (by omega)]; simp
def byteI (l : List Nat) (i : Nat) : Nat := (l[i % l.length]?).getD 0
theorem arByte (b : Bool) (l : List Nat) (i : Nat) (hi : i ≤ 1000) (hl : ∀ v ∈ l, v < 256) : DCall Try.prog 41 [.c (.sl b 1 (rows eY l)), dI i] [] (dI (byteI l i)) [] := by
 by_cases h0 : l.length = 0
 ·have he : ((l.length : Int) == 0) = true := by rw [h0]; rfl
  have hb : byteI l i = 0 := by
   have : l = [] := List.length_eq_zero_iff.1 h0
   subst this; rfl
  rw [hb]
  refine DCall.of Try.func41 sf41 hb41 (Nat.le_of_ble_eq_true rfl) (okRes_nil fun _ => rfl) ?_; simp only [s41, idxs, Nat.reduceAdd]
  repeat' (first|(with_reducible first|apply qA|apply qB|apply qC|apply qD|apply qE|apply qF)|(simp (disch:=omega) only [go_sem, simprocAttr, Blk.men, Blk.keysIn, he])|exact qM rfl rfl rfl|(refine qG rfl ?_)|(refine qH rfl ?_)|(refine qI rfl ?_ ?_<;>intro hc<;>(try simp only [go_sem] at hc))|(refine qJ ?_ ?_<;>intro hc<;>(try simp only [hc])<;>(try simp only [go_sem] at hc)))
 ·have he : ((l.length : Int) == 0) = false := by rw [beq_eq_false_iff_ne]; omega
  have hz : ((l.length : Int) = 0) = False := eq_false (by omega)
  have hr : (i : Int).tmod (l.length : Int) = ((i % l.length : Nat) : Int) := tmodN i l.length
  have hlt : i % l.length < l.length := Nat.mod_lt _ (by omega)
  have hv : l[i % l.length]? = some (byteI l i) := by
   rw [byteI, List.getElem?_eq_getElem hlt]; rfl
  have hv8 := hl _ (List.mem_of_getElem? hv)
  generalize byteI l i = v at *
  generalize i % l.length = j at *
  refine DCall.of Try.func41 sf41 hb41 (Nat.le_of_ble_eq_true rfl) (okRes_nil fun _ => rfl) ?_; simp only [s41, idxs, Nat.reduceAdd]
  repeat' (first|(with_reducible first|apply qA|apply qB|apply qC|apply qD|apply qE|apply qF)|(simp (disch:=omega) only [go_sem, simprocAttr, Blk.men, Blk.keysIn, he, hz, hr, hv])|exact qM rfl rfl rfl|(refine qG rfl ?_)|(refine qH rfl ?_)|(refine qI rfl ?_ ?_<;>intro hc<;>(try simp only [go_sem] at hc))|(refine qJ ?_ ?_<;>intro hc<;>(try simp only [hc])<;>(try simp only [go_sem] at hc)))
end Go.Dw.Seat
end
section
set_option linter.unusedSimpArgs false
set_option maxRecDepth 100000
namespace Go.Dw.Seat
open Go Go.Dw Go.Proofs Go.IntWalk
def wthn (lo hi : Int) (l : List Int) : Bool := !(l.any fun n => decide (n < lo) || decide (hi < n))
end Go.Dw.Seat
end
section
set_option linter.unusedSimpArgs false
set_option maxRecDepth 100000
namespace Go.Dw.Seat
open Go Go.Dw Go.Proofs Go.IntWalk
theorem crW1 (n lo hi : Int) (p q : Bool) : DCall Try.prog 116 [dI n, .c (.ro p [.v (.int .i64 lo)] 0), .c (.ro q [.v (.int .i64 hi)] 0)] [] (bD (decide (n < lo) || decide (hi < n))) [] := by
 refine DCall.of Try.func116 sf116 hb116 (Nat.le_of_ble_eq_true rfl) (okRes_nil fun _ => rfl) ?_; simp only [s116, idxs, Nat.reduceAdd]
 repeat' (first|(with_reducible first|apply qA|apply qB|apply qC|apply qD|apply qE|apply qF)|(simp (disch:=omega) only [go_sem, simprocAttr, Blk.men, Blk.keysIn])|exact qM rfl rfl rfl|(refine qG rfl ?_)|(refine qH rfl ?_)|(refine qI rfl ?_ ?_<;>intro hc<;>(try simp only [go_sem] at hc))|(refine qJ ?_ ?_<;>intro hc<;>(try simp only [hc])<;>(try simp only [go_sem] at hc)))
theorem crWithin (b : Bool) (lo hi : Int) (l : List Int) (hl : l.length ≤ 2 ^ 36) : DCall Try.prog 69 [dI lo, dI hi, dIs b l] [] (bD (wthn lo hi l)) [] := by
 refine DCall.of Try.func69 sf69 hb69 (Nat.le_of_ble_eq_true rfl) (okRes_nil fun _ => rfl) ?_; simp only [s69, idxs, Nat.reduceAdd]
 repeat' (first|(with_reducible first|apply qA|apply qB|apply qC|apply qD|apply qE|apply qF)|(simp (disch:=omega) only [go_sem, simprocAttr, Blk.men, Blk.keysIn])|exact qM rfl rfl rfl|(refine qG rfl ?_)|(refine qH rfl ?_)|(refine qI rfl ?_ ?_<;>intro hc<;>(try simp only [go_sem] at hc))|(refine qJ ?_ ?_<;>intro hc<;>(try simp only [hc])<;>(try simp only [go_sem] at hc)))
 (refine call_c (c110 b l hl 116 [] [.ro true [.v (.int .i64 lo)] 0, .ro true [.v (.int .i64 hi)] 0] (fun n => decide (n < lo) || decide (hi < n)) (fun x _ => crW1 x lo hi true true)) (by decide) ?_; simp (disch:=omega) only [go_sem,simprocAttr,Blk.men,Blk.keysIn])
 repeat' (first|(with_reducible first|apply qA|apply qB|apply qC|apply qD|apply qE|apply qF)|(simp (disch:=omega) only [go_sem, simprocAttr, Blk.men, Blk.keysIn])|exact qM rfl rfl rfl|(refine qG rfl ?_)|(refine qH rfl ?_)|(refine qI rfl ?_ ?_<;>intro hc<;>(try simp only [go_sem] at hc))|(refine qJ ?_ ?_<;>intro hc<;>(try simp only [hc])<;>(try simp only [go_sem] at hc)))
structure CR where
 tests : Int
 mean : Int
 low : Int
 bad : Int
abbrev dCR (r : CR) : D := .agg [dI r.tests, dI r.mean, dI r.low, dI r.bad]
structure CLot where
 off : Int
 made : Int
 ws : Int
 wb : Int
 bs : Int
 bb : Int
abbrev dLot (r : CR) (l : CLot) : D := .agg [dI r.tests, dI r.mean, dI r.low, dI r.bad, dI l.off, dI l.made, dI l.ws, dI l.wb, dI l.bs, dI l.bb]
attribute [go_sem] dCR dLot
theorem wthn_yes {lo hi : Int} {l : List Int} (h : ∀ v ∈ l, lo ≤ v ∧ v ≤ hi) : wthn lo hi l = true := by
 simp only [wthn, Bool.not_eq_true', List.any_eq_false, Bool.or_eq_true, decide_eq_true_eq]
 intro v hv
 have := h v hv
 omega
def lowT (off x : Int) : Int := if 0 < x - off then x - off else 0
def highT (off x : Int) : Int := if x + off < 100000 then x + off else 100000
def CLot.after (r : CR) (l : CLot) (x : Int) : CLot :=
 ⟨l.off, l.made + 1, l.ws + lowT l.off x, if lowT l.off x < r.low then l.wb + 1 else l.wb, l.bs + highT l.off x, if highT l.off x < r.low then l.bb + 1 else l.bb⟩
structure CLot.ok (l : CLot) : Prop where
 off : 0 ≤ l.off ∧ l.off ≤ 1000
 made : 0 ≤ l.made ∧ l.made ≤ 100
 ws : 0 ≤ l.ws ∧ l.ws ≤ 100000 * l.made
 wb : 0 ≤ l.wb ∧ l.wb ≤ l.made
 bs : 0 ≤ l.bs ∧ l.bs ≤ 100000 * l.made
 bb : 0 ≤ l.bb ∧ l.bb ≤ l.made
end Go.Dw.Seat
end
section
set_option linter.unusedSimpArgs false
set_option maxRecDepth 100000
namespace Go.Dw.Seat
open Go Go.Dw Go.Proofs Go.IntWalk
theorem mulB0 {a b A B : Int} (ha : 0 ≤ a ∧ a ≤ A) (hb : 0 ≤ b ∧ b ≤ B) : 0 ≤ a * b ∧ a * b ≤ A * B := by
 refine ⟨Int.mul_nonneg ha.1 hb.1, ?_⟩
 exact Int.le_trans (Int.mul_le_mul_of_nonneg_right ha.2 hb.1) (Int.mul_le_mul_of_nonneg_left hb.2 (Int.le_trans ha.1 ha.2))
end Go.Dw.Seat
end
section
set_option linter.unusedSimpArgs false
set_option maxRecDepth 100000
namespace Go.Dw.Seat
open Go Go.Dw Go.Proofs Go.IntWalk
theorem crIn (b : Bool) (lo hi : Int) (l : List Int) (hl : l.length ≤ 2 ^ 36) (h : ∀ v ∈ l, lo ≤ v ∧ v ≤ hi) : DCall Try.prog 69 [dI lo, dI hi, dIs b l] [] (bD true) [] := by
 have := crWithin b lo hi l hl
 rwa [wthn_yes h] at this
theorem crSpan (lo hi least most : Int) (h : least ≤ lo ∧ lo ≤ hi ∧ hi ≤ most) : DCall Try.prog 68 [.agg [dI lo, dI hi], dI least, dI most] [] (bD true) [] := by
 have h1 := crIn true least most [lo, hi] (by simp) (by simp; omega)
 have hd : decide (lo ≤ hi) = true := decide_eq_true h.2.1
 refine DCall.of Try.func68 sf68 hb68 (Nat.le_of_ble_eq_true rfl) (okRes_nil fun _ => rfl) ?_; simp only [s68, idxs, Nat.reduceAdd]
 repeat' (first|(with_reducible first|apply qA|apply qB|apply qC|apply qD|apply qE|apply qF)|(simp (disch:=omega) only [go_sem, simprocAttr, Blk.men, Blk.keysIn, hd])|exact qM rfl rfl rfl|(refine qG rfl ?_)|(refine qK (h1) (by decide) ?_)|(refine qH rfl ?_)|(refine qI rfl ?_ ?_<;>intro hc<;>(try simp only [go_sem] at hc))|(refine qJ ?_ ?_<;>intro hc<;>(try simp only [hc])<;>(try simp only [go_sem] at hc)))
theorem closeDs_mapc' {σ : St} {mv : Option Nat} {caps : List C} : closeDs σ mv (caps.map D.c) = some (caps.map D.c) := by
 have := @closeDs_fn _ σ mv [] caps []
 simpa [closeDs] using this
theorem ud3 : Try.prog.underlying 3 = some (.int .i64) := by kernel_rfl
theorem ud226 : Try.prog.underlying 220 = some (.int .u64) := by kernel_rfl
theorem srSearch (n r : Int) (h : 0 ≤ r ∧ r ≤ n ∧ n ≤ 1099511627776) (g : FuncId) (caps : List C) (hp : ∀ k, 0 ≤ k → k < n → DCall Try.prog g (dI k :: caps.map D.c) [] (bD (decide (r ≤ k))) []) : DCall Try.prog 117 [dI n, .c (.fn (.func g) [] caps)] [] (dI r) [] := by
 refine DCall.of Try.func117 sf117 hb117 (Nat.le_of_ble_eq_true rfl) (okRes_nil fun _ => rfl) ?_; simp only [s117, idxs, Nat.reduceAdd]
 repeat' (first|(with_reducible first|apply qA|apply qB|apply qC|apply qD|apply qE|apply qF)|(simp (disch:=omega) only [go_sem, simprocAttr, Blk.men, Blk.keysIn])|exact qM rfl rfl rfl|(refine qG rfl ?_)|(refine qH rfl ?_)|(refine qI rfl ?_ ?_<;>intro hc<;>(try simp only [go_sem] at hc))|(refine qJ ?_ ?_<;>intro hc<;>(try simp only [hc])<;>(try simp only [go_sem] at hc)))
 refine DW.loop (ι := { s : Int × Int // 0 ≤ s.1 ∧ s.1 ≤ r ∧ r ≤ s.2 ∧ s.2 ≤ n }) (fun s => ⟨26, [(6, dI s.1.2), (5, dI s.1.1), (1, .c (.fn (.func g) [] caps))], []⟩) (fun s => (s.1.2 - s.1.1).toNat) ⟨(0, n), Int.le_refl _, h.1, h.2.1, Int.le_refl _⟩ ?_ ?_
 ·refine Ent.to ?_ ?_ <;> simp (disch:=omega) only [qR,qS,qTw,qU,get,Nat.reduceEqDiff,↓reduceIte,qV,qW,qX,qY,qZ,and_self,dI,i64_in,and_true,true_and,rA,rB,rC,rD]
 rintro ⟨⟨i, j⟩, i1, i2, i3, i4⟩
 dsimp only at i1 i2 i3 i4 ⊢
 rcases Int.lt_or_le i j with hij | hij
 ·have hd : decide (i < j) = true := decide_eq_true hij
  have hcall := hp ((i + j) / 2) (by omega) (by omega)
  have hw1 : IntKind.u64.wrap (i + j) = i + j := IntWalk.u64_in _ (by omega)
  have hsh : shrI IntKind.u64 (i + j) 1 = (i + j) / 2 := by
   have : shrI IntKind.u64 (i + j) 1 = (i + j).fdiv 2 := rfl
   rw [this, Int.fdiv_eq_ediv_of_nonneg _ (by decide)]
  repeat' (first|(with_reducible first|apply qA|apply qB|apply qC|apply qD|apply qE|apply qF)|(simp (disch:=omega) only [go_sem, simprocAttr, Blk.men, Blk.keysIn, hd, closeDs_mapc', ud3, ud226, hw1, hsh])|exact qM rfl rfl rfl|(refine qG rfl ?_)|(refine qH rfl ?_)|(refine qI rfl ?_ ?_<;>intro hc<;>(try simp only [go_sem] at hc))|(refine qJ ?_ ?_<;>intro hc<;>(try simp only [hc])<;>(try simp only [go_sem] at hc)))
  refine call_c hcall (by decide) ?_
  cases hr : decide (r ≤ (i + j) / 2) with
  | true =>
   have hr' : r ≤ (i + j) / 2 := of_decide_eq_true hr
   simp (disch:=omega) only [go_sem,simprocAttr,Blk.men,Blk.keysIn]
   repeat' (first|(with_reducible first|apply qA|apply qB|apply qC|apply qD|apply qE|apply qF)|(simp (disch:=omega) only [go_sem, simprocAttr, Blk.men, Blk.keysIn])|exact qM rfl rfl rfl|(refine qG rfl ?_)|(refine qH rfl ?_)|(refine qI rfl ?_ ?_<;>intro hc<;>(try simp only [go_sem] at hc))|(refine qJ ?_ ?_<;>intro hc<;>(try simp only [hc])<;>(try simp only [go_sem] at hc)))
   refine ⟨⟨(i, (i + j) / 2), i1, i2, hr', by dsimp only; omega⟩, ?_, Ent.to ?_ ?_⟩ <;> first | (show _ < _; (try simp only); omega) | (simp (disch:=omega) only [qR,qS,qTw,qU,get,Nat.reduceEqDiff,↓reduceIte,qV,qW,qX,qY,qZ,and_self,dI,i64_in,and_true,true_and,rA,rB,rC,rD])
  | false =>
   have hr' : ¬ r ≤ (i + j) / 2 := of_decide_eq_false hr
   simp (disch:=omega) only [go_sem,simprocAttr,Blk.men,Blk.keysIn]
   repeat' (first|(with_reducible first|apply qA|apply qB|apply qC|apply qD|apply qE|apply qF)|(simp (disch:=omega) only [go_sem, simprocAttr, Blk.men, Blk.keysIn])|exact qM rfl rfl rfl|(refine qG rfl ?_)|(refine qH rfl ?_)|(refine qI rfl ?_ ?_<;>intro hc<;>(try simp only [go_sem] at hc))|(refine qJ ?_ ?_<;>intro hc<;>(try simp only [hc])<;>(try simp only [go_sem] at hc)))
   refine ⟨⟨((i + j) / 2 + 1, j), by dsimp only; omega, by dsimp only; omega, i3, i4⟩, ?_, Ent.to ?_ ?_⟩ <;> first | (show _ < _; (try simp only); omega) | (simp (disch:=omega) only [qR,qS,qTw,qU,get,Nat.reduceEqDiff,↓reduceIte,qV,qW,qX,qY,qZ,and_self,dI,i64_in,and_true,true_and,rA,rB,rC,rD])
 ·obtain rfl : i = r := by omega
  have hd : decide (i < j) = false := by rw [decide_eq_false_iff_not]; omega
  repeat' (first|(with_reducible first|apply qA|apply qB|apply qC|apply qD|apply qE|apply qF)|(simp (disch:=omega) only [go_sem, simprocAttr, Blk.men, Blk.keysIn, hd])|exact qM rfl rfl rfl|(refine qG rfl ?_)|(refine qH rfl ?_)|(refine qI rfl ?_ ?_<;>intro hc<;>(try simp only [go_sem] at hc))|(refine qJ ?_ ?_<;>intro hc<;>(try simp only [hc])<;>(try simp only [go_sem] at hc)))
structure IsRoot (n r : Int) : Prop where
 pos : 0 ≤ r
 low : r * r ≤ n
 high : n < (r + 1) * (r + 1)
theorem sq_mono {a b : Int} (ha : 0 ≤ a) (h : a ≤ b) : a * a ≤ b * b := Int.mul_le_mul h h ha (by omega)
theorem IsRoot.le {n r k : Int} (h : IsRoot n r) (hk : 0 ≤ k) : (n < (k + 1) * (k + 1)) ↔ r ≤ k := by
 constructor
 ·intro h1
  rcases Int.lt_or_le k r with h2 | h2
  ·have := sq_mono (a := k + 1) (b := r) (by omega) (by omega)
   have := h.low
   omega
  ·exact h2
 ·intro h1
  have := sq_mono (a := r + 1) (b := k + 1) (by have := h.pos; omega) (by omega)
  have := h.high
  omega
theorem IsRoot.self {n r : Int} (h : IsRoot n r) : r ≤ n := by
 have h1 := h.low
 have h2 := h.pos
 rcases Int.lt_or_le r 1 with h3 | h3
 ·have : r = 0 := by omega
  subst this; omega
 ·have := Int.mul_le_mul_of_nonneg_left h3 h2
  omega
theorem IsRoot.mono {n n' r r' : Int} (h : IsRoot n r) (h' : IsRoot n' r') (hn : n ≤ n') : r ≤ r' :=
 (h.le h'.pos).1 (by have := h'.high; omega)
theorem root_ex : ∀ n : Nat, ∃ r : Int, IsRoot n r
 | 0 => ⟨0, by decide, by decide, by decide⟩
 | n + 1 => by
  obtain ⟨r, h⟩ := root_ex n
  have h1 := h.low
  have h2 := h.high
  have h3 := h.pos
  rcases Int.lt_or_le ((n + 1 : Nat) : Int) ((r + 1) * (r + 1)) with hl | hl
  ·exact ⟨r, h3, by omega, hl⟩
  ·have := sq_mono (a := r + 1) (b := r + 2) (by omega) (by omega)
   have e : (r + 1 + 1) * (r + 1 + 1) = (r + 1) * (r + 1) + (2 * r + 3) := by
    rw [Int.add_mul (r + 1) 1 (r + 1 + 1), Int.mul_add (r + 1) (r + 1) 1]; omega
   exact ⟨r + 1, by omega, by omega, by rw [e]; omega⟩
theorem root_of {n : Int} (h : 0 ≤ n) : ∃ r, IsRoot n r := by
 obtain ⟨r, hr⟩ := root_ex n.toNat
 rw [Int.toNat_of_nonneg h] at hr
 exact ⟨r, hr⟩
theorem IsRoot.lt {n r : Int} (h : IsRoot n r) (hn : n ≤ 200000000) : r ≤ 14142 := by
 rcases Int.lt_or_le 14142 r with h1 | h1
 ·have := sq_mono (a := 14143) (b := r) (by decide) (by omega)
  have := h.low
  omega
 ·exact h1
theorem crRoot1 (b : Bool) (n k : Int) (hk : 0 ≤ k ∧ k ≤ 1000000000) : DCall Try.prog 118 [dI k, .c (.ro b [.v (.int .i64 n)] 0)] [] (bD (decide (n < (k + 1) * (k + 1)))) [] := by
 have hm := mulB0 (a := k + 1) (b := k + 1) (A := 1000000001) (B := 1000000001) (by omega) (by omega)
 refine DCall.of Try.func118 sf118 hb118 (Nat.le_of_ble_eq_true rfl) (okRes_nil fun _ => rfl) ?_; simp only [s118, idxs, Nat.reduceAdd]
 repeat' (first|(with_reducible first|apply qA|apply qB|apply qC|apply qD|apply qE|apply qF)|(simp (disch:=omega) only [go_sem, simprocAttr, Blk.men, Blk.keysIn])|exact qM rfl rfl rfl|(refine qG rfl ?_)|(refine qH rfl ?_)|(refine qI rfl ?_ ?_<;>intro hc<;>(try simp only [go_sem] at hc))|(refine qJ ?_ ?_<;>intro hc<;>(try simp only [hc])<;>(try simp only [go_sem] at hc)))
theorem crRoot (n r : Int) (h : IsRoot n r) (hn : n ≤ 200000000) : DCall Try.prog 71 [dI n] [] (dI r) [] := by
 have hs := h.self
 have hp := h.pos
 have h1 := srSearch (n + 1) r ⟨h.pos, by omega, by omega⟩ 118 [.ro true [.v (.int .i64 n)] 0] (fun k hk hkn => by
  have := crRoot1 true n k ⟨hk, by omega⟩
  rwa [decide_eq_decide.2 (h.le hk)] at this)
 refine DCall.of Try.func71 sf71 hb71 (Nat.le_of_ble_eq_true rfl) (okRes_nil fun _ => rfl) ?_; simp only [s71, idxs, Nat.reduceAdd]
 repeat' (first|(with_reducible first|apply qA|apply qB|apply qC|apply qD|apply qE|apply qF)|(simp (disch:=omega) only [go_sem, simprocAttr, Blk.men, Blk.keysIn])|exact qM rfl rfl rfl|(refine qG rfl ?_)|(refine qK (h1) (by decide) ?_)|(refine qH rfl ?_)|(refine qI rfl ?_ ?_<;>intro hc<;>(try simp only [go_sem] at hc))|(refine qJ ?_ ?_<;>intro hc<;>(try simp only [hc])<;>(try simp only [go_sem] at hc)))
theorem crStrong1 (b : Bool) (x0 x1 x2 x3 around rule e c r : Int) (he : 0 ≤ e ∧ e ≤ 100000) (hc : 1 ≤ c ∧ c ≤ 10000) (ha : 1 ≤ around ∧ around ≤ 20000) (hu : 1 ≤ rule ∧ rule ≤ 1000) (hr : IsRoot (c * around) r) :
  DCall Try.prog 70 [dI e, dI c, .c (.ro b [.v (.int .i64 x0), .v (.int .i64 x1), .v (.int .i64 x2), .v (.int .i64 x3), .v (.int .i64 around), .v (.int .i64 rule)] 0)] [] (dI ((e * r * rule).tdiv 100000)) [] := by
 have m1 := mulB0 (a := c) (b := around) (A := 10000) (B := 20000) (by omega) (by omega)
 have hr1 := hr.lt (by omega)
 have m2 := mulB0 (a := e) (b := r) (A := 100000) (B := 14142) he ⟨hr.pos, hr1⟩
 have m3 := mulB0 (a := e * r) (b := rule) (A := 1414200000) (B := 1000) (by omega) (by omega)
 have hroot := crRoot (c * around) r hr (by omega)
 have hq : 0 ≤ (e * r * rule).tdiv 100000 ∧ (e * r * rule).tdiv 100000 ≤ 1414200000000 := by
  rw [Int.tdiv_eq_ediv_of_nonneg (by omega)]; omega
 refine DCall.of Try.func70 sf70 hb70 (Nat.le_of_ble_eq_true rfl) (okRes_nil fun _ => rfl) ?_; simp only [s70, idxs, Nat.reduceAdd]
 repeat' (first|(with_reducible first|apply qA|apply qB|apply qC|apply qD|apply qE|apply qF)|(refine qL rfl (WF.of ?_) ?_; first|rfl|skip)|(simp (disch:=omega) only [go_sem, simprocAttr, Blk.men, Blk.keysIn])|exact qM rfl rfl rfl|(refine qG rfl ?_)|(refine qK (hroot) (by decide) ?_)|(refine qH rfl ?_)|(refine qI rfl ?_ ?_<;>intro hc<;>(try simp only [go_sem] at hc))|(refine qJ ?_ ?_<;>intro hc<;>(try simp only [hc])<;>(try simp only [go_sem] at hc)))
structure CBox where
 el : Int
 eh : Int
 cl : Int
 ch : Int
 around : Int
 rule : Int
structure CBox.ok (b : CBox) : Prop where
 edge : 0 ≤ b.el ∧ b.el ≤ b.eh ∧ b.eh ≤ 100000
 cal : 1 ≤ b.cl ∧ b.cl ≤ b.ch ∧ b.ch ≤ 10000
 around : 1 ≤ b.around ∧ b.around ≤ 20000
 rule : 1 ≤ b.rule ∧ b.rule ≤ 1000
abbrev dCBox (b : CBox) : D := .agg [dI b.el, dI b.eh, dI b.cl, dI b.ch, dI b.around, dI b.rule]
attribute [go_sem] dCBox
theorem crStrength (b : CBox) (h : b.ok) (rl rh : Int) (hl : IsRoot (b.cl * b.around) rl) (hh : IsRoot (b.ch * b.around) rh) :
  DCall Try.prog 37 [dCBox b] [] (.tup [.agg [dI ((b.el * rl * b.rule).tdiv 100000), dI ((b.eh * rh * b.rule).tdiv 100000)], dI 0]) [] := by
 have h1 := crSpan b.el b.eh 0 100000 h.edge
 have h2 := crSpan b.cl b.ch 1 10000 h.cal
 have h3 := crIn true 1 20000 [b.around] (by simp) (by simpa using h.around)
 have h4 := crIn true 1 1000 [b.rule] (by simp) (by simpa using h.rule)
 have e := h.edge
 have c := h.cal
 have h5 := crStrong1 true b.el b.eh b.cl b.ch b.around b.rule b.el b.cl rl (by omega) (by omega) h.around h.rule hl
 have h6 := crStrong1 true b.el b.eh b.cl b.ch b.around b.rule b.eh b.ch rh (by omega) (by omega) h.around h.rule hh
 refine DCall.of Try.func37 sf37 hb37 (Nat.le_of_ble_eq_true rfl) (okRes_nil fun _ => rfl) ?_; simp only [s37, idxs, Nat.reduceAdd]
 repeat' (first|(with_reducible first|apply qA|apply qB|apply qC|apply qD|apply qE|apply qF)|(refine qL rfl (WF.of ?_) ?_; first|rfl|skip)|(simp (disch:=omega) only [go_sem, simprocAttr, Blk.men, Blk.keysIn])|exact qM rfl rfl rfl|(refine qG rfl ?_)|(refine qK (h1) (by decide) ?_)|(refine qK (h2) (by decide) ?_)|(refine qK (h3) (by decide) ?_)|(refine qK (h4) (by decide) ?_)|(refine qK (h5) (by decide) ?_)|(refine qK (h6) (by decide) ?_)|(refine qH rfl ?_)|(refine qI rfl ?_ ?_<;>intro hc<;>(try simp only [go_sem] at hc))|(refine qJ ?_ ?_<;>intro hc<;>(try simp only [hc])<;>(try simp only [go_sem] at hc)))
end Go.Dw.Seat
end
section
set_option linter.unusedSimpArgs false
set_option maxRecDepth 100000
namespace Go.Dw.Seat
open Go Go.Dw Go.Proofs Go.IntWalk
theorem bdW1 (n lo hi : Int) (p q : Bool) : DCall Try.prog 98 [dI n, .c (.ro p [.v (.int .i64 lo)] 0), .c (.ro q [.v (.int .i64 hi)] 0)] [] (bD (decide (n < lo) || decide (hi < n))) [] := by
 refine DCall.of Try.func98 sf98 hb98 (Nat.le_of_ble_eq_true rfl) (okRes_nil fun _ => rfl) ?_; simp only [s98, idxs, Nat.reduceAdd]
 repeat' (first|(with_reducible first|apply qA|apply qB|apply qC|apply qD|apply qE|apply qF)|(simp (disch:=omega) only [go_sem, simprocAttr, Blk.men, Blk.keysIn])|exact qM rfl rfl rfl|(refine qG rfl ?_)|(refine qH rfl ?_)|(refine qI rfl ?_ ?_<;>intro hc<;>(try simp only [go_sem] at hc))|(refine qJ ?_ ?_<;>intro hc<;>(try simp only [hc])<;>(try simp only [go_sem] at hc)))
theorem bdWithin (b : Bool) (lo hi : Int) (l : List Int) (hl : l.length ≤ 2 ^ 36) : DCall Try.prog 58 [dI lo, dI hi, dIs b l] [] (bD (wthn lo hi l)) [] := by
 refine DCall.of Try.func58 sf58 hb58 (Nat.le_of_ble_eq_true rfl) (okRes_nil fun _ => rfl) ?_; simp only [s58, idxs, Nat.reduceAdd]
 repeat' (first|(with_reducible first|apply qA|apply qB|apply qC|apply qD|apply qE|apply qF)|(simp (disch:=omega) only [go_sem, simprocAttr, Blk.men, Blk.keysIn])|exact qM rfl rfl rfl|(refine qG rfl ?_)|(refine qH rfl ?_)|(refine qI rfl ?_ ?_<;>intro hc<;>(try simp only [go_sem] at hc))|(refine qJ ?_ ?_<;>intro hc<;>(try simp only [hc])<;>(try simp only [go_sem] at hc)))
 (refine call_c (c110 b l hl 98 [] [.ro true [.v (.int .i64 lo)] 0, .ro true [.v (.int .i64 hi)] 0] (fun n => decide (n < lo) || decide (hi < n)) (fun x _ => bdW1 x lo hi true true)) (by decide) ?_; simp (disch:=omega) only [go_sem,simprocAttr,Blk.men,Blk.keysIn])
 repeat' (first|(with_reducible first|apply qA|apply qB|apply qC|apply qD|apply qE|apply qF)|(simp (disch:=omega) only [go_sem, simprocAttr, Blk.men, Blk.keysIn])|exact qM rfl rfl rfl|(refine qG rfl ?_)|(refine qH rfl ?_)|(refine qI rfl ?_ ?_<;>intro hc<;>(try simp only [go_sem] at hc))|(refine qJ ?_ ?_<;>intro hc<;>(try simp only [hc])<;>(try simp only [go_sem] at hc)))
theorem bdIn (b : Bool) (lo hi : Int) (l : List Int) (hl : l.length ≤ 2 ^ 36) (h : ∀ v ∈ l, lo ≤ v ∧ v ≤ hi) : DCall Try.prog 58 [dI lo, dI hi, dIs b l] [] (bD true) [] := by
 have := bdWithin b lo hi l hl
 rwa [wthn_yes h] at this
structure Pap where
 kind : Int
 weight : Int
 tl : Int
 th : Int
 ml : Int
 mh : Int
 price : Int
 strong : Int
structure Flu where
 pitch : Int
 draw : Int
 hl : Int
 hh : Int
def eP (p : Pap) : List C := [.v (.int .i64 p.kind), .v (.int .i64 p.weight), .v (.int .i64 p.tl), .v (.int .i64 p.th), .v (.int .i64 p.ml), .v (.int .i64 p.mh), .v (.int .i64 p.price), .v (.int .i64 p.strong)]
def eF (f : Flu) : List C := [.v (.int .i64 f.pitch), .v (.int .i64 f.draw), .v (.int .i64 f.hl), .v (.int .i64 f.hh)]
theorem eP_nb (v : Pap) : C.nbs (eP v) = true := rfl
theorem eF_nb (v : Flu) : C.nbs (eF v) = true := rfl
structure Pap.ok (p : Pap) : Prop where
 kind : p.kind = 1 ∨ p.kind = 2
 weight : 1 ≤ p.weight ∧ p.weight ≤ 1000
 thick : 1 ≤ p.tl ∧ p.tl ≤ p.th ∧ p.th ≤ 1000
 moist : 0 ≤ p.ml ∧ p.ml ≤ p.mh ∧ p.mh ≤ 200
 price : 0 ≤ p.price ∧ p.price ≤ 1000000
 strong : 0 ≤ p.strong ∧ p.strong ≤ 10000
structure Flu.ok (f : Flu) : Prop where
 pitch : 1000 ≤ f.pitch ∧ f.pitch ≤ 10000
 draw : f.pitch ≤ f.draw ∧ f.draw ≤ 2 * f.pitch
 high : 1 ≤ f.hl ∧ f.hl ≤ f.hh ∧ f.hh ≤ 10000
structure Sto where
 papers : List Pap
 flutes : List Flu
structure Sto.ok (s : Sto) : Prop where
 np : 1 ≤ s.papers.length ∧ s.papers.length ≤ 8
 nf : 1 ≤ s.flutes.length ∧ s.flutes.length ≤ 4
 papers : ∀ p ∈ s.papers, p.ok
 flutes : ∀ f ∈ s.flutes, f.ok
abbrev dSto (s : Sto) : D := .agg [.c (.sl false 8 (rows eP s.papers)), .c (.sl false 4 (rows eF s.flutes))]
attribute [go_sem] eP eF dSto
theorem bdSpan (lo hi least most : Int) (h : least ≤ lo ∧ lo ≤ hi ∧ hi ≤ most) : DCall Try.prog 151 [.agg [dI lo, dI hi], dI least, dI most] [] (bD true) [] := by
 have h1 := bdIn true least most [lo, hi] (by simp) (by simp; omega)
 have hd : decide (lo ≤ hi) = true := decide_eq_true h.2.1
 refine DCall.of Try.func151 sf151 hb151 (Nat.le_of_ble_eq_true rfl) (okRes_nil fun _ => rfl) ?_; simp only [s151, idxs, Nat.reduceAdd]
 repeat' (first|(with_reducible first|apply qA|apply qB|apply qC|apply qD|apply qE|apply qF)|(simp (disch:=omega) only [go_sem, simprocAttr, Blk.men, Blk.keysIn, hd])|exact qM rfl rfl rfl|(refine qG rfl ?_)|(refine qK (h1) (by decide) ?_)|(refine qH rfl ?_)|(refine qI rfl ?_ ?_<;>intro hc<;>(try simp only [go_sem] at hc))|(refine qJ ?_ ?_<;>intro hc<;>(try simp only [hc])<;>(try simp only [go_sem] at hc)))
theorem bdPaper (p : Pap) (h : p.ok) : DCall Try.prog 137 [.agg ((eP p).map D.c)] [] (bD true) [] := by
 have h1 := bdIn true 1 1000 [p.weight] (by simp) (by simpa using h.weight)
 have h2 := bdSpan p.tl p.th 1 1000 h.thick
 have h3 := bdSpan p.ml p.mh 0 200 h.moist
 have h4 := bdIn true 0 1000000 [p.price] (by simp) (by simpa using h.price)
 have h5 := bdIn true 0 10000 [p.strong] (by simp) (by simpa using h.strong)
 rcases h.kind with hk | hk
 ·refine DCall.of Try.func137 sf137 hb137 (Nat.le_of_ble_eq_true rfl) (okRes_nil fun _ => rfl) ?_; simp only [s137, idxs, Nat.reduceAdd]
  repeat' (first|(with_reducible first|apply qA|apply qB|apply qC|apply qD|apply qE|apply qF)|(simp (disch:=omega) only [go_sem, simprocAttr, Blk.men, Blk.keysIn, rF, rG, hk])|exact qM rfl rfl rfl|(refine qG rfl ?_)|(refine qK (h1) (by decide) ?_)|(refine qK (h2) (by decide) ?_)|(refine qK (h3) (by decide) ?_)|(refine qK (h4) (by decide) ?_)|(refine qK (h5) (by decide) ?_)|(refine qH rfl ?_)|(refine qI rfl ?_ ?_<;>intro hc<;>(try simp only [go_sem] at hc))|(refine qJ ?_ ?_<;>intro hc<;>(try simp only [hc])<;>(try simp only [go_sem] at hc)))
 ·refine DCall.of Try.func137 sf137 hb137 (Nat.le_of_ble_eq_true rfl) (okRes_nil fun _ => rfl) ?_; simp only [s137, idxs, Nat.reduceAdd]
  repeat' (first|(with_reducible first|apply qA|apply qB|apply qC|apply qD|apply qE|apply qF)|(simp (disch:=omega) only [go_sem, simprocAttr, Blk.men, Blk.keysIn, rF, rG, hk])|exact qM rfl rfl rfl|(refine qG rfl ?_)|(refine qK (h1) (by decide) ?_)|(refine qK (h2) (by decide) ?_)|(refine qK (h3) (by decide) ?_)|(refine qK (h4) (by decide) ?_)|(refine qK (h5) (by decide) ?_)|(refine qH rfl ?_)|(refine qI rfl ?_ ?_<;>intro hc<;>(try simp only [go_sem] at hc))|(refine qJ ?_ ?_<;>intro hc<;>(try simp only [hc])<;>(try simp only [go_sem] at hc)))
theorem bdFlute (f : Flu) (h : f.ok) : DCall Try.prog 140 [.agg ((eF f).map D.c)] [] (bD true) [] := by
 have hp := h.pitch
 have h1 := bdIn true 1000 10000 [f.pitch] (by simp) (by simpa using h.pitch)
 have h2 := bdIn true f.pitch (2 * f.pitch) [f.draw] (by simp) (by simpa using h.draw)
 have h3 := bdSpan f.hl f.hh 1 10000 h.high
 refine DCall.of Try.func140 sf140 hb140 (Nat.le_of_ble_eq_true rfl) (okRes_nil fun _ => rfl) ?_; simp only [s140, idxs, Nat.reduceAdd]
 repeat' (first|(with_reducible first|apply qA|apply qB|apply qC|apply qD|apply qE|apply qF)|(simp (disch:=omega) only [go_sem, simprocAttr, Blk.men, Blk.keysIn, rF, rG])|exact qM rfl rfl rfl|(refine qG rfl ?_)|(refine qK (h1) (by decide) ?_)|(refine qK (h2) (by decide) ?_)|(refine qK (h3) (by decide) ?_)|(refine qH rfl ?_)|(refine qI rfl ?_ ?_<;>intro hc<;>(try simp only [go_sem] at hc))|(refine qJ ?_ ?_<;>intro hc<;>(try simp only [hc])<;>(try simp only [go_sem] at hc)))
theorem bdP1 (p : Pap) (h : p.ok) : DCall Try.prog 136 [.agg ((eP p).map D.c)] [] (bD false) [] := by
 have h1 := bdPaper p h
 refine DCall.of Try.func136 sf136 hb136 (Nat.le_of_ble_eq_true rfl) (okRes_nil fun _ => rfl) ?_; simp only [s136, idxs, Nat.reduceAdd]
 repeat' (first|(with_reducible first|apply qA|apply qB|apply qC|apply qD|apply qE|apply qF)|(simp (disch:=omega) only [go_sem, simprocAttr, Blk.men, Blk.keysIn, rF, rG])|exact qM rfl rfl rfl|(refine qG rfl ?_)|(refine qK (h1) (by decide) ?_)|(refine qH rfl ?_)|(refine qI rfl ?_ ?_<;>intro hc<;>(try simp only [go_sem] at hc))|(refine qJ ?_ ?_<;>intro hc<;>(try simp only [hc])<;>(try simp only [go_sem] at hc)))
theorem bdF1 (f : Flu) (h : f.ok) : DCall Try.prog 139 [.agg ((eF f).map D.c)] [] (bD false) [] := by
 have h1 := bdFlute f h
 refine DCall.of Try.func139 sf139 hb139 (Nat.le_of_ble_eq_true rfl) (okRes_nil fun _ => rfl) ?_; simp only [s139, idxs, Nat.reduceAdd]
 repeat' (first|(with_reducible first|apply qA|apply qB|apply qC|apply qD|apply qE|apply qF)|(simp (disch:=omega) only [go_sem, simprocAttr, Blk.men, Blk.keysIn, rF, rG])|exact qM rfl rfl rfl|(refine qG rfl ?_)|(refine qK (h1) (by decide) ?_)|(refine qH rfl ?_)|(refine qI rfl ?_ ?_<;>intro hc<;>(try simp only [go_sem] at hc))|(refine qJ ?_ ?_<;>intro hc<;>(try simp only [hc])<;>(try simp only [go_sem] at hc)))
theorem bdPIdx (b : Bool) (l : List Pap) (hl : l.length ≤ 2 ^ 36) (g : FuncId) (hp : ∀ x ∈ l, DCall Try.prog g [.agg ((eP x).map D.c)] [] (bD false) []) : DCall Try.prog 150 [.c (.sl b 8 (rows eP l)), .c (.fn (.func g) [] [])] [] (dI (-1)) [] := by
 refine DCall.of Try.func150 sf150 hb150 (Nat.le_of_ble_eq_true rfl) (okRes_nil fun _ => rfl) ?_; simp only [s150, idxs, Nat.reduceAdd]
 repeat' (first|(with_reducible first|apply qA|apply qB|apply qC|apply qD|apply qE|apply qF)|(simp (disch:=omega) only [go_sem, simprocAttr, Blk.men, Blk.keysIn])|exact qM rfl rfl rfl|(refine qG rfl ?_)|(refine qH rfl ?_)|(refine qI rfl ?_ ?_<;>intro hc<;>(try simp only [go_sem] at hc))|(refine qJ ?_ ?_<;>intro hc<;>(try simp only [hc])<;>(try simp only [go_sem] at hc)))
 refine DW.loop (ι := { i : Nat // i ≤ l.length }) (fun i => ⟨19, [(8, dI i.1), (7, dI l.length), (1, .c (.fn (.func g) [] [])), (0, .c (.sl b 8 (rows eP l)))], []⟩) (fun i => l.length - i.1) ⟨0, Nat.zero_le _⟩ ?_ ?_
 ·refine Ent.to ?_ ?_ <;> simp (disch:=omega) only [qR,qS,qTw,qU,get,Nat.reduceEqDiff,↓reduceIte,qV,qW,qX,qY,qZ,and_self,dI,i64_in,and_true,true_and,rA,rB,rC,rD]
 rintro ⟨i, hi⟩
 rcases at_or l i hi with ⟨v, hv, hlt, hd⟩ | ⟨he, hd⟩
 ·have hcall := hp v (List.mem_of_getElem? hv)
  repeat' (first|(with_reducible first|apply qA|apply qB|apply qC|apply qD|apply qE|apply qF)|(simp (disch:=omega) only [go_sem, simprocAttr, Blk.men, Blk.keysIn, hd, hv, closeDs_fn, rF, rG])|exact qM rfl rfl rfl|(refine qG rfl ?_)|(refine qH rfl ?_)|(refine qI rfl ?_ ?_<;>intro hc<;>(try simp only [go_sem] at hc))|(refine qJ ?_ ?_<;>intro hc<;>(try simp only [hc])<;>(try simp only [go_sem] at hc)))
  refine call_c hcall (by decide) ?_
  simp (disch:=omega) only [go_sem,simprocAttr,Blk.men,Blk.keysIn]
  repeat' (first|(with_reducible first|apply qA|apply qB|apply qC|apply qD|apply qE|apply qF)|(simp (disch:=omega) only [go_sem, simprocAttr, Blk.men, Blk.keysIn])|exact qM rfl rfl rfl|(refine qG rfl ?_)|(refine qH rfl ?_)|(refine qI rfl ?_ ?_<;>intro hc<;>(try simp only [go_sem] at hc))|(refine qJ ?_ ?_<;>intro hc<;>(try simp only [hc])<;>(try simp only [go_sem] at hc)))
  refine ⟨⟨i + 1, hlt⟩, ?_, Ent.to ?_ ?_⟩ <;> first | (show _ < _; (try simp only); omega) | (simp (disch:=omega) only [qR,qS,qTw,qU,get,Nat.reduceEqDiff,↓reduceIte,qV,qW,qX,qY,qZ,and_self,dI,i64_in,and_true,true_and,rA,rB,rC,rD])
 ·repeat' (first|(with_reducible first|apply qA|apply qB|apply qC|apply qD|apply qE|apply qF)|(simp (disch:=omega) only [go_sem, simprocAttr, Blk.men, Blk.keysIn, hd])|exact qM rfl rfl rfl|(refine qG rfl ?_)|(refine qH rfl ?_)|(refine qI rfl ?_ ?_<;>intro hc<;>(try simp only [go_sem] at hc))|(refine qJ ?_ ?_<;>intro hc<;>(try simp only [hc])<;>(try simp only [go_sem] at hc)))
theorem bdPCon (b : Bool) (l : List Pap) (hl : l.length ≤ 2 ^ 36) (g : FuncId) (hp : ∀ x ∈ l, DCall Try.prog g [.agg ((eP x).map D.c)] [] (bD false) []) : DCall Try.prog 135 [.c (.sl b 8 (rows eP l)), .c (.fn (.func g) [] [])] [] (bD false) [] := by
 refine DCall.of Try.func135 sf135 hb135 (Nat.le_of_ble_eq_true rfl) (okRes_nil fun _ => rfl) ?_; simp only [s135, idxs, Nat.reduceAdd]
 repeat' (first|(with_reducible first|apply qA|apply qB|apply qC|apply qD|apply qE|apply qF)|(simp (disch:=omega) only [go_sem, simprocAttr, Blk.men, Blk.keysIn])|exact qM rfl rfl rfl|(refine qG rfl ?_)|(refine qH rfl ?_)|(refine qI rfl ?_ ?_<;>intro hc<;>(try simp only [go_sem] at hc))|(refine qJ ?_ ?_<;>intro hc<;>(try simp only [hc])<;>(try simp only [go_sem] at hc)))
 (refine call_c (bdPIdx b l hl g hp) (by decide) ?_; simp (disch:=omega) only [go_sem,simprocAttr,Blk.men,Blk.keysIn])
 repeat' (first|(with_reducible first|apply qA|apply qB|apply qC|apply qD|apply qE|apply qF)|(simp (disch:=omega) only [go_sem, simprocAttr, Blk.men, Blk.keysIn])|exact qM rfl rfl rfl|(refine qG rfl ?_)|(refine qH rfl ?_)|(refine qI rfl ?_ ?_<;>intro hc<;>(try simp only [go_sem] at hc))|(refine qJ ?_ ?_<;>intro hc<;>(try simp only [hc])<;>(try simp only [go_sem] at hc)))
theorem bdFIdx (b : Bool) (l : List Flu) (hl : l.length ≤ 2 ^ 36) (g : FuncId) (hp : ∀ x ∈ l, DCall Try.prog g [.agg ((eF x).map D.c)] [] (bD false) []) : DCall Try.prog 152 [.c (.sl b 4 (rows eF l)), .c (.fn (.func g) [] [])] [] (dI (-1)) [] := by
 refine DCall.of Try.func152 sf152 hb152 (Nat.le_of_ble_eq_true rfl) (okRes_nil fun _ => rfl) ?_; simp only [s152, idxs, Nat.reduceAdd]
 repeat' (first|(with_reducible first|apply qA|apply qB|apply qC|apply qD|apply qE|apply qF)|(simp (disch:=omega) only [go_sem, simprocAttr, Blk.men, Blk.keysIn])|exact qM rfl rfl rfl|(refine qG rfl ?_)|(refine qH rfl ?_)|(refine qI rfl ?_ ?_<;>intro hc<;>(try simp only [go_sem] at hc))|(refine qJ ?_ ?_<;>intro hc<;>(try simp only [hc])<;>(try simp only [go_sem] at hc)))
 refine DW.loop (ι := { i : Nat // i ≤ l.length }) (fun i => ⟨19, [(8, dI i.1), (7, dI l.length), (1, .c (.fn (.func g) [] [])), (0, .c (.sl b 4 (rows eF l)))], []⟩) (fun i => l.length - i.1) ⟨0, Nat.zero_le _⟩ ?_ ?_
 ·refine Ent.to ?_ ?_ <;> simp (disch:=omega) only [qR,qS,qTw,qU,get,Nat.reduceEqDiff,↓reduceIte,qV,qW,qX,qY,qZ,and_self,dI,i64_in,and_true,true_and,rA,rB,rC,rD]
 rintro ⟨i, hi⟩
 rcases at_or l i hi with ⟨v, hv, hlt, hd⟩ | ⟨he, hd⟩
 ·have hcall := hp v (List.mem_of_getElem? hv)
  repeat' (first|(with_reducible first|apply qA|apply qB|apply qC|apply qD|apply qE|apply qF)|(simp (disch:=omega) only [go_sem, simprocAttr, Blk.men, Blk.keysIn, hd, hv, closeDs_fn, rF, rG])|exact qM rfl rfl rfl|(refine qG rfl ?_)|(refine qH rfl ?_)|(refine qI rfl ?_ ?_<;>intro hc<;>(try simp only [go_sem] at hc))|(refine qJ ?_ ?_<;>intro hc<;>(try simp only [hc])<;>(try simp only [go_sem] at hc)))
  refine call_c hcall (by decide) ?_
  simp (disch:=omega) only [go_sem,simprocAttr,Blk.men,Blk.keysIn]
  repeat' (first|(with_reducible first|apply qA|apply qB|apply qC|apply qD|apply qE|apply qF)|(simp (disch:=omega) only [go_sem, simprocAttr, Blk.men, Blk.keysIn])|exact qM rfl rfl rfl|(refine qG rfl ?_)|(refine qH rfl ?_)|(refine qI rfl ?_ ?_<;>intro hc<;>(try simp only [go_sem] at hc))|(refine qJ ?_ ?_<;>intro hc<;>(try simp only [hc])<;>(try simp only [go_sem] at hc)))
  refine ⟨⟨i + 1, hlt⟩, ?_, Ent.to ?_ ?_⟩ <;> first | (show _ < _; (try simp only); omega) | (simp (disch:=omega) only [qR,qS,qTw,qU,get,Nat.reduceEqDiff,↓reduceIte,qV,qW,qX,qY,qZ,and_self,dI,i64_in,and_true,true_and,rA,rB,rC,rD])
 ·repeat' (first|(with_reducible first|apply qA|apply qB|apply qC|apply qD|apply qE|apply qF)|(simp (disch:=omega) only [go_sem, simprocAttr, Blk.men, Blk.keysIn, hd])|exact qM rfl rfl rfl|(refine qG rfl ?_)|(refine qH rfl ?_)|(refine qI rfl ?_ ?_<;>intro hc<;>(try simp only [go_sem] at hc))|(refine qJ ?_ ?_<;>intro hc<;>(try simp only [hc])<;>(try simp only [go_sem] at hc)))
theorem bdFCon (b : Bool) (l : List Flu) (hl : l.length ≤ 2 ^ 36) (g : FuncId) (hp : ∀ x ∈ l, DCall Try.prog g [.agg ((eF x).map D.c)] [] (bD false) []) : DCall Try.prog 138 [.c (.sl b 4 (rows eF l)), .c (.fn (.func g) [] [])] [] (bD false) [] := by
 refine DCall.of Try.func138 sf138 hb138 (Nat.le_of_ble_eq_true rfl) (okRes_nil fun _ => rfl) ?_; simp only [s138, idxs, Nat.reduceAdd]
 repeat' (first|(with_reducible first|apply qA|apply qB|apply qC|apply qD|apply qE|apply qF)|(simp (disch:=omega) only [go_sem, simprocAttr, Blk.men, Blk.keysIn])|exact qM rfl rfl rfl|(refine qG rfl ?_)|(refine qH rfl ?_)|(refine qI rfl ?_ ?_<;>intro hc<;>(try simp only [go_sem] at hc))|(refine qJ ?_ ?_<;>intro hc<;>(try simp only [hc])<;>(try simp only [go_sem] at hc)))
 (refine call_c (bdFIdx b l hl g hp) (by decide) ?_; simp (disch:=omega) only [go_sem,simprocAttr,Blk.men,Blk.keysIn])
 repeat' (first|(with_reducible first|apply qA|apply qB|apply qC|apply qD|apply qE|apply qF)|(simp (disch:=omega) only [go_sem, simprocAttr, Blk.men, Blk.keysIn])|exact qM rfl rfl rfl|(refine qG rfl ?_)|(refine qH rfl ?_)|(refine qI rfl ?_ ?_<;>intro hc<;>(try simp only [go_sem] at hc))|(refine qJ ?_ ?_<;>intro hc<;>(try simp only [hc])<;>(try simp only [go_sem] at hc)))
theorem bdCheck (s : Sto) (h : s.ok) : DCall Try.prog 100 [dSto s] [] (dI 0) [] := by
 have hp := h.np
 have hf := h.nf
 have h1 := bdPCon false s.papers (by omega) 136 (fun p hp => bdP1 p (h.papers p hp))
 have h2 := bdFCon false s.flutes (by omega) 139 (fun f hf => bdF1 f (h.flutes f hf))
 have d1 : decide ((8 : Int) < (s.papers.length : Int)) = false := by rw [decide_eq_false_iff_not]; omega
 have d2 : decide ((4 : Int) < (s.flutes.length : Int)) = false := by rw [decide_eq_false_iff_not]; omega
 have d3 : ((s.papers.length : Int) == 0) = false := by rw [beq_eq_false_iff_ne]; omega
 have d4 : ((s.flutes.length : Int) == 0) = false := by rw [beq_eq_false_iff_ne]; omega
 refine DCall.of Try.func100 sf100 hb100 (Nat.le_of_ble_eq_true rfl) (okRes_nil fun _ => rfl) ?_; simp only [s100, idxs, Nat.reduceAdd]
 repeat' (first|(with_reducible first|apply qA|apply qB|apply qC|apply qD|apply qE|apply qF)|(simp (disch:=omega) only [go_sem, simprocAttr, Blk.men, Blk.keysIn, d1, d2, d3, d4])|exact qM rfl rfl rfl|(refine qG rfl ?_)|(refine qK (h1) (by decide) ?_)|(refine qK (h2) (by decide) ?_)|(refine qH rfl ?_)|(refine qI rfl ?_ ?_<;>intro hc<;>(try simp only [go_sem] at hc))|(refine qJ ?_ ?_<;>intro hc<;>(try simp only [hc])<;>(try simp only [go_sem] at hc)))
structure Mak where
 papers : List Nat
 flutes : List Nat
abbrev dMak (m : Mak) : D := .agg [.c (.sl false 1 (rows eI (nL m.papers))), .c (.sl false 1 (rows eI (nL m.flutes)))]
attribute [go_sem] dMak
structure Mak.ok (m : Mak) (s : Sto) : Prop where
 nf : 1 ≤ m.flutes.length ∧ m.flutes.length ≤ 2
 np : m.papers.length = 2 * m.flutes.length + 1
 papers : ∀ n ∈ m.papers, n < s.papers.length
 flutes : ∀ n ∈ m.flutes, n < s.flutes.length
 kind : ∀ (i n : Nat) (p : Pap), m.papers[i]? = some n → s.papers[n]? = some p → p.kind = if i % 2 = 0 then 1 else 2
def kindsL : Nat → List Int
 | 0 => [1]
 | n + 1 => kindsL n ++ [2, 1]
theorem kindsL_len : ∀ n, (kindsL n).length = 2 * n + 1
 | 0 => rfl
 | n + 1 => by rw [kindsL, List.length_append, kindsL_len n]; simp; omega
theorem kindsL_get : ∀ n i, i < 2 * n + 1 → (kindsL n)[i]? = some (if i % 2 = 0 then 1 else 2)
 | 0, i, h => by
  obtain rfl : i = 0 := by omega
  rfl
 | n + 1, i, h => by
  rw [kindsL]
  rcases Nat.lt_or_ge i (2 * n + 1) with h1 | h1
  ·rw [List.getElem?_append_left (by rw [kindsL_len]; omega)]
   exact kindsL_get n i h1
  ·rw [List.getElem?_append_right (by rw [kindsL_len]; omega), kindsL_len]
   rcases (by omega : i = 2 * n + 1 ∨ i = 2 * n + 2) with rfl | rfl
   ·rw [if_neg (by omega)]; simp
   ·rw [if_pos (by omega)]; simp
theorem snoc2 (l : List Int) (a b : Int) : rowC (rows eI l) ++ [[D.c (.v (.int .i64 a))], [D.c (.v (.int .i64 b))]] = rowC (rows eI (l ++ [a, b])) := by simp [rowC, rows, eI]
theorem bdKinds (n : Nat) (hn : n ≤ 1000) : DCall Try.prog 102 [dI n] [] (dIs false (kindsL n)) [] := by
 refine DCall.of Try.func102 sf102 hb102 (Nat.le_of_ble_eq_true rfl) (okRes_nil fun _ => rfl) ?_; simp only [s102, idxs, Nat.reduceAdd]
 repeat' (first|(with_reducible first|apply qA|apply qB|apply qC|apply qD|apply qE|apply qF)|(simp (disch:=omega) only [go_sem, simprocAttr, Blk.men, Blk.keysIn])|exact qM rfl rfl rfl|(refine qG rfl ?_)|(refine qH rfl ?_)|(refine qI rfl ?_ ?_<;>intro hc<;>(try simp only [go_sem] at hc))|(refine qJ ?_ ?_<;>intro hc<;>(try simp only [hc])<;>(try simp only [go_sem] at hc)))
 refine DW.loop (ι := { i : Nat // i ≤ n }) (fun i => ⟨13, [(6, dI i.1), (5, dI n), (3, .own 4)], [(4, .row 1 (rowC (rows eI (kindsL i.1))))]⟩) (fun i => n - i.1) ⟨0, Nat.zero_le _⟩ ?_ ?_
 ·refine Ent.to ?_ ?_ <;> simp (disch:=omega) only [qR,qS,qTw,qU,get,Nat.reduceEqDiff,↓reduceIte,qV,qW,qX,qY,qZ,and_self,dI,i64_in,and_true,true_and,rA,rB,rC,rD]
  exact .refl _
 rintro ⟨i, hi⟩
 rcases Nat.lt_or_ge i n with hlt | hge
 ·have hd : decide ((i : Int) < (n : Int)) = true := by rw [decide_eq_true_eq]; omega
  have hl := kindsL_len i
  have hs : kindsL (i + 1) = kindsL i ++ [2, 1] := rfl
  generalize kindsL i = k at *
  repeat' (first|(with_reducible first|apply qA|apply qB|apply qC|apply qD|apply qE|apply qF)|(simp (disch:=omega) only [go_sem, simprocAttr, Blk.men, Blk.keysIn, hd, snoc2])|exact qM rfl rfl rfl|(refine qG rfl ?_)|(refine qH rfl ?_)|(refine qI rfl ?_ ?_<;>intro hc<;>(try simp only [go_sem] at hc))|(refine qJ ?_ ?_<;>intro hc<;>(try simp only [hc])<;>(try simp only [go_sem] at hc)))
  refine ⟨⟨i + 1, hlt⟩, ?_, Ent.to ?_ ?_⟩ <;> first | (show _ < _; (try simp only); omega) | (simp (disch:=omega) only [qR,qS,qTw,qU,get,Nat.reduceEqDiff,↓reduceIte,qV,qW,qX,qY,qZ,and_self,dI,i64_in,and_true,true_and,rA,rB,rC,rD, hs])
  all_goals exact .refl _
 ·obtain rfl : i = n := by omega
  have hd : decide ((i : Int) < (i : Int)) = false := by rw [decide_eq_false_iff_not]; omega
  repeat' (first|(with_reducible first|apply qA|apply qB|apply qC|apply qD|apply qE|apply qF)|(simp (disch:=omega) only [go_sem, simprocAttr, Blk.men, Blk.keysIn, hd])|exact qM rfl rfl rfl|(refine qG rfl ?_)|(refine qH rfl ?_)|(refine qI rfl ?_ ?_<;>intro hc<;>(try simp only [go_sem] at hc))|(refine qJ ?_ ?_<;>intro hc<;>(try simp only [hc])<;>(try simp only [go_sem] at hc)))
  (refine retS_ent (Ent.rel 4 rfl) ?_; simp (disch:=omega) only [go_sem,simprocAttr,Blk.men,Blk.keysIn])
  refine retS_wk rfl ?_ (by simp only [Blk.nb, rowC_nb, D.nb, D.nbs, C.nb, C.nbs, C.nbss, rows_nb eI_nb, Bool.and_true, Bool.not_false, Bool.and_self, bD, dI, iD, rows_nb eP_nb, rows_nb eF_nb]); exact .refl _
end Go.Dw.Seat
end
