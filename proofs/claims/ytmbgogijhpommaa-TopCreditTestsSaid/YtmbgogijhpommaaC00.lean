/- Helpers of a proof. -/
import Derived.Test.YtmbgogijhpommaaW36
import Derived.Test.YtmbgogijhpommaaProg
set_option linter.unusedVariables false
set_option linter.unusedSimpArgs false
section
namespace Go.Dw.Seat
open Go Go.Dw Go.Proofs
theorem el0 : elemI Try.prog 0 = none := by kernel_rfl
theorem ty1 : tyI Try.prog 1 = some ⟨false, 1, [.nilFunc], 8⟩ := by kernel_rfl
theorem el1 : elemI Try.prog 1 = none := by kernel_rfl
theorem ty2 : tyI Try.prog 2 = some ⟨false, 1, [(.int .i64 0)], 8⟩ := by kernel_rfl
theorem el2 : elemI Try.prog 2 = none := by kernel_rfl
theorem it2 : intI Try.prog 2 = some .i64 := by kernel_rfl
theorem ty3 : tyI Try.prog 3 = some ⟨false, 1, [(.int .i64 0)], 8⟩ := by kernel_rfl
theorem el3 : elemI Try.prog 3 = none := by kernel_rfl
theorem it3 : intI Try.prog 3 = some .i64 := by kernel_rfl
theorem ty4 : tyI Try.prog 4 = some ⟨false, 1, [(.bool false)], 1⟩ := by kernel_rfl
theorem el4 : elemI Try.prog 4 = none := by kernel_rfl
theorem bl4 : blI Try.prog 4 = true := by kernel_rfl
theorem ty5 : tyI Try.prog 5 = some ⟨false, 1, [(.int .u8 0)], 1⟩ := by kernel_rfl
theorem el5 : elemI Try.prog 5 = none := by kernel_rfl
theorem it5 : intI Try.prog 5 = some .u8 := by kernel_rfl
theorem ty6 : tyI Try.prog 6 = some ⟨false, 1, [(.int .u8 0)], 1⟩ := by kernel_rfl
theorem el6 : elemI Try.prog 6 = none := by kernel_rfl
theorem it6 : intI Try.prog 6 = some .u8 := by kernel_rfl
theorem ty7 : tyI Try.prog 7 = some ⟨true, 4, [(.int .i64 0), (.int .i64 0), (.bool false), (.int .u8 0)], 24⟩ := by kernel_rfl
theorem el7 : elemI Try.prog 7 = none := by kernel_rfl
theorem eq7 : eqTy Try.prog 7 = some (.st [(0, 1, .it), (1, 1, .it), (2, 1, .bl), (3, 1, .it)]) := by kernel_rfl
theorem pl7 : placesI Try.prog 7 = some [(0, 1), (1, 1), (2, 1), (3, 1)] := by kernel_rfl
theorem fi7_0 : fieldI Try.prog 7 0 = some (0, 1, false) := by kernel_rfl
theorem fi7_1 : fieldI Try.prog 7 1 = some (1, 1, false) := by kernel_rfl
theorem fi7_2 : fieldI Try.prog 7 2 = some (2, 1, false) := by kernel_rfl
theorem fi7_3 : fieldI Try.prog 7 3 = some (3, 1, false) := by kernel_rfl
theorem ty8 : tyI Try.prog 8 = some ⟨true, 4, [(.int .i64 0), (.int .i64 0), (.bool false), (.int .u8 0)], 24⟩ := by kernel_rfl
theorem el8 : elemI Try.prog 8 = none := by kernel_rfl
theorem eq8 : eqTy Try.prog 8 = some (.st [(0, 1, .it), (1, 1, .it), (2, 1, .bl), (3, 1, .it)]) := by kernel_rfl
theorem pl8 : placesI Try.prog 8 = some [(0, 1), (1, 1), (2, 1), (3, 1)] := by kernel_rfl
theorem fi8_0 : fieldI Try.prog 8 0 = some (0, 1, false) := by kernel_rfl
theorem fi8_1 : fieldI Try.prog 8 1 = some (1, 1, false) := by kernel_rfl
theorem fi8_2 : fieldI Try.prog 8 2 = some (2, 1, false) := by kernel_rfl
theorem fi8_3 : fieldI Try.prog 8 3 = some (3, 1, false) := by kernel_rfl
theorem ty9 : tyI Try.prog 9 = some ⟨false, 1, [(.string ⟨#[]⟩)], 16⟩ := by kernel_rfl
theorem el9 : elemI Try.prog 9 = none := by kernel_rfl
theorem ty10 : tyI Try.prog 10 = some ⟨false, 1, [(.string ⟨#[]⟩)], 16⟩ := by kernel_rfl
theorem el10 : elemI Try.prog 10 = none := by kernel_rfl
theorem ty11 : tyI Try.prog 11 = some ⟨false, 1, [(.string ⟨#[]⟩)], 16⟩ := by kernel_rfl
theorem el11 : elemI Try.prog 11 = none := by kernel_rfl
theorem ty12 : tyI Try.prog 12 = some ⟨false, 1, [(.int .u64 0)], 8⟩ := by kernel_rfl
theorem el12 : elemI Try.prog 12 = none := by kernel_rfl
theorem it12 : intI Try.prog 12 = some .u64 := by kernel_rfl
theorem ty13 : tyI Try.prog 13 = some ⟨true, 2, [(.string ⟨#[]⟩), (.int .u64 0)], 24⟩ := by kernel_rfl
theorem el13 : elemI Try.prog 13 = none := by kernel_rfl
theorem pl13 : placesI Try.prog 13 = some [(0, 1), (1, 1)] := by kernel_rfl
theorem fi13_0 : fieldI Try.prog 13 0 = some (0, 1, false) := by kernel_rfl
theorem fi13_1 : fieldI Try.prog 13 1 = some (1, 1, false) := by kernel_rfl
theorem ty14 : tyI Try.prog 14 = some ⟨true, 2, [(.string ⟨#[]⟩), (.int .u64 0)], 24⟩ := by kernel_rfl
theorem el14 : elemI Try.prog 14 = none := by kernel_rfl
theorem pl14 : placesI Try.prog 14 = some [(0, 1), (1, 1)] := by kernel_rfl
theorem fi14_0 : fieldI Try.prog 14 0 = some (0, 1, false) := by kernel_rfl
theorem fi14_1 : fieldI Try.prog 14 1 = some (1, 1, false) := by kernel_rfl
theorem ty15 : tyI Try.prog 15 = some ⟨false, 1, [(.pointer none)], 8⟩ := by kernel_rfl
theorem el15 : elemI Try.prog 15 = none := by kernel_rfl
theorem ty16 : tyI Try.prog 16 = some ⟨false, 1, [(.pointer none)], 8⟩ := by kernel_rfl
theorem el16 : elemI Try.prog 16 = none := by kernel_rfl
theorem ty17 : tyI Try.prog 17 = some ⟨false, 1, [(.pointer none)], 8⟩ := by kernel_rfl
theorem el17 : elemI Try.prog 17 = none := by kernel_rfl
theorem ty18 : tyI Try.prog 18 = some ⟨true, 1, [(.pointer none)], 8⟩ := by kernel_rfl
theorem el18 : elemI Try.prog 18 = none := by kernel_rfl
theorem pl18 : placesI Try.prog 18 = some [(0, 1)] := by kernel_rfl
theorem fi18_0 : fieldI Try.prog 18 0 = some (0, 1, false) := by kernel_rfl
theorem ty19 : tyI Try.prog 19 = some ⟨true, 1, [(.pointer none)], 8⟩ := by kernel_rfl
theorem el19 : elemI Try.prog 19 = none := by kernel_rfl
theorem pl19 : placesI Try.prog 19 = some [(0, 1)] := by kernel_rfl
theorem fi19_0 : fieldI Try.prog 19 0 = some (0, 1, false) := by kernel_rfl
theorem ty20 : tyI Try.prog 20 = some ⟨false, 1, [.nilIface], 16⟩ := by kernel_rfl
theorem el20 : elemI Try.prog 20 = none := by kernel_rfl
theorem ty21 : tyI Try.prog 21 = some ⟨false, 1, [(.int .i32 0)], 4⟩ := by kernel_rfl
theorem el21 : elemI Try.prog 21 = none := by kernel_rfl
theorem it21 : intI Try.prog 21 = some .i32 := by kernel_rfl
theorem ty22 : tyI Try.prog 22 = some ⟨false, 1, [(.slice none 0 0)], 24⟩ := by kernel_rfl
theorem el22 : elemI Try.prog 22 = some 5 := by kernel_rfl
theorem ty23 : tyI Try.prog 23 = some ⟨true, 4, [(.int .u8 0), (.int .u8 0), (.int .u8 0), (.int .u8 0)], 4⟩ := by kernel_rfl
theorem el23 : elemI Try.prog 23 = none := by kernel_rfl
theorem ar23 : arrI Try.prog 23 = some (4, 5) := by kernel_rfl
theorem pl23 : placesI Try.prog 23 = some [(0, 1), (1, 1), (2, 1), (3, 1)] := by kernel_rfl
theorem ty24 : tyI Try.prog 24 = some ⟨true, 2, [(.int .u8 0), (.int .u8 0)], 2⟩ := by kernel_rfl
theorem el24 : elemI Try.prog 24 = none := by kernel_rfl
theorem ar24 : arrI Try.prog 24 = some (2, 5) := by kernel_rfl
theorem pl24 : placesI Try.prog 24 = some [(0, 1), (1, 1)] := by kernel_rfl
theorem ty25 : tyI Try.prog 25 = some ⟨false, 1, [(.slice none 0 0)], 24⟩ := by kernel_rfl
theorem el25 : elemI Try.prog 25 = some 110 := by kernel_rfl
theorem ty26 : tyI Try.prog 26 = some ⟨true, 11, [(.int .i64 0), (.int .i64 0), (.int .i64 0), (.int .i64 0), (.int .i64 0), (.int .i64 0), (.int .i64 0), (.int .i64 0), (.int .i64 0), (.int .i64 0), (.slice none 0 0)], 104⟩ := by kernel_rfl
theorem el26 : elemI Try.prog 26 = none := by kernel_rfl
theorem pl26 : placesI Try.prog 26 = some [(0, 1), (1, 1), (2, 1), (3, 1), (4, 1), (5, 1), (6, 1), (7, 1), (8, 1), (9, 1), (10, 1)] := by kernel_rfl
theorem fi26_0 : fieldI Try.prog 26 0 = some (0, 1, false) := by kernel_rfl
theorem fi26_1 : fieldI Try.prog 26 1 = some (1, 1, false) := by kernel_rfl
theorem fi26_2 : fieldI Try.prog 26 2 = some (2, 1, false) := by kernel_rfl
theorem fi26_3 : fieldI Try.prog 26 3 = some (3, 1, false) := by kernel_rfl
theorem fi26_4 : fieldI Try.prog 26 4 = some (4, 1, false) := by kernel_rfl
theorem fi26_5 : fieldI Try.prog 26 5 = some (5, 1, false) := by kernel_rfl
theorem fi26_6 : fieldI Try.prog 26 6 = some (6, 1, false) := by kernel_rfl
theorem fi26_7 : fieldI Try.prog 26 7 = some (7, 1, false) := by kernel_rfl
theorem fi26_8 : fieldI Try.prog 26 8 = some (8, 1, false) := by kernel_rfl
theorem fi26_9 : fieldI Try.prog 26 9 = some (9, 1, false) := by kernel_rfl
theorem fi26_10 : fieldI Try.prog 26 10 = some (10, 1, false) := by kernel_rfl
theorem ty27 : tyI Try.prog 27 = some ⟨true, 11, [(.int .i64 0), (.int .i64 0), (.int .i64 0), (.int .i64 0), (.int .i64 0), (.int .i64 0), (.int .i64 0), (.int .i64 0), (.int .i64 0), (.int .i64 0), (.slice none 0 0)], 104⟩ := by kernel_rfl
theorem el27 : elemI Try.prog 27 = none := by kernel_rfl
theorem pl27 : placesI Try.prog 27 = some [(0, 1), (1, 1), (2, 1), (3, 1), (4, 1), (5, 1), (6, 1), (7, 1), (8, 1), (9, 1), (10, 1)] := by kernel_rfl
theorem fi27_0 : fieldI Try.prog 27 0 = some (0, 1, false) := by kernel_rfl
theorem fi27_1 : fieldI Try.prog 27 1 = some (1, 1, false) := by kernel_rfl
theorem fi27_2 : fieldI Try.prog 27 2 = some (2, 1, false) := by kernel_rfl
theorem fi27_3 : fieldI Try.prog 27 3 = some (3, 1, false) := by kernel_rfl
theorem fi27_4 : fieldI Try.prog 27 4 = some (4, 1, false) := by kernel_rfl
theorem fi27_5 : fieldI Try.prog 27 5 = some (5, 1, false) := by kernel_rfl
theorem fi27_6 : fieldI Try.prog 27 6 = some (6, 1, false) := by kernel_rfl
theorem fi27_7 : fieldI Try.prog 27 7 = some (7, 1, false) := by kernel_rfl
theorem fi27_8 : fieldI Try.prog 27 8 = some (8, 1, false) := by kernel_rfl
theorem fi27_9 : fieldI Try.prog 27 9 = some (9, 1, false) := by kernel_rfl
theorem fi27_10 : fieldI Try.prog 27 10 = some (10, 1, false) := by kernel_rfl
theorem ty28 : tyI Try.prog 28 = some ⟨false, 1, [.nilFunc], 8⟩ := by kernel_rfl
theorem el28 : elemI Try.prog 28 = none := by kernel_rfl
theorem ty29 : tyI Try.prog 29 = some ⟨false, 1, [.nilFunc], 8⟩ := by kernel_rfl
theorem el29 : elemI Try.prog 29 = none := by kernel_rfl
theorem ty30 : tyI Try.prog 30 = some ⟨true, 4, [(.int .i64 0), (.int .i64 0), (.int .i64 0), (.int .i64 0)], 32⟩ := by kernel_rfl
theorem el30 : elemI Try.prog 30 = none := by kernel_rfl
theorem eq30 : eqTy Try.prog 30 = some (.st [(0, 1, .it), (1, 1, .it), (2, 1, .it), (3, 1, .it)]) := by kernel_rfl
theorem pl30 : placesI Try.prog 30 = some [(0, 1), (1, 1), (2, 1), (3, 1)] := by kernel_rfl
theorem fi30_0 : fieldI Try.prog 30 0 = some (0, 1, false) := by kernel_rfl
theorem fi30_1 : fieldI Try.prog 30 1 = some (1, 1, false) := by kernel_rfl
theorem fi30_2 : fieldI Try.prog 30 2 = some (2, 1, false) := by kernel_rfl
theorem fi30_3 : fieldI Try.prog 30 3 = some (3, 1, false) := by kernel_rfl
theorem ty31 : tyI Try.prog 31 = some ⟨true, 4, [(.int .i64 0), (.int .i64 0), (.int .i64 0), (.int .i64 0)], 32⟩ := by kernel_rfl
theorem el31 : elemI Try.prog 31 = none := by kernel_rfl
theorem eq31 : eqTy Try.prog 31 = some (.st [(0, 1, .it), (1, 1, .it), (2, 1, .it), (3, 1, .it)]) := by kernel_rfl
theorem pl31 : placesI Try.prog 31 = some [(0, 1), (1, 1), (2, 1), (3, 1)] := by kernel_rfl
theorem fi31_0 : fieldI Try.prog 31 0 = some (0, 1, false) := by kernel_rfl
theorem fi31_1 : fieldI Try.prog 31 1 = some (1, 1, false) := by kernel_rfl
theorem fi31_2 : fieldI Try.prog 31 2 = some (2, 1, false) := by kernel_rfl
theorem fi31_3 : fieldI Try.prog 31 3 = some (3, 1, false) := by kernel_rfl
theorem ty32 : tyI Try.prog 32 = some ⟨false, 1, [(.slice none 0 0)], 24⟩ := by kernel_rfl
theorem el32 : elemI Try.prog 32 = some 3 := by kernel_rfl
theorem ty33 : tyI Try.prog 33 = some ⟨false, 1, [(.int .i64 0)], 8⟩ := by kernel_rfl
theorem el33 : elemI Try.prog 33 = none := by kernel_rfl
theorem it33 : intI Try.prog 33 = some .i64 := by kernel_rfl
theorem ty34 : tyI Try.prog 34 = some ⟨false, 1, [(.int .i64 0)], 8⟩ := by kernel_rfl
theorem el34 : elemI Try.prog 34 = none := by kernel_rfl
theorem it34 : intI Try.prog 34 = some .i64 := by kernel_rfl
theorem el35 : elemI Try.prog 35 = none := by kernel_rfl
theorem ty36 : tyI Try.prog 36 = some ⟨false, 1, [.nilFunc], 8⟩ := by kernel_rfl
theorem el36 : elemI Try.prog 36 = none := by kernel_rfl
theorem ty37 : tyI Try.prog 37 = some ⟨false, 1, [.nilFunc], 8⟩ := by kernel_rfl
theorem el37 : elemI Try.prog 37 = none := by kernel_rfl
theorem el38 : elemI Try.prog 38 = none := by kernel_rfl
theorem ty39 : tyI Try.prog 39 = some ⟨false, 1, [.nilFunc], 8⟩ := by kernel_rfl
theorem el39 : elemI Try.prog 39 = none := by kernel_rfl
theorem ty40 : tyI Try.prog 40 = some ⟨false, 1, [.nilFunc], 8⟩ := by kernel_rfl
theorem el40 : elemI Try.prog 40 = none := by kernel_rfl
theorem ty41 : tyI Try.prog 41 = some ⟨true, 5, [(.int .i64 0), (.int .i64 0), (.int .i64 0), (.int .i64 0), (.int .i64 0)], 40⟩ := by kernel_rfl
theorem el41 : elemI Try.prog 41 = none := by kernel_rfl
theorem eq41 : eqTy Try.prog 41 = some (.st [(0, 1, .it), (1, 1, .it), (2, 1, .it), (3, 1, .it), (4, 1, .it)]) := by kernel_rfl
theorem pl41 : placesI Try.prog 41 = some [(0, 1), (1, 1), (2, 1), (3, 1), (4, 1)] := by kernel_rfl
theorem fi41_0 : fieldI Try.prog 41 0 = some (0, 1, false) := by kernel_rfl
theorem fi41_1 : fieldI Try.prog 41 1 = some (1, 1, false) := by kernel_rfl
theorem fi41_2 : fieldI Try.prog 41 2 = some (2, 1, false) := by kernel_rfl
theorem fi41_3 : fieldI Try.prog 41 3 = some (3, 1, false) := by kernel_rfl
theorem fi41_4 : fieldI Try.prog 41 4 = some (4, 1, false) := by kernel_rfl
theorem ty42 : tyI Try.prog 42 = some ⟨true, 5, [(.int .i64 0), (.int .i64 0), (.int .i64 0), (.int .i64 0), (.int .i64 0)], 40⟩ := by kernel_rfl
theorem el42 : elemI Try.prog 42 = none := by kernel_rfl
theorem eq42 : eqTy Try.prog 42 = some (.st [(0, 1, .it), (1, 1, .it), (2, 1, .it), (3, 1, .it), (4, 1, .it)]) := by kernel_rfl
theorem pl42 : placesI Try.prog 42 = some [(0, 1), (1, 1), (2, 1), (3, 1), (4, 1)] := by kernel_rfl
theorem fi42_0 : fieldI Try.prog 42 0 = some (0, 1, false) := by kernel_rfl
theorem fi42_1 : fieldI Try.prog 42 1 = some (1, 1, false) := by kernel_rfl
theorem fi42_2 : fieldI Try.prog 42 2 = some (2, 1, false) := by kernel_rfl
theorem fi42_3 : fieldI Try.prog 42 3 = some (3, 1, false) := by kernel_rfl
theorem fi42_4 : fieldI Try.prog 42 4 = some (4, 1, false) := by kernel_rfl
theorem el43 : elemI Try.prog 43 = none := by kernel_rfl
theorem ty44 : tyI Try.prog 44 = some ⟨false, 1, [.nilFunc], 8⟩ := by kernel_rfl
theorem el44 : elemI Try.prog 44 = none := by kernel_rfl
theorem ty45 : tyI Try.prog 45 = some ⟨false, 1, [.nilFunc], 8⟩ := by kernel_rfl
theorem el45 : elemI Try.prog 45 = none := by kernel_rfl
theorem ty46 : tyI Try.prog 46 = some ⟨false, 1, [(.slice none 0 0)], 24⟩ := by kernel_rfl
theorem el46 : elemI Try.prog 46 = some 127 := by kernel_rfl
theorem ty47 : tyI Try.prog 47 = some ⟨false, 1, [(.slice none 0 0)], 24⟩ := by kernel_rfl
theorem el47 : elemI Try.prog 47 = some 98 := by kernel_rfl
theorem ty48 : tyI Try.prog 48 = some ⟨true, 3, [(.slice none 0 0), (.slice none 0 0), (.slice none 0 0)], 72⟩ := by kernel_rfl
theorem el48 : elemI Try.prog 48 = none := by kernel_rfl
theorem pl48 : placesI Try.prog 48 = some [(0, 1), (1, 1), (2, 1)] := by kernel_rfl
theorem fi48_0 : fieldI Try.prog 48 0 = some (0, 1, false) := by kernel_rfl
theorem fi48_1 : fieldI Try.prog 48 1 = some (1, 1, false) := by kernel_rfl
theorem fi48_2 : fieldI Try.prog 48 2 = some (2, 1, false) := by kernel_rfl
theorem ty49 : tyI Try.prog 49 = some ⟨true, 3, [(.slice none 0 0), (.slice none 0 0), (.slice none 0 0)], 72⟩ := by kernel_rfl
theorem el49 : elemI Try.prog 49 = none := by kernel_rfl
theorem pl49 : placesI Try.prog 49 = some [(0, 1), (1, 1), (2, 1)] := by kernel_rfl
theorem fi49_0 : fieldI Try.prog 49 0 = some (0, 1, false) := by kernel_rfl
theorem fi49_1 : fieldI Try.prog 49 1 = some (1, 1, false) := by kernel_rfl
theorem fi49_2 : fieldI Try.prog 49 2 = some (2, 1, false) := by kernel_rfl
theorem ty50 : tyI Try.prog 50 = some ⟨false, 1, [(.int .u16 0)], 2⟩ := by kernel_rfl
theorem el50 : elemI Try.prog 50 = none := by kernel_rfl
theorem it50 : intI Try.prog 50 = some .u16 := by kernel_rfl
theorem ty51 : tyI Try.prog 51 = some ⟨false, 1, [(.slice none 0 0)], 24⟩ := by kernel_rfl
theorem el51 : elemI Try.prog 51 = some 89 := by kernel_rfl
theorem ty52 : tyI Try.prog 52 = some ⟨false, 1, [(.slice none 0 0)], 24⟩ := by kernel_rfl
theorem el52 : elemI Try.prog 52 = some 129 := by kernel_rfl
theorem ty53 : tyI Try.prog 53 = some ⟨true, 2, [(.slice none 0 0), (.slice none 0 0)], 48⟩ := by kernel_rfl
theorem el53 : elemI Try.prog 53 = none := by kernel_rfl
theorem pl53 : placesI Try.prog 53 = some [(0, 1), (1, 1)] := by kernel_rfl
theorem fi53_0 : fieldI Try.prog 53 0 = some (0, 1, false) := by kernel_rfl
theorem fi53_1 : fieldI Try.prog 53 1 = some (1, 1, false) := by kernel_rfl
theorem ty54 : tyI Try.prog 54 = some ⟨true, 2, [(.slice none 0 0), (.slice none 0 0)], 48⟩ := by kernel_rfl
theorem el54 : elemI Try.prog 54 = none := by kernel_rfl
theorem pl54 : placesI Try.prog 54 = some [(0, 1), (1, 1)] := by kernel_rfl
theorem fi54_0 : fieldI Try.prog 54 0 = some (0, 1, false) := by kernel_rfl
theorem fi54_1 : fieldI Try.prog 54 1 = some (1, 1, false) := by kernel_rfl
theorem ty55 : tyI Try.prog 55 = some ⟨false, 1, [.nilFunc], 8⟩ := by kernel_rfl
theorem el55 : elemI Try.prog 55 = none := by kernel_rfl
theorem ty56 : tyI Try.prog 56 = some ⟨true, 2, [(.slice none 0 0), (.slice none 0 0)], 48⟩ := by kernel_rfl
theorem el56 : elemI Try.prog 56 = none := by kernel_rfl
theorem pl56 : placesI Try.prog 56 = some [(0, 1), (1, 1)] := by kernel_rfl
theorem fi56_0 : fieldI Try.prog 56 0 = some (0, 1, false) := by kernel_rfl
theorem fi56_1 : fieldI Try.prog 56 1 = some (1, 1, false) := by kernel_rfl
theorem ty57 : tyI Try.prog 57 = some ⟨true, 2, [(.slice none 0 0), (.slice none 0 0)], 48⟩ := by kernel_rfl
theorem el57 : elemI Try.prog 57 = none := by kernel_rfl
theorem pl57 : placesI Try.prog 57 = some [(0, 1), (1, 1)] := by kernel_rfl
theorem fi57_0 : fieldI Try.prog 57 0 = some (0, 1, false) := by kernel_rfl
theorem fi57_1 : fieldI Try.prog 57 1 = some (1, 1, false) := by kernel_rfl
theorem ty58 : tyI Try.prog 58 = some ⟨false, 1, [.nilFunc], 8⟩ := by kernel_rfl
theorem el58 : elemI Try.prog 58 = none := by kernel_rfl
theorem ty59 : tyI Try.prog 59 = some ⟨true, 2, [(.int .i64 0), (.int .i64 0)], 16⟩ := by kernel_rfl
theorem el59 : elemI Try.prog 59 = none := by kernel_rfl
theorem eq59 : eqTy Try.prog 59 = some (.st [(0, 1, .it), (1, 1, .it)]) := by kernel_rfl
theorem pl59 : placesI Try.prog 59 = some [(0, 1), (1, 1)] := by kernel_rfl
theorem fi59_0 : fieldI Try.prog 59 0 = some (0, 1, false) := by kernel_rfl
theorem fi59_1 : fieldI Try.prog 59 1 = some (1, 1, false) := by kernel_rfl
theorem ty60 : tyI Try.prog 60 = some ⟨true, 2, [(.int .i64 0), (.int .i64 0)], 16⟩ := by kernel_rfl
theorem el60 : elemI Try.prog 60 = none := by kernel_rfl
theorem eq60 : eqTy Try.prog 60 = some (.st [(0, 1, .it), (1, 1, .it)]) := by kernel_rfl
theorem pl60 : placesI Try.prog 60 = some [(0, 1), (1, 1)] := by kernel_rfl
theorem fi60_0 : fieldI Try.prog 60 0 = some (0, 1, false) := by kernel_rfl
theorem fi60_1 : fieldI Try.prog 60 1 = some (1, 1, false) := by kernel_rfl
theorem el61 : elemI Try.prog 61 = none := by kernel_rfl
theorem ty62 : tyI Try.prog 62 = some ⟨false, 1, [.nilFunc], 8⟩ := by kernel_rfl
theorem el62 : elemI Try.prog 62 = none := by kernel_rfl
theorem ty63 : tyI Try.prog 63 = some ⟨false, 1, [.nilFunc], 8⟩ := by kernel_rfl
theorem el63 : elemI Try.prog 63 = none := by kernel_rfl
theorem ty64 : tyI Try.prog 64 = some ⟨false, 1, [.nilFunc], 8⟩ := by kernel_rfl
theorem el64 : elemI Try.prog 64 = none := by kernel_rfl
theorem el65 : elemI Try.prog 65 = none := by kernel_rfl
theorem ty66 : tyI Try.prog 66 = some ⟨false, 1, [.nilFunc], 8⟩ := by kernel_rfl
theorem el66 : elemI Try.prog 66 = none := by kernel_rfl
theorem ty67 : tyI Try.prog 67 = some ⟨false, 1, [.nilFunc], 8⟩ := by kernel_rfl
theorem el67 : elemI Try.prog 67 = none := by kernel_rfl
theorem ty68 : tyI Try.prog 68 = some ⟨true, 6, [(.int .i64 0), (.int .i64 0), (.int .i64 0), (.int .i64 0), (.int .i64 0), (.int .i64 0)], 48⟩ := by kernel_rfl
theorem el68 : elemI Try.prog 68 = none := by kernel_rfl
theorem eq68 : eqTy Try.prog 68 = some (.st [(0, 2, (.st [(0, 1, .it), (1, 1, .it)])), (2, 2, (.st [(0, 1, .it), (1, 1, .it)])), (4, 1, .it), (5, 1, .it)]) := by kernel_rfl
theorem pl68 : placesI Try.prog 68 = some [(0, 2), (2, 2), (4, 1), (5, 1)] := by kernel_rfl
theorem fi68_0 : fieldI Try.prog 68 0 = some (0, 2, true) := by kernel_rfl
theorem fi68_1 : fieldI Try.prog 68 1 = some (2, 2, true) := by kernel_rfl
theorem fi68_2 : fieldI Try.prog 68 2 = some (4, 1, false) := by kernel_rfl
theorem fi68_3 : fieldI Try.prog 68 3 = some (5, 1, false) := by kernel_rfl
theorem ty69 : tyI Try.prog 69 = some ⟨true, 6, [(.int .i64 0), (.int .i64 0), (.int .i64 0), (.int .i64 0), (.int .i64 0), (.int .i64 0)], 48⟩ := by kernel_rfl
theorem el69 : elemI Try.prog 69 = none := by kernel_rfl
theorem eq69 : eqTy Try.prog 69 = some (.st [(0, 2, (.st [(0, 1, .it), (1, 1, .it)])), (2, 2, (.st [(0, 1, .it), (1, 1, .it)])), (4, 1, .it), (5, 1, .it)]) := by kernel_rfl
theorem pl69 : placesI Try.prog 69 = some [(0, 2), (2, 2), (4, 1), (5, 1)] := by kernel_rfl
theorem fi69_0 : fieldI Try.prog 69 0 = some (0, 2, true) := by kernel_rfl
theorem fi69_1 : fieldI Try.prog 69 1 = some (2, 2, true) := by kernel_rfl
theorem fi69_2 : fieldI Try.prog 69 2 = some (4, 1, false) := by kernel_rfl
theorem fi69_3 : fieldI Try.prog 69 3 = some (5, 1, false) := by kernel_rfl
theorem el70 : elemI Try.prog 70 = none := by kernel_rfl
theorem ty71 : tyI Try.prog 71 = some ⟨false, 1, [.nilFunc], 8⟩ := by kernel_rfl
theorem el71 : elemI Try.prog 71 = none := by kernel_rfl
theorem ty72 : tyI Try.prog 72 = some ⟨false, 1, [.nilFunc], 8⟩ := by kernel_rfl
theorem el72 : elemI Try.prog 72 = none := by kernel_rfl
theorem ty73 : tyI Try.prog 73 = some ⟨false, 1, [.nilFunc], 8⟩ := by kernel_rfl
theorem el73 : elemI Try.prog 73 = none := by kernel_rfl
theorem ty74 : tyI Try.prog 74 = some ⟨true, 5, [(.int .u8 0), (.int .u8 0), (.int .u8 0), (.int .u8 0), (.slice none 0 0)], 32⟩ := by kernel_rfl
theorem el74 : elemI Try.prog 74 = none := by kernel_rfl
theorem pl74 : placesI Try.prog 74 = some [(0, 2), (2, 2), (4, 1)] := by kernel_rfl
theorem fi74_0 : fieldI Try.prog 74 0 = some (0, 2, true) := by kernel_rfl
theorem fi74_1 : fieldI Try.prog 74 1 = some (2, 2, true) := by kernel_rfl
theorem fi74_2 : fieldI Try.prog 74 2 = some (4, 1, false) := by kernel_rfl
theorem ty75 : tyI Try.prog 75 = some ⟨true, 5, [(.int .u8 0), (.int .u8 0), (.int .u8 0), (.int .u8 0), (.slice none 0 0)], 32⟩ := by kernel_rfl
theorem el75 : elemI Try.prog 75 = none := by kernel_rfl
theorem pl75 : placesI Try.prog 75 = some [(0, 2), (2, 2), (4, 1)] := by kernel_rfl
theorem fi75_0 : fieldI Try.prog 75 0 = some (0, 2, true) := by kernel_rfl
theorem fi75_1 : fieldI Try.prog 75 1 = some (2, 2, true) := by kernel_rfl
theorem fi75_2 : fieldI Try.prog 75 2 = some (4, 1, false) := by kernel_rfl
theorem ty76 : tyI Try.prog 76 = some ⟨true, 2, [(.int .i64 0), (.int .i64 0)], 16⟩ := by kernel_rfl
theorem el76 : elemI Try.prog 76 = none := by kernel_rfl
theorem eq76 : eqTy Try.prog 76 = some (.st [(0, 1, .it), (1, 1, .it)]) := by kernel_rfl
theorem pl76 : placesI Try.prog 76 = some [(0, 1), (1, 1)] := by kernel_rfl
theorem fi76_0 : fieldI Try.prog 76 0 = some (0, 1, false) := by kernel_rfl
theorem fi76_1 : fieldI Try.prog 76 1 = some (1, 1, false) := by kernel_rfl
theorem ty77 : tyI Try.prog 77 = some ⟨true, 2, [(.int .i64 0), (.int .i64 0)], 16⟩ := by kernel_rfl
theorem el77 : elemI Try.prog 77 = none := by kernel_rfl
theorem eq77 : eqTy Try.prog 77 = some (.st [(0, 1, .it), (1, 1, .it)]) := by kernel_rfl
theorem pl77 : placesI Try.prog 77 = some [(0, 1), (1, 1)] := by kernel_rfl
theorem fi77_0 : fieldI Try.prog 77 0 = some (0, 1, false) := by kernel_rfl
theorem fi77_1 : fieldI Try.prog 77 1 = some (1, 1, false) := by kernel_rfl
theorem ty78 : tyI Try.prog 78 = some ⟨false, 1, [(.slice none 0 0)], 24⟩ := by kernel_rfl
theorem el78 : elemI Try.prog 78 = some 148 := by kernel_rfl
theorem el79 : elemI Try.prog 79 = none := by kernel_rfl
theorem ty80 : tyI Try.prog 80 = some ⟨false, 1, [.nilFunc], 8⟩ := by kernel_rfl
theorem el80 : elemI Try.prog 80 = none := by kernel_rfl
theorem ty81 : tyI Try.prog 81 = some ⟨false, 1, [(.slice none 0 0)], 24⟩ := by kernel_rfl
theorem el81 : elemI Try.prog 81 = some 60 := by kernel_rfl
theorem el82 : elemI Try.prog 82 = none := by kernel_rfl
theorem ty83 : tyI Try.prog 83 = some ⟨false, 1, [.nilFunc], 8⟩ := by kernel_rfl
theorem el83 : elemI Try.prog 83 = none := by kernel_rfl
theorem ty84 : tyI Try.prog 84 = some ⟨false, 1, [.nilFunc], 8⟩ := by kernel_rfl
theorem el84 : elemI Try.prog 84 = none := by kernel_rfl
theorem ty85 : tyI Try.prog 85 = some ⟨false, 1, [.nilFunc], 8⟩ := by kernel_rfl
theorem el85 : elemI Try.prog 85 = none := by kernel_rfl
theorem ty86 : tyI Try.prog 86 = some ⟨false, 1, [.nilFunc], 8⟩ := by kernel_rfl
theorem el86 : elemI Try.prog 86 = none := by kernel_rfl
theorem ty87 : tyI Try.prog 87 = some ⟨false, 1, [(.int .i64 0)], 8⟩ := by kernel_rfl
theorem el87 : elemI Try.prog 87 = none := by kernel_rfl
theorem it87 : intI Try.prog 87 = some .i64 := by kernel_rfl
theorem ty88 : tyI Try.prog 88 = some ⟨true, 8, [(.int .i64 0), (.int .i64 0), (.int .i64 0), (.int .i64 0), (.int .i64 0), (.int .i64 0), (.int .i64 0), (.int .i64 0)], 64⟩ := by kernel_rfl
theorem el88 : elemI Try.prog 88 = none := by kernel_rfl
theorem eq88 : eqTy Try.prog 88 = some (.st [(0, 1, .it), (1, 1, .it), (2, 2, (.st [(0, 1, .it), (1, 1, .it)])), (4, 2, (.st [(0, 1, .it), (1, 1, .it)])), (6, 1, .it), (7, 1, .it)]) := by kernel_rfl
theorem pl88 : placesI Try.prog 88 = some [(0, 1), (1, 1), (2, 2), (4, 2), (6, 1), (7, 1)] := by kernel_rfl
theorem fi88_0 : fieldI Try.prog 88 0 = some (0, 1, false) := by kernel_rfl
theorem fi88_1 : fieldI Try.prog 88 1 = some (1, 1, false) := by kernel_rfl
theorem fi88_2 : fieldI Try.prog 88 2 = some (2, 2, true) := by kernel_rfl
theorem fi88_3 : fieldI Try.prog 88 3 = some (4, 2, true) := by kernel_rfl
theorem fi88_4 : fieldI Try.prog 88 4 = some (6, 1, false) := by kernel_rfl
theorem fi88_5 : fieldI Try.prog 88 5 = some (7, 1, false) := by kernel_rfl
theorem ty89 : tyI Try.prog 89 = some ⟨true, 8, [(.int .i64 0), (.int .i64 0), (.int .i64 0), (.int .i64 0), (.int .i64 0), (.int .i64 0), (.int .i64 0), (.int .i64 0)], 64⟩ := by kernel_rfl
theorem el89 : elemI Try.prog 89 = none := by kernel_rfl
theorem eq89 : eqTy Try.prog 89 = some (.st [(0, 1, .it), (1, 1, .it), (2, 2, (.st [(0, 1, .it), (1, 1, .it)])), (4, 2, (.st [(0, 1, .it), (1, 1, .it)])), (6, 1, .it), (7, 1, .it)]) := by kernel_rfl
theorem pl89 : placesI Try.prog 89 = some [(0, 1), (1, 1), (2, 2), (4, 2), (6, 1), (7, 1)] := by kernel_rfl
theorem fi89_0 : fieldI Try.prog 89 0 = some (0, 1, false) := by kernel_rfl
theorem fi89_1 : fieldI Try.prog 89 1 = some (1, 1, false) := by kernel_rfl
theorem fi89_2 : fieldI Try.prog 89 2 = some (2, 2, true) := by kernel_rfl
theorem fi89_3 : fieldI Try.prog 89 3 = some (4, 2, true) := by kernel_rfl
theorem fi89_4 : fieldI Try.prog 89 4 = some (6, 1, false) := by kernel_rfl
theorem fi89_5 : fieldI Try.prog 89 5 = some (7, 1, false) := by kernel_rfl
theorem ty90 : tyI Try.prog 90 = some ⟨true, 2, [(.int .i64 0), (.int .i64 0)], 16⟩ := by kernel_rfl
theorem el90 : elemI Try.prog 90 = none := by kernel_rfl
theorem eq90 : eqTy Try.prog 90 = some (.st [(0, 1, .it), (1, 1, .it)]) := by kernel_rfl
theorem pl90 : placesI Try.prog 90 = some [(0, 1), (1, 1)] := by kernel_rfl
theorem fi90_0 : fieldI Try.prog 90 0 = some (0, 1, false) := by kernel_rfl
theorem fi90_1 : fieldI Try.prog 90 1 = some (1, 1, false) := by kernel_rfl
theorem ty91 : tyI Try.prog 91 = some ⟨true, 2, [(.int .i64 0), (.int .i64 0)], 16⟩ := by kernel_rfl
theorem el91 : elemI Try.prog 91 = none := by kernel_rfl
theorem eq91 : eqTy Try.prog 91 = some (.st [(0, 1, .it), (1, 1, .it)]) := by kernel_rfl
theorem pl91 : placesI Try.prog 91 = some [(0, 1), (1, 1)] := by kernel_rfl
theorem fi91_0 : fieldI Try.prog 91 0 = some (0, 1, false) := by kernel_rfl
theorem fi91_1 : fieldI Try.prog 91 1 = some (1, 1, false) := by kernel_rfl
theorem el92 : elemI Try.prog 92 = none := by kernel_rfl
theorem ty93 : tyI Try.prog 93 = some ⟨false, 1, [.nilFunc], 8⟩ := by kernel_rfl
theorem el93 : elemI Try.prog 93 = none := by kernel_rfl
theorem ty94 : tyI Try.prog 94 = some ⟨false, 1, [.nilFunc], 8⟩ := by kernel_rfl
theorem el94 : elemI Try.prog 94 = none := by kernel_rfl
theorem ty95 : tyI Try.prog 95 = some ⟨false, 1, [.nilFunc], 8⟩ := by kernel_rfl
theorem el95 : elemI Try.prog 95 = none := by kernel_rfl
theorem ty96 : tyI Try.prog 96 = some ⟨false, 1, [.nilFunc], 8⟩ := by kernel_rfl
theorem el96 : elemI Try.prog 96 = none := by kernel_rfl
theorem ty97 : tyI Try.prog 97 = some ⟨false, 1, [.nilFunc], 8⟩ := by kernel_rfl
theorem el97 : elemI Try.prog 97 = none := by kernel_rfl
theorem ty98 : tyI Try.prog 98 = some ⟨true, 3, [(.int .u8 0), (.int .u8 0), (.int .u8 0)], 3⟩ := by kernel_rfl
theorem el98 : elemI Try.prog 98 = none := by kernel_rfl
theorem ar98 : arrI Try.prog 98 = some (3, 5) := by kernel_rfl
theorem pl98 : placesI Try.prog 98 = some [(0, 1), (1, 1), (2, 1)] := by kernel_rfl
theorem ty99 : tyI Try.prog 99 = some ⟨false, 1, [(.slice none 0 0)], 24⟩ := by kernel_rfl
theorem el99 : elemI Try.prog 99 = some 24 := by kernel_rfl
theorem ty100 : tyI Try.prog 100 = some ⟨true, 3, [(.int .i64 0), (.int .i64 0), (.int .i64 0)], 24⟩ := by kernel_rfl
theorem el100 : elemI Try.prog 100 = none := by kernel_rfl
theorem eq100 : eqTy Try.prog 100 = some (.st [(0, 1, .it), (1, 1, .it), (2, 1, .it)]) := by kernel_rfl
theorem pl100 : placesI Try.prog 100 = some [(0, 1), (1, 1), (2, 1)] := by kernel_rfl
theorem fi100_0 : fieldI Try.prog 100 0 = some (0, 1, false) := by kernel_rfl
theorem fi100_1 : fieldI Try.prog 100 1 = some (1, 1, false) := by kernel_rfl
theorem fi100_2 : fieldI Try.prog 100 2 = some (2, 1, false) := by kernel_rfl
theorem ty101 : tyI Try.prog 101 = some ⟨true, 3, [(.int .i64 0), (.int .i64 0), (.int .i64 0)], 24⟩ := by kernel_rfl
theorem el101 : elemI Try.prog 101 = none := by kernel_rfl
theorem eq101 : eqTy Try.prog 101 = some (.st [(0, 1, .it), (1, 1, .it), (2, 1, .it)]) := by kernel_rfl
theorem pl101 : placesI Try.prog 101 = some [(0, 1), (1, 1), (2, 1)] := by kernel_rfl
theorem fi101_0 : fieldI Try.prog 101 0 = some (0, 1, false) := by kernel_rfl
theorem fi101_1 : fieldI Try.prog 101 1 = some (1, 1, false) := by kernel_rfl
theorem fi101_2 : fieldI Try.prog 101 2 = some (2, 1, false) := by kernel_rfl
theorem ty102 : tyI Try.prog 102 = some ⟨true, 4, [(.int .i64 0), (.int .i64 0), (.int .i64 0), (.int .i64 0)], 32⟩ := by kernel_rfl
theorem el102 : elemI Try.prog 102 = none := by kernel_rfl
theorem eq102 : eqTy Try.prog 102 = some (.st [(0, 2, (.st [(0, 1, .it), (1, 1, .it)])), (2, 2, (.st [(0, 1, .it), (1, 1, .it)]))]) := by kernel_rfl
theorem pl102 : placesI Try.prog 102 = some [(0, 2), (2, 2)] := by kernel_rfl
theorem fi102_0 : fieldI Try.prog 102 0 = some (0, 2, true) := by kernel_rfl
theorem fi102_1 : fieldI Try.prog 102 1 = some (2, 2, true) := by kernel_rfl
theorem ty103 : tyI Try.prog 103 = some ⟨true, 4, [(.int .i64 0), (.int .i64 0), (.int .i64 0), (.int .i64 0)], 32⟩ := by kernel_rfl
theorem el103 : elemI Try.prog 103 = none := by kernel_rfl
theorem eq103 : eqTy Try.prog 103 = some (.st [(0, 2, (.st [(0, 1, .it), (1, 1, .it)])), (2, 2, (.st [(0, 1, .it), (1, 1, .it)]))]) := by kernel_rfl
theorem pl103 : placesI Try.prog 103 = some [(0, 2), (2, 2)] := by kernel_rfl
theorem fi103_0 : fieldI Try.prog 103 0 = some (0, 2, true) := by kernel_rfl
theorem fi103_1 : fieldI Try.prog 103 1 = some (2, 2, true) := by kernel_rfl
theorem ty104 : tyI Try.prog 104 = some ⟨false, 1, [.nilFunc], 8⟩ := by kernel_rfl
theorem el104 : elemI Try.prog 104 = none := by kernel_rfl
theorem ty105 : tyI Try.prog 105 = some ⟨false, 1, [(.slice none 0 0)], 24⟩ := by kernel_rfl
theorem el105 : elemI Try.prog 105 = some 103 := by kernel_rfl
theorem el106 : elemI Try.prog 106 = none := by kernel_rfl
theorem ty107 : tyI Try.prog 107 = some ⟨false, 1, [.nilFunc], 8⟩ := by kernel_rfl
theorem el107 : elemI Try.prog 107 = none := by kernel_rfl
theorem ty108 : tyI Try.prog 108 = some ⟨false, 1, [.nilFunc], 8⟩ := by kernel_rfl
theorem el108 : elemI Try.prog 108 = none := by kernel_rfl
theorem ty109 : tyI Try.prog 109 = some ⟨true, 2, [(.int .i64 0), (.int .i64 0)], 16⟩ := by kernel_rfl
theorem el109 : elemI Try.prog 109 = none := by kernel_rfl
theorem eq109 : eqTy Try.prog 109 = some (.st [(0, 1, .it), (1, 1, .it)]) := by kernel_rfl
theorem pl109 : placesI Try.prog 109 = some [(0, 1), (1, 1)] := by kernel_rfl
theorem fi109_0 : fieldI Try.prog 109 0 = some (0, 1, false) := by kernel_rfl
theorem fi109_1 : fieldI Try.prog 109 1 = some (1, 1, false) := by kernel_rfl
theorem ty110 : tyI Try.prog 110 = some ⟨true, 2, [(.int .i64 0), (.int .i64 0)], 16⟩ := by kernel_rfl
theorem el110 : elemI Try.prog 110 = none := by kernel_rfl
theorem eq110 : eqTy Try.prog 110 = some (.st [(0, 1, .it), (1, 1, .it)]) := by kernel_rfl
theorem pl110 : placesI Try.prog 110 = some [(0, 1), (1, 1)] := by kernel_rfl
theorem fi110_0 : fieldI Try.prog 110 0 = some (0, 1, false) := by kernel_rfl
theorem fi110_1 : fieldI Try.prog 110 1 = some (1, 1, false) := by kernel_rfl
theorem ty111 : tyI Try.prog 111 = some ⟨false, 1, [.nilFunc], 8⟩ := by kernel_rfl
theorem el111 : elemI Try.prog 111 = none := by kernel_rfl
theorem ty112 : tyI Try.prog 112 = some ⟨false, 1, [.nilFunc], 8⟩ := by kernel_rfl
theorem el112 : elemI Try.prog 112 = none := by kernel_rfl
theorem ty113 : tyI Try.prog 113 = some ⟨false, 1, [(.int .i64 0)], 8⟩ := by kernel_rfl
theorem el113 : elemI Try.prog 113 = none := by kernel_rfl
theorem it113 : intI Try.prog 113 = some .i64 := by kernel_rfl
theorem ty114 : tyI Try.prog 114 = some ⟨true, 2, [(.int .i64 0), (.int .i64 0)], 16⟩ := by kernel_rfl
theorem el114 : elemI Try.prog 114 = none := by kernel_rfl
theorem eq114 : eqTy Try.prog 114 = some (.st [(0, 1, .it), (1, 1, .it)]) := by kernel_rfl
theorem pl114 : placesI Try.prog 114 = some [(0, 1), (1, 1)] := by kernel_rfl
theorem fi114_0 : fieldI Try.prog 114 0 = some (0, 1, false) := by kernel_rfl
theorem fi114_1 : fieldI Try.prog 114 1 = some (1, 1, false) := by kernel_rfl
theorem ty115 : tyI Try.prog 115 = some ⟨true, 2, [(.int .i64 0), (.int .i64 0)], 16⟩ := by kernel_rfl
theorem el115 : elemI Try.prog 115 = none := by kernel_rfl
theorem eq115 : eqTy Try.prog 115 = some (.st [(0, 1, .it), (1, 1, .it)]) := by kernel_rfl
theorem pl115 : placesI Try.prog 115 = some [(0, 1), (1, 1)] := by kernel_rfl
theorem fi115_0 : fieldI Try.prog 115 0 = some (0, 1, false) := by kernel_rfl
theorem fi115_1 : fieldI Try.prog 115 1 = some (1, 1, false) := by kernel_rfl
theorem ty116 : tyI Try.prog 116 = some ⟨true, 10, [(.int .i64 0), (.int .i64 0), (.int .i64 0), (.int .i64 0), (.int .i64 0), (.int .i64 0), (.int .i64 0), (.int .i64 0), (.int .i64 0), (.int .i64 0)], 80⟩ := by kernel_rfl
theorem el116 : elemI Try.prog 116 = none := by kernel_rfl
theorem eq116 : eqTy Try.prog 116 = some (.st [(0, 4, (.st [(0, 1, .it), (1, 1, .it), (2, 1, .it), (3, 1, .it)])), (4, 1, .it), (5, 1, .it), (6, 2, (.st [(0, 1, .it), (1, 1, .it)])), (8, 2, (.st [(0, 1, .it), (1, 1, .it)]))]) := by kernel_rfl
theorem pl116 : placesI Try.prog 116 = some [(0, 4), (4, 1), (5, 1), (6, 2), (8, 2)] := by kernel_rfl
theorem fi116_0 : fieldI Try.prog 116 0 = some (0, 4, true) := by kernel_rfl
theorem fi116_1 : fieldI Try.prog 116 1 = some (4, 1, false) := by kernel_rfl
theorem fi116_2 : fieldI Try.prog 116 2 = some (5, 1, false) := by kernel_rfl
theorem fi116_3 : fieldI Try.prog 116 3 = some (6, 2, true) := by kernel_rfl
theorem fi116_4 : fieldI Try.prog 116 4 = some (8, 2, true) := by kernel_rfl
theorem ty117 : tyI Try.prog 117 = some ⟨true, 10, [(.int .i64 0), (.int .i64 0), (.int .i64 0), (.int .i64 0), (.int .i64 0), (.int .i64 0), (.int .i64 0), (.int .i64 0), (.int .i64 0), (.int .i64 0)], 80⟩ := by kernel_rfl
theorem el117 : elemI Try.prog 117 = none := by kernel_rfl
theorem eq117 : eqTy Try.prog 117 = some (.st [(0, 4, (.st [(0, 1, .it), (1, 1, .it), (2, 1, .it), (3, 1, .it)])), (4, 1, .it), (5, 1, .it), (6, 2, (.st [(0, 1, .it), (1, 1, .it)])), (8, 2, (.st [(0, 1, .it), (1, 1, .it)]))]) := by kernel_rfl
theorem pl117 : placesI Try.prog 117 = some [(0, 4), (4, 1), (5, 1), (6, 2), (8, 2)] := by kernel_rfl
theorem fi117_0 : fieldI Try.prog 117 0 = some (0, 4, true) := by kernel_rfl
theorem fi117_1 : fieldI Try.prog 117 1 = some (4, 1, false) := by kernel_rfl
theorem fi117_2 : fieldI Try.prog 117 2 = some (5, 1, false) := by kernel_rfl
theorem fi117_3 : fieldI Try.prog 117 3 = some (6, 2, true) := by kernel_rfl
theorem fi117_4 : fieldI Try.prog 117 4 = some (8, 2, true) := by kernel_rfl
theorem ty118 : tyI Try.prog 118 = some ⟨false, 1, [.nilFunc], 8⟩ := by kernel_rfl
theorem el118 : elemI Try.prog 118 = none := by kernel_rfl
theorem ty119 : tyI Try.prog 119 = some ⟨false, 1, [.nilFunc], 8⟩ := by kernel_rfl
theorem el119 : elemI Try.prog 119 = none := by kernel_rfl
theorem ty120 : tyI Try.prog 120 = some ⟨true, 11, [(.int .i64 0), (.int .i64 0), (.int .i64 0), (.int .i64 0), (.int .i64 0), (.int .i64 0), (.int .i64 0), (.int .i64 0), (.int .i64 0), (.int .i64 0), (.slice none 0 0)], 104⟩ := by kernel_rfl
theorem el120 : elemI Try.prog 120 = none := by kernel_rfl
theorem pl120 : placesI Try.prog 120 = some [(0, 11)] := by kernel_rfl
theorem fi120_0 : fieldI Try.prog 120 0 = some (0, 11, true) := by kernel_rfl
theorem ty121 : tyI Try.prog 121 = some ⟨true, 11, [(.int .i64 0), (.int .i64 0), (.int .i64 0), (.int .i64 0), (.int .i64 0), (.int .i64 0), (.int .i64 0), (.int .i64 0), (.int .i64 0), (.int .i64 0), (.slice none 0 0)], 104⟩ := by kernel_rfl
theorem el121 : elemI Try.prog 121 = none := by kernel_rfl
theorem pl121 : placesI Try.prog 121 = some [(0, 11)] := by kernel_rfl
theorem fi121_0 : fieldI Try.prog 121 0 = some (0, 11, true) := by kernel_rfl
theorem el122 : elemI Try.prog 122 = none := by kernel_rfl
theorem ty123 : tyI Try.prog 123 = some ⟨false, 1, [.nilFunc], 8⟩ := by kernel_rfl
theorem el123 : elemI Try.prog 123 = none := by kernel_rfl
theorem ty124 : tyI Try.prog 124 = some ⟨false, 1, [.nilFunc], 8⟩ := by kernel_rfl
theorem el124 : elemI Try.prog 124 = none := by kernel_rfl
theorem ty125 : tyI Try.prog 125 = some ⟨false, 1, [.nilFunc], 8⟩ := by kernel_rfl
theorem el125 : elemI Try.prog 125 = none := by kernel_rfl
theorem ty126 : tyI Try.prog 126 = some ⟨false, 1, [.nilFunc], 8⟩ := by kernel_rfl
theorem el126 : elemI Try.prog 126 = none := by kernel_rfl
theorem ty127 : tyI Try.prog 127 = some ⟨true, 6, [(.int .u8 0), (.int .u8 0), (.int .u8 0), (.int .u8 0), (.int .u8 0), (.int .u8 0)], 6⟩ := by kernel_rfl
theorem el127 : elemI Try.prog 127 = none := by kernel_rfl
theorem ar127 : arrI Try.prog 127 = some (6, 5) := by kernel_rfl
theorem pl127 : placesI Try.prog 127 = some [(0, 1), (1, 1), (2, 1), (3, 1), (4, 1), (5, 1)] := by kernel_rfl
theorem ty128 : tyI Try.prog 128 = some ⟨true, 4, [(.int .i64 0), (.int .i64 0), (.int .i64 0), (.int .i64 0)], 32⟩ := by kernel_rfl
theorem el128 : elemI Try.prog 128 = none := by kernel_rfl
theorem eq128 : eqTy Try.prog 128 = some (.st [(0, 1, .it), (1, 1, .it), (2, 2, (.st [(0, 1, .it), (1, 1, .it)]))]) := by kernel_rfl
theorem pl128 : placesI Try.prog 128 = some [(0, 1), (1, 1), (2, 2)] := by kernel_rfl
theorem fi128_0 : fieldI Try.prog 128 0 = some (0, 1, false) := by kernel_rfl
theorem fi128_1 : fieldI Try.prog 128 1 = some (1, 1, false) := by kernel_rfl
theorem fi128_2 : fieldI Try.prog 128 2 = some (2, 2, true) := by kernel_rfl
theorem ty129 : tyI Try.prog 129 = some ⟨true, 4, [(.int .i64 0), (.int .i64 0), (.int .i64 0), (.int .i64 0)], 32⟩ := by kernel_rfl
theorem el129 : elemI Try.prog 129 = none := by kernel_rfl
theorem eq129 : eqTy Try.prog 129 = some (.st [(0, 1, .it), (1, 1, .it), (2, 2, (.st [(0, 1, .it), (1, 1, .it)]))]) := by kernel_rfl
theorem pl129 : placesI Try.prog 129 = some [(0, 1), (1, 1), (2, 2)] := by kernel_rfl
theorem fi129_0 : fieldI Try.prog 129 0 = some (0, 1, false) := by kernel_rfl
theorem fi129_1 : fieldI Try.prog 129 1 = some (1, 1, false) := by kernel_rfl
theorem fi129_2 : fieldI Try.prog 129 2 = some (2, 2, true) := by kernel_rfl
theorem ty130 : tyI Try.prog 130 = some ⟨true, 2, [(.slice none 0 0), (.slice none 0 0)], 48⟩ := by kernel_rfl
theorem el130 : elemI Try.prog 130 = none := by kernel_rfl
theorem ar130 : arrI Try.prog 130 = some (2, 32) := by kernel_rfl
theorem pl130 : placesI Try.prog 130 = some [(0, 1), (1, 1)] := by kernel_rfl
theorem ty131 : tyI Try.prog 131 = some ⟨true, 5, [(.slice none 0 0), (.slice none 0 0), (.slice none 0 0), (.slice none 0 0), (.int .i64 0)], 104⟩ := by kernel_rfl
theorem el131 : elemI Try.prog 131 = none := by kernel_rfl
theorem pl131 : placesI Try.prog 131 = some [(0, 2), (2, 2), (4, 1)] := by kernel_rfl
theorem fi131_0 : fieldI Try.prog 131 0 = some (0, 2, true) := by kernel_rfl
theorem fi131_1 : fieldI Try.prog 131 1 = some (2, 2, true) := by kernel_rfl
theorem fi131_2 : fieldI Try.prog 131 2 = some (4, 1, false) := by kernel_rfl
theorem ty132 : tyI Try.prog 132 = some ⟨true, 5, [(.slice none 0 0), (.slice none 0 0), (.slice none 0 0), (.slice none 0 0), (.int .i64 0)], 104⟩ := by kernel_rfl
theorem el132 : elemI Try.prog 132 = none := by kernel_rfl
theorem pl132 : placesI Try.prog 132 = some [(0, 2), (2, 2), (4, 1)] := by kernel_rfl
theorem fi132_0 : fieldI Try.prog 132 0 = some (0, 2, true) := by kernel_rfl
theorem fi132_1 : fieldI Try.prog 132 1 = some (2, 2, true) := by kernel_rfl
theorem fi132_2 : fieldI Try.prog 132 2 = some (4, 1, false) := by kernel_rfl
theorem el133 : elemI Try.prog 133 = none := by kernel_rfl
theorem ty134 : tyI Try.prog 134 = some ⟨false, 1, [.nilFunc], 8⟩ := by kernel_rfl
theorem el134 : elemI Try.prog 134 = none := by kernel_rfl
theorem el135 : elemI Try.prog 135 = none := by kernel_rfl
theorem ty136 : tyI Try.prog 136 = some ⟨false, 1, [.nilFunc], 8⟩ := by kernel_rfl
theorem el136 : elemI Try.prog 136 = none := by kernel_rfl
theorem ty137 : tyI Try.prog 137 = some ⟨false, 1, [.nilFunc], 8⟩ := by kernel_rfl
theorem el137 : elemI Try.prog 137 = none := by kernel_rfl
theorem ty138 : tyI Try.prog 138 = some ⟨false, 1, [.nilFunc], 8⟩ := by kernel_rfl
theorem el138 : elemI Try.prog 138 = none := by kernel_rfl
theorem ty139 : tyI Try.prog 139 = some ⟨false, 1, [.nilFunc], 8⟩ := by kernel_rfl
theorem el139 : elemI Try.prog 139 = none := by kernel_rfl
theorem ty140 : tyI Try.prog 140 = some ⟨false, 1, [.nilFunc], 8⟩ := by kernel_rfl
theorem el140 : elemI Try.prog 140 = none := by kernel_rfl
theorem ty141 : tyI Try.prog 141 = some ⟨false, 1, [.nilFunc], 8⟩ := by kernel_rfl
theorem el141 : elemI Try.prog 141 = none := by kernel_rfl
theorem ty142 : tyI Try.prog 142 = some ⟨true, 4, [(.int .i64 0), (.int .i64 0), (.int .i64 0), (.int .i64 0)], 32⟩ := by kernel_rfl
theorem el142 : elemI Try.prog 142 = none := by kernel_rfl
theorem eq142 : eqTy Try.prog 142 = some (.st [(0, 2, (.st [(0, 1, .it), (1, 1, .it)])), (2, 2, (.st [(0, 1, .it), (1, 1, .it)]))]) := by kernel_rfl
theorem pl142 : placesI Try.prog 142 = some [(0, 2), (2, 2)] := by kernel_rfl
theorem fi142_0 : fieldI Try.prog 142 0 = some (0, 2, true) := by kernel_rfl
theorem fi142_1 : fieldI Try.prog 142 1 = some (2, 2, true) := by kernel_rfl
theorem ty143 : tyI Try.prog 143 = some ⟨true, 4, [(.int .i64 0), (.int .i64 0), (.int .i64 0), (.int .i64 0)], 32⟩ := by kernel_rfl
theorem el143 : elemI Try.prog 143 = none := by kernel_rfl
theorem eq143 : eqTy Try.prog 143 = some (.st [(0, 2, (.st [(0, 1, .it), (1, 1, .it)])), (2, 2, (.st [(0, 1, .it), (1, 1, .it)]))]) := by kernel_rfl
theorem pl143 : placesI Try.prog 143 = some [(0, 2), (2, 2)] := by kernel_rfl
theorem fi143_0 : fieldI Try.prog 143 0 = some (0, 2, true) := by kernel_rfl
theorem fi143_1 : fieldI Try.prog 143 1 = some (2, 2, true) := by kernel_rfl
theorem ty144 : tyI Try.prog 144 = some ⟨true, 2, [(.int .i64 0), (.int .i64 0)], 16⟩ := by kernel_rfl
theorem el144 : elemI Try.prog 144 = none := by kernel_rfl
theorem eq144 : eqTy Try.prog 144 = some (.st [(0, 1, .it), (1, 1, .it)]) := by kernel_rfl
theorem pl144 : placesI Try.prog 144 = some [(0, 1), (1, 1)] := by kernel_rfl
theorem fi144_0 : fieldI Try.prog 144 0 = some (0, 1, false) := by kernel_rfl
theorem fi144_1 : fieldI Try.prog 144 1 = some (1, 1, false) := by kernel_rfl
theorem ty145 : tyI Try.prog 145 = some ⟨true, 2, [(.int .i64 0), (.int .i64 0)], 16⟩ := by kernel_rfl
theorem el145 : elemI Try.prog 145 = none := by kernel_rfl
theorem eq145 : eqTy Try.prog 145 = some (.st [(0, 1, .it), (1, 1, .it)]) := by kernel_rfl
theorem pl145 : placesI Try.prog 145 = some [(0, 1), (1, 1)] := by kernel_rfl
theorem fi145_0 : fieldI Try.prog 145 0 = some (0, 1, false) := by kernel_rfl
theorem fi145_1 : fieldI Try.prog 145 1 = some (1, 1, false) := by kernel_rfl
theorem ty146 : tyI Try.prog 146 = some ⟨false, 1, [(.slice none 0 0)], 24⟩ := by kernel_rfl
theorem el146 : elemI Try.prog 146 = some 145 := by kernel_rfl
theorem ty147 : tyI Try.prog 147 = some ⟨true, 3, [(.int .i64 0), (.int .i64 0), (.int .i64 0)], 24⟩ := by kernel_rfl
theorem el147 : elemI Try.prog 147 = none := by kernel_rfl
theorem eq147 : eqTy Try.prog 147 = some (.st [(0, 2, (.st [(0, 1, .it), (1, 1, .it)])), (2, 1, .it)]) := by kernel_rfl
theorem pl147 : placesI Try.prog 147 = some [(0, 2), (2, 1)] := by kernel_rfl
theorem fi147_0 : fieldI Try.prog 147 0 = some (0, 2, true) := by kernel_rfl
theorem fi147_1 : fieldI Try.prog 147 1 = some (2, 1, false) := by kernel_rfl
theorem ty148 : tyI Try.prog 148 = some ⟨true, 3, [(.int .i64 0), (.int .i64 0), (.int .i64 0)], 24⟩ := by kernel_rfl
theorem el148 : elemI Try.prog 148 = none := by kernel_rfl
theorem eq148 : eqTy Try.prog 148 = some (.st [(0, 2, (.st [(0, 1, .it), (1, 1, .it)])), (2, 1, .it)]) := by kernel_rfl
theorem pl148 : placesI Try.prog 148 = some [(0, 2), (2, 1)] := by kernel_rfl
theorem fi148_0 : fieldI Try.prog 148 0 = some (0, 2, true) := by kernel_rfl
theorem fi148_1 : fieldI Try.prog 148 1 = some (2, 1, false) := by kernel_rfl
theorem ty149 : tyI Try.prog 149 = some ⟨false, 1, [.nilFunc], 8⟩ := by kernel_rfl
theorem el149 : elemI Try.prog 149 = none := by kernel_rfl
theorem ty150 : tyI Try.prog 150 = some ⟨false, 1, [.nilFunc], 8⟩ := by kernel_rfl
theorem el150 : elemI Try.prog 150 = none := by kernel_rfl
theorem ty151 : tyI Try.prog 151 = some ⟨true, 2, [(.int .i64 0), (.int .i64 0)], 16⟩ := by kernel_rfl
theorem el151 : elemI Try.prog 151 = none := by kernel_rfl
theorem eq151 : eqTy Try.prog 151 = some (.st [(0, 2, (.st [(0, 1, .it), (1, 1, .it)]))]) := by kernel_rfl
theorem pl151 : placesI Try.prog 151 = some [(0, 2)] := by kernel_rfl
theorem fi151_0 : fieldI Try.prog 151 0 = some (0, 2, true) := by kernel_rfl
theorem ty152 : tyI Try.prog 152 = some ⟨true, 2, [(.int .i64 0), (.int .i64 0)], 16⟩ := by kernel_rfl
theorem el152 : elemI Try.prog 152 = none := by kernel_rfl
theorem eq152 : eqTy Try.prog 152 = some (.st [(0, 2, (.st [(0, 1, .it), (1, 1, .it)]))]) := by kernel_rfl
theorem pl152 : placesI Try.prog 152 = some [(0, 2)] := by kernel_rfl
theorem fi152_0 : fieldI Try.prog 152 0 = some (0, 2, true) := by kernel_rfl
theorem ty153 : tyI Try.prog 153 = some ⟨false, 1, [.nilFunc], 8⟩ := by kernel_rfl
theorem el153 : elemI Try.prog 153 = none := by kernel_rfl
theorem ty154 : tyI Try.prog 154 = some ⟨false, 1, [.nilFunc], 8⟩ := by kernel_rfl
theorem el154 : elemI Try.prog 154 = none := by kernel_rfl
theorem ty155 : tyI Try.prog 155 = some ⟨false, 1, [.nilFunc], 8⟩ := by kernel_rfl
theorem el155 : elemI Try.prog 155 = none := by kernel_rfl
theorem ty156 : tyI Try.prog 156 = some ⟨false, 1, [.nilFunc], 8⟩ := by kernel_rfl
theorem el156 : elemI Try.prog 156 = none := by kernel_rfl
theorem ty157 : tyI Try.prog 157 = some ⟨false, 1, [.nilFunc], 8⟩ := by kernel_rfl
theorem el157 : elemI Try.prog 157 = none := by kernel_rfl
theorem ty158 : tyI Try.prog 158 = some ⟨false, 1, [.nilFunc], 8⟩ := by kernel_rfl
theorem el158 : elemI Try.prog 158 = none := by kernel_rfl
theorem ty159 : tyI Try.prog 159 = some ⟨false, 1, [.nilFunc], 8⟩ := by kernel_rfl
theorem el159 : elemI Try.prog 159 = none := by kernel_rfl
theorem ty160 : tyI Try.prog 160 = some ⟨false, 1, [.nilFunc], 8⟩ := by kernel_rfl
theorem el160 : elemI Try.prog 160 = none := by kernel_rfl
theorem ty161 : tyI Try.prog 161 = some ⟨true, 3, [(.int .i64 0), (.int .i64 0), (.int .i64 0)], 24⟩ := by kernel_rfl
theorem el161 : elemI Try.prog 161 = none := by kernel_rfl
theorem eq161 : eqTy Try.prog 161 = some (.st [(0, 3, (.st [(0, 1, .it), (1, 1, .it), (2, 1, .it)]))]) := by kernel_rfl
theorem pl161 : placesI Try.prog 161 = some [(0, 3)] := by kernel_rfl
theorem fi161_0 : fieldI Try.prog 161 0 = some (0, 3, true) := by kernel_rfl
theorem ty162 : tyI Try.prog 162 = some ⟨true, 3, [(.int .i64 0), (.int .i64 0), (.int .i64 0)], 24⟩ := by kernel_rfl
theorem el162 : elemI Try.prog 162 = none := by kernel_rfl
theorem eq162 : eqTy Try.prog 162 = some (.st [(0, 3, (.st [(0, 1, .it), (1, 1, .it), (2, 1, .it)]))]) := by kernel_rfl
theorem pl162 : placesI Try.prog 162 = some [(0, 3)] := by kernel_rfl
theorem fi162_0 : fieldI Try.prog 162 0 = some (0, 3, true) := by kernel_rfl
theorem ty163 : tyI Try.prog 163 = some ⟨false, 1, [.nilFunc], 8⟩ := by kernel_rfl
theorem el163 : elemI Try.prog 163 = none := by kernel_rfl
theorem ty164 : tyI Try.prog 164 = some ⟨true, 2, [(.int .i64 0), (.slice none 0 0)], 32⟩ := by kernel_rfl
theorem el164 : elemI Try.prog 164 = none := by kernel_rfl
theorem pl164 : placesI Try.prog 164 = some [(0, 1), (1, 1)] := by kernel_rfl
theorem fi164_0 : fieldI Try.prog 164 0 = some (0, 1, false) := by kernel_rfl
theorem fi164_1 : fieldI Try.prog 164 1 = some (1, 1, false) := by kernel_rfl
theorem ty165 : tyI Try.prog 165 = some ⟨true, 2, [(.int .i64 0), (.slice none 0 0)], 32⟩ := by kernel_rfl
theorem el165 : elemI Try.prog 165 = none := by kernel_rfl
theorem pl165 : placesI Try.prog 165 = some [(0, 1), (1, 1)] := by kernel_rfl
theorem fi165_0 : fieldI Try.prog 165 0 = some (0, 1, false) := by kernel_rfl
theorem fi165_1 : fieldI Try.prog 165 1 = some (1, 1, false) := by kernel_rfl
theorem el166 : elemI Try.prog 166 = none := by kernel_rfl
theorem ty167 : tyI Try.prog 167 = some ⟨false, 1, [.nilFunc], 8⟩ := by kernel_rfl
theorem el167 : elemI Try.prog 167 = none := by kernel_rfl
theorem ty168 : tyI Try.prog 168 = some ⟨false, 1, [(.int .i64 0)], 8⟩ := by kernel_rfl
theorem el168 : elemI Try.prog 168 = none := by kernel_rfl
theorem it168 : intI Try.prog 168 = some .i64 := by kernel_rfl
theorem ty169 : tyI Try.prog 169 = some ⟨true, 3, [(.int .i64 0), (.int .i64 0), (.int .i64 0)], 24⟩ := by kernel_rfl
theorem el169 : elemI Try.prog 169 = none := by kernel_rfl
theorem eq169 : eqTy Try.prog 169 = some (.st [(0, 1, .it), (1, 1, .it), (2, 1, .it)]) := by kernel_rfl
theorem pl169 : placesI Try.prog 169 = some [(0, 1), (1, 1), (2, 1)] := by kernel_rfl
theorem fi169_0 : fieldI Try.prog 169 0 = some (0, 1, false) := by kernel_rfl
theorem fi169_1 : fieldI Try.prog 169 1 = some (1, 1, false) := by kernel_rfl
theorem fi169_2 : fieldI Try.prog 169 2 = some (2, 1, false) := by kernel_rfl
theorem ty170 : tyI Try.prog 170 = some ⟨true, 3, [(.int .i64 0), (.int .i64 0), (.int .i64 0)], 24⟩ := by kernel_rfl
theorem el170 : elemI Try.prog 170 = none := by kernel_rfl
theorem eq170 : eqTy Try.prog 170 = some (.st [(0, 1, .it), (1, 1, .it), (2, 1, .it)]) := by kernel_rfl
theorem pl170 : placesI Try.prog 170 = some [(0, 1), (1, 1), (2, 1)] := by kernel_rfl
theorem fi170_0 : fieldI Try.prog 170 0 = some (0, 1, false) := by kernel_rfl
theorem fi170_1 : fieldI Try.prog 170 1 = some (1, 1, false) := by kernel_rfl
theorem fi170_2 : fieldI Try.prog 170 2 = some (2, 1, false) := by kernel_rfl
theorem ty171 : tyI Try.prog 171 = some ⟨false, 1, [(.slice none 0 0)], 24⟩ := by kernel_rfl
theorem el171 : elemI Try.prog 171 = some 170 := by kernel_rfl
theorem el172 : elemI Try.prog 172 = none := by kernel_rfl
theorem ty173 : tyI Try.prog 173 = some ⟨false, 1, [.nilFunc], 8⟩ := by kernel_rfl
theorem el173 : elemI Try.prog 173 = none := by kernel_rfl
theorem ty174 : tyI Try.prog 174 = some ⟨false, 1, [.nilFunc], 8⟩ := by kernel_rfl
theorem el174 : elemI Try.prog 174 = none := by kernel_rfl
theorem ty175 : tyI Try.prog 175 = some ⟨false, 1, [.nilFunc], 8⟩ := by kernel_rfl
theorem el175 : elemI Try.prog 175 = none := by kernel_rfl
theorem ty176 : tyI Try.prog 176 = some ⟨false, 1, [.nilFunc], 8⟩ := by kernel_rfl
theorem el176 : elemI Try.prog 176 = none := by kernel_rfl
theorem ty177 : tyI Try.prog 177 = some ⟨false, 1, [.nilFunc], 8⟩ := by kernel_rfl
theorem el177 : elemI Try.prog 177 = none := by kernel_rfl
theorem ty178 : tyI Try.prog 178 = some ⟨false, 1, [.nilFunc], 8⟩ := by kernel_rfl
theorem el178 : elemI Try.prog 178 = none := by kernel_rfl
theorem ty179 : tyI Try.prog 179 = some ⟨false, 1, [.nilFunc], 8⟩ := by kernel_rfl
theorem el179 : elemI Try.prog 179 = none := by kernel_rfl
theorem ty180 : tyI Try.prog 180 = some ⟨false, 1, [.nilFunc], 8⟩ := by kernel_rfl
theorem el180 : elemI Try.prog 180 = none := by kernel_rfl
theorem ty181 : tyI Try.prog 181 = some ⟨false, 1, [.nilFunc], 8⟩ := by kernel_rfl
theorem el181 : elemI Try.prog 181 = none := by kernel_rfl
theorem ty182 : tyI Try.prog 182 = some ⟨false, 1, [.nilFunc], 8⟩ := by kernel_rfl
theorem el182 : elemI Try.prog 182 = none := by kernel_rfl
theorem ty183 : tyI Try.prog 183 = some ⟨false, 1, [.nilFunc], 8⟩ := by kernel_rfl
theorem el183 : elemI Try.prog 183 = none := by kernel_rfl
theorem ty184 : tyI Try.prog 184 = some ⟨false, 1, [.nilFunc], 8⟩ := by kernel_rfl
theorem el184 : elemI Try.prog 184 = none := by kernel_rfl
theorem ty185 : tyI Try.prog 185 = some ⟨false, 1, [.nilFunc], 8⟩ := by kernel_rfl
theorem el185 : elemI Try.prog 185 = none := by kernel_rfl
theorem ty186 : tyI Try.prog 186 = some ⟨false, 1, [.nilFunc], 8⟩ := by kernel_rfl
theorem el186 : elemI Try.prog 186 = none := by kernel_rfl
theorem ty187 : tyI Try.prog 187 = some ⟨false, 1, [.nilFunc], 8⟩ := by kernel_rfl
theorem el187 : elemI Try.prog 187 = none := by kernel_rfl
theorem ty188 : tyI Try.prog 188 = some ⟨false, 1, [.nilFunc], 8⟩ := by kernel_rfl
theorem el188 : elemI Try.prog 188 = none := by kernel_rfl
theorem ty189 : tyI Try.prog 189 = some ⟨false, 1, [.nilFunc], 8⟩ := by kernel_rfl
theorem el189 : elemI Try.prog 189 = none := by kernel_rfl
theorem ty190 : tyI Try.prog 190 = some ⟨false, 1, [(.slice none 0 0)], 24⟩ := by kernel_rfl
theorem el190 : elemI Try.prog 190 = some 143 := by kernel_rfl
theorem ty191 : tyI Try.prog 191 = some ⟨true, 2, [(.slice none 0 0), (.int .i64 0)], 32⟩ := by kernel_rfl
theorem el191 : elemI Try.prog 191 = none := by kernel_rfl
theorem pl191 : placesI Try.prog 191 = some [(0, 1), (1, 1)] := by kernel_rfl
theorem fi191_0 : fieldI Try.prog 191 0 = some (0, 1, false) := by kernel_rfl
theorem fi191_1 : fieldI Try.prog 191 1 = some (1, 1, false) := by kernel_rfl
theorem ty192 : tyI Try.prog 192 = some ⟨true, 2, [(.slice none 0 0), (.int .i64 0)], 32⟩ := by kernel_rfl
theorem el192 : elemI Try.prog 192 = none := by kernel_rfl
theorem pl192 : placesI Try.prog 192 = some [(0, 1), (1, 1)] := by kernel_rfl
theorem fi192_0 : fieldI Try.prog 192 0 = some (0, 1, false) := by kernel_rfl
theorem fi192_1 : fieldI Try.prog 192 1 = some (1, 1, false) := by kernel_rfl
theorem el193 : elemI Try.prog 193 = none := by kernel_rfl
theorem ty194 : tyI Try.prog 194 = some ⟨false, 1, [.nilFunc], 8⟩ := by kernel_rfl
theorem el194 : elemI Try.prog 194 = none := by kernel_rfl
theorem ty195 : tyI Try.prog 195 = some ⟨false, 1, [.nilFunc], 8⟩ := by kernel_rfl
theorem el195 : elemI Try.prog 195 = none := by kernel_rfl
theorem ty196 : tyI Try.prog 196 = some ⟨false, 1, [.nilFunc], 8⟩ := by kernel_rfl
theorem el196 : elemI Try.prog 196 = none := by kernel_rfl
theorem ty197 : tyI Try.prog 197 = some ⟨false, 1, [.nilFunc], 8⟩ := by kernel_rfl
theorem el197 : elemI Try.prog 197 = none := by kernel_rfl
theorem ty198 : tyI Try.prog 198 = some ⟨false, 1, [.nilFunc], 8⟩ := by kernel_rfl
theorem el198 : elemI Try.prog 198 = none := by kernel_rfl
theorem ty199 : tyI Try.prog 199 = some ⟨false, 1, [.nilFunc], 8⟩ := by kernel_rfl
theorem el199 : elemI Try.prog 199 = none := by kernel_rfl
theorem ty200 : tyI Try.prog 200 = some ⟨false, 1, [.nilFunc], 8⟩ := by kernel_rfl
theorem el200 : elemI Try.prog 200 = none := by kernel_rfl
theorem ty201 : tyI Try.prog 201 = some ⟨false, 1, [.nilFunc], 8⟩ := by kernel_rfl
theorem el201 : elemI Try.prog 201 = none := by kernel_rfl
theorem ty202 : tyI Try.prog 202 = some ⟨false, 1, [.nilFunc], 8⟩ := by kernel_rfl
theorem el202 : elemI Try.prog 202 = none := by kernel_rfl
theorem ty203 : tyI Try.prog 203 = some ⟨false, 1, [.nilFunc], 8⟩ := by kernel_rfl
theorem el203 : elemI Try.prog 203 = none := by kernel_rfl
theorem ty204 : tyI Try.prog 204 = some ⟨true, 2, [(.int .i64 0), (.slice none 0 0)], 32⟩ := by kernel_rfl
theorem el204 : elemI Try.prog 204 = none := by kernel_rfl
theorem pl204 : placesI Try.prog 204 = some [(0, 2)] := by kernel_rfl
theorem fi204_0 : fieldI Try.prog 204 0 = some (0, 2, true) := by kernel_rfl
theorem ty205 : tyI Try.prog 205 = some ⟨true, 2, [(.int .i64 0), (.slice none 0 0)], 32⟩ := by kernel_rfl
theorem el205 : elemI Try.prog 205 = none := by kernel_rfl
theorem pl205 : placesI Try.prog 205 = some [(0, 2)] := by kernel_rfl
theorem fi205_0 : fieldI Try.prog 205 0 = some (0, 2, true) := by kernel_rfl
theorem el206 : elemI Try.prog 206 = none := by kernel_rfl
theorem ty207 : tyI Try.prog 207 = some ⟨false, 1, [.nilFunc], 8⟩ := by kernel_rfl
theorem el207 : elemI Try.prog 207 = none := by kernel_rfl
theorem ty208 : tyI Try.prog 208 = some ⟨false, 1, [.nilFunc], 8⟩ := by kernel_rfl
theorem el208 : elemI Try.prog 208 = none := by kernel_rfl
theorem ty209 : tyI Try.prog 209 = some ⟨false, 1, [(.slice none 0 0)], 24⟩ := by kernel_rfl
theorem el209 : elemI Try.prog 209 = some 240 := by kernel_rfl
theorem ty210 : tyI Try.prog 210 = some ⟨false, 1, [(.slice none 0 0)], 24⟩ := by kernel_rfl
theorem el210 : elemI Try.prog 210 = some 171 := by kernel_rfl
theorem el211 : elemI Try.prog 211 = none := by kernel_rfl
theorem ty212 : tyI Try.prog 212 = some ⟨false, 1, [.nilFunc], 8⟩ := by kernel_rfl
theorem el212 : elemI Try.prog 212 = none := by kernel_rfl
theorem ty213 : tyI Try.prog 213 = some ⟨false, 1, [.nilFunc], 8⟩ := by kernel_rfl
theorem el213 : elemI Try.prog 213 = none := by kernel_rfl
theorem ty214 : tyI Try.prog 214 = some ⟨false, 1, [.nilFunc], 8⟩ := by kernel_rfl
theorem el214 : elemI Try.prog 214 = none := by kernel_rfl
theorem ty215 : tyI Try.prog 215 = some ⟨false, 1, [.nilFunc], 8⟩ := by kernel_rfl
theorem el215 : elemI Try.prog 215 = none := by kernel_rfl
theorem ty216 : tyI Try.prog 216 = some ⟨false, 1, [.nilFunc], 8⟩ := by kernel_rfl
theorem el216 : elemI Try.prog 216 = none := by kernel_rfl
theorem ty217 : tyI Try.prog 217 = some ⟨false, 1, [.nilFunc], 8⟩ := by kernel_rfl
theorem el217 : elemI Try.prog 217 = none := by kernel_rfl
theorem ty218 : tyI Try.prog 218 = some ⟨false, 1, [.nilFunc], 8⟩ := by kernel_rfl
theorem el218 : elemI Try.prog 218 = none := by kernel_rfl
theorem ty219 : tyI Try.prog 219 = some ⟨false, 1, [.nilFunc], 8⟩ := by kernel_rfl
theorem el219 : elemI Try.prog 219 = none := by kernel_rfl
theorem ty220 : tyI Try.prog 220 = some ⟨false, 1, [.nilFunc], 8⟩ := by kernel_rfl
theorem el220 : elemI Try.prog 220 = none := by kernel_rfl
theorem ty221 : tyI Try.prog 221 = some ⟨false, 1, [.nilFunc], 8⟩ := by kernel_rfl
theorem el221 : elemI Try.prog 221 = none := by kernel_rfl
theorem ty222 : tyI Try.prog 222 = some ⟨false, 1, [.nilFunc], 8⟩ := by kernel_rfl
theorem el222 : elemI Try.prog 222 = none := by kernel_rfl
theorem ty223 : tyI Try.prog 223 = some ⟨false, 1, [.nilFunc], 8⟩ := by kernel_rfl
theorem el223 : elemI Try.prog 223 = none := by kernel_rfl
theorem ty224 : tyI Try.prog 224 = some ⟨false, 1, [(.slice none 0 0)], 24⟩ := by kernel_rfl
theorem el224 : elemI Try.prog 224 = some 87 := by kernel_rfl
theorem ty225 : tyI Try.prog 225 = some ⟨false, 1, [.nilFunc], 8⟩ := by kernel_rfl
theorem el225 : elemI Try.prog 225 = none := by kernel_rfl
theorem ty226 : tyI Try.prog 226 = some ⟨false, 1, [(.int .u64 0)], 8⟩ := by kernel_rfl
theorem el226 : elemI Try.prog 226 = none := by kernel_rfl
theorem it226 : intI Try.prog 226 = some .u64 := by kernel_rfl
theorem ty227 : tyI Try.prog 227 = some ⟨false, 1, [.nilFunc], 8⟩ := by kernel_rfl
theorem el227 : elemI Try.prog 227 = none := by kernel_rfl
theorem ty228 : tyI Try.prog 228 = some ⟨false, 1, [.nilFunc], 8⟩ := by kernel_rfl
theorem el228 : elemI Try.prog 228 = none := by kernel_rfl
theorem ty229 : tyI Try.prog 229 = some ⟨false, 1, [.nilFunc], 8⟩ := by kernel_rfl
theorem el229 : elemI Try.prog 229 = none := by kernel_rfl
theorem ty230 : tyI Try.prog 230 = some ⟨false, 1, [.nilFunc], 8⟩ := by kernel_rfl
theorem el230 : elemI Try.prog 230 = none := by kernel_rfl
theorem ty231 : tyI Try.prog 231 = some ⟨false, 1, [.nilFunc], 8⟩ := by kernel_rfl
theorem el231 : elemI Try.prog 231 = none := by kernel_rfl
theorem ty232 : tyI Try.prog 232 = some ⟨false, 1, [.nilFunc], 8⟩ := by kernel_rfl
theorem el232 : elemI Try.prog 232 = none := by kernel_rfl
theorem ty233 : tyI Try.prog 233 = some ⟨false, 1, [.nilFunc], 8⟩ := by kernel_rfl
theorem el233 : elemI Try.prog 233 = none := by kernel_rfl
theorem ty234 : tyI Try.prog 234 = some ⟨false, 1, [.nilFunc], 8⟩ := by kernel_rfl
theorem el234 : elemI Try.prog 234 = none := by kernel_rfl
theorem ty235 : tyI Try.prog 235 = some ⟨false, 1, [.nilFunc], 8⟩ := by kernel_rfl
theorem el235 : elemI Try.prog 235 = none := by kernel_rfl
theorem ty236 : tyI Try.prog 236 = some ⟨false, 1, [.nilFunc], 8⟩ := by kernel_rfl
theorem el236 : elemI Try.prog 236 = none := by kernel_rfl
theorem ty237 : tyI Try.prog 237 = some ⟨false, 1, [.nilFunc], 8⟩ := by kernel_rfl
theorem el237 : elemI Try.prog 237 = none := by kernel_rfl
theorem ty238 : tyI Try.prog 238 = some ⟨false, 1, [.nilFunc], 8⟩ := by kernel_rfl
theorem el238 : elemI Try.prog 238 = none := by kernel_rfl
theorem ty239 : tyI Try.prog 239 = some ⟨true, 4, [(.int .i64 0), (.int .i64 0), (.int .i64 0), (.bool false)], 32⟩ := by kernel_rfl
theorem el239 : elemI Try.prog 239 = none := by kernel_rfl
theorem eq239 : eqTy Try.prog 239 = some (.st [(0, 1, .it), (1, 1, .it), (2, 1, .it), (3, 1, .bl)]) := by kernel_rfl
theorem pl239 : placesI Try.prog 239 = some [(0, 1), (1, 1), (2, 1), (3, 1)] := by kernel_rfl
theorem fi239_0 : fieldI Try.prog 239 0 = some (0, 1, false) := by kernel_rfl
theorem fi239_1 : fieldI Try.prog 239 1 = some (1, 1, false) := by kernel_rfl
theorem fi239_2 : fieldI Try.prog 239 2 = some (2, 1, false) := by kernel_rfl
theorem fi239_3 : fieldI Try.prog 239 3 = some (3, 1, false) := by kernel_rfl
theorem ty240 : tyI Try.prog 240 = some ⟨true, 4, [(.int .i64 0), (.int .i64 0), (.int .i64 0), (.bool false)], 32⟩ := by kernel_rfl
theorem el240 : elemI Try.prog 240 = none := by kernel_rfl
theorem eq240 : eqTy Try.prog 240 = some (.st [(0, 1, .it), (1, 1, .it), (2, 1, .it), (3, 1, .bl)]) := by kernel_rfl
theorem pl240 : placesI Try.prog 240 = some [(0, 1), (1, 1), (2, 1), (3, 1)] := by kernel_rfl
theorem fi240_0 : fieldI Try.prog 240 0 = some (0, 1, false) := by kernel_rfl
theorem fi240_1 : fieldI Try.prog 240 1 = some (1, 1, false) := by kernel_rfl
theorem fi240_2 : fieldI Try.prog 240 2 = some (2, 1, false) := by kernel_rfl
theorem fi240_3 : fieldI Try.prog 240 3 = some (3, 1, false) := by kernel_rfl
theorem ty241 : tyI Try.prog 241 = some ⟨false, 1, [.nilFunc], 8⟩ := by kernel_rfl
theorem el241 : elemI Try.prog 241 = none := by kernel_rfl
theorem ty242 : tyI Try.prog 242 = some ⟨true, 3, [(.int .i64 0), (.int .i64 0), (.int .i64 0)], 24⟩ := by kernel_rfl
theorem el242 : elemI Try.prog 242 = none := by kernel_rfl
theorem eq242 : eqTy Try.prog 242 = some (.st [(0, 1, .it), (1, 1, .it), (2, 1, .it)]) := by kernel_rfl
theorem pl242 : placesI Try.prog 242 = some [(0, 1), (1, 1), (2, 1)] := by kernel_rfl
theorem fi242_0 : fieldI Try.prog 242 0 = some (0, 1, false) := by kernel_rfl
theorem fi242_1 : fieldI Try.prog 242 1 = some (1, 1, false) := by kernel_rfl
theorem fi242_2 : fieldI Try.prog 242 2 = some (2, 1, false) := by kernel_rfl
theorem ty243 : tyI Try.prog 243 = some ⟨true, 3, [(.int .i64 0), (.int .i64 0), (.int .i64 0)], 24⟩ := by kernel_rfl
theorem el243 : elemI Try.prog 243 = none := by kernel_rfl
theorem eq243 : eqTy Try.prog 243 = some (.st [(0, 1, .it), (1, 1, .it), (2, 1, .it)]) := by kernel_rfl
theorem pl243 : placesI Try.prog 243 = some [(0, 1), (1, 1), (2, 1)] := by kernel_rfl
theorem fi243_0 : fieldI Try.prog 243 0 = some (0, 1, false) := by kernel_rfl
theorem fi243_1 : fieldI Try.prog 243 1 = some (1, 1, false) := by kernel_rfl
theorem fi243_2 : fieldI Try.prog 243 2 = some (2, 1, false) := by kernel_rfl
theorem ty244 : tyI Try.prog 244 = some ⟨false, 1, [.nilFunc], 8⟩ := by kernel_rfl
theorem el244 : elemI Try.prog 244 = none := by kernel_rfl
theorem ty245 : tyI Try.prog 245 = some ⟨false, 1, [.nilFunc], 8⟩ := by kernel_rfl
theorem el245 : elemI Try.prog 245 = none := by kernel_rfl
theorem ty246 : tyI Try.prog 246 = some ⟨false, 1, [.nilFunc], 8⟩ := by kernel_rfl
theorem el246 : elemI Try.prog 246 = none := by kernel_rfl
theorem ty247 : tyI Try.prog 247 = some ⟨false, 1, [.nilFunc], 8⟩ := by kernel_rfl
theorem el247 : elemI Try.prog 247 = none := by kernel_rfl
theorem ty248 : tyI Try.prog 248 = some ⟨false, 1, [.nilFunc], 8⟩ := by kernel_rfl
theorem el248 : elemI Try.prog 248 = none := by kernel_rfl
theorem ty249 : tyI Try.prog 249 = some ⟨false, 1, [.nilFunc], 8⟩ := by kernel_rfl
theorem el249 : elemI Try.prog 249 = none := by kernel_rfl
theorem ty250 : tyI Try.prog 250 = some ⟨false, 1, [.nilFunc], 8⟩ := by kernel_rfl
theorem el250 : elemI Try.prog 250 = none := by kernel_rfl
theorem ty251 : tyI Try.prog 251 = some ⟨false, 1, [.nilFunc], 8⟩ := by kernel_rfl
theorem el251 : elemI Try.prog 251 = none := by kernel_rfl
theorem ty252 : tyI Try.prog 252 = some ⟨false, 1, [.nilFunc], 8⟩ := by kernel_rfl
theorem el252 : elemI Try.prog 252 = none := by kernel_rfl
theorem ty253 : tyI Try.prog 253 = some ⟨false, 1, [.nilFunc], 8⟩ := by kernel_rfl
theorem el253 : elemI Try.prog 253 = none := by kernel_rfl
theorem ty254 : tyI Try.prog 254 = some ⟨false, 1, [.nilFunc], 8⟩ := by kernel_rfl
theorem el254 : elemI Try.prog 254 = none := by kernel_rfl
theorem ty255 : tyI Try.prog 255 = some ⟨false, 1, [.nilFunc], 8⟩ := by kernel_rfl
theorem el255 : elemI Try.prog 255 = none := by kernel_rfl
theorem ty256 : tyI Try.prog 256 = some ⟨false, 1, [.nilFunc], 8⟩ := by kernel_rfl
theorem el256 : elemI Try.prog 256 = none := by kernel_rfl
theorem ty257 : tyI Try.prog 257 = some ⟨false, 1, [.nilFunc], 8⟩ := by kernel_rfl
theorem el257 : elemI Try.prog 257 = none := by kernel_rfl
theorem ty258 : tyI Try.prog 258 = some ⟨false, 1, [.nilFunc], 8⟩ := by kernel_rfl
theorem el258 : elemI Try.prog 258 = none := by kernel_rfl
theorem ty259 : tyI Try.prog 259 = some ⟨false, 1, [.nilFunc], 8⟩ := by kernel_rfl
theorem el259 : elemI Try.prog 259 = none := by kernel_rfl
theorem ty260 : tyI Try.prog 260 = some ⟨false, 1, [.nilFunc], 8⟩ := by kernel_rfl
theorem el260 : elemI Try.prog 260 = none := by kernel_rfl
theorem ty261 : tyI Try.prog 261 = some ⟨false, 1, [.nilFunc], 8⟩ := by kernel_rfl
theorem el261 : elemI Try.prog 261 = none := by kernel_rfl
theorem ty262 : tyI Try.prog 262 = some ⟨false, 1, [.nilFunc], 8⟩ := by kernel_rfl
theorem el262 : elemI Try.prog 262 = none := by kernel_rfl
theorem ty263 : tyI Try.prog 263 = some ⟨false, 1, [.nilFunc], 8⟩ := by kernel_rfl
theorem el263 : elemI Try.prog 263 = none := by kernel_rfl
theorem ty264 : tyI Try.prog 264 = some ⟨false, 1, [.nilFunc], 8⟩ := by kernel_rfl
theorem el264 : elemI Try.prog 264 = none := by kernel_rfl
theorem ty265 : tyI Try.prog 265 = some ⟨false, 1, [.nilFunc], 8⟩ := by kernel_rfl
theorem el265 : elemI Try.prog 265 = none := by kernel_rfl
theorem ty266 : tyI Try.prog 266 = some ⟨false, 1, [.nilFunc], 8⟩ := by kernel_rfl
theorem el266 : elemI Try.prog 266 = none := by kernel_rfl
theorem ty267 : tyI Try.prog 267 = some ⟨true, 4, [(.pointer none), (.pointer none), (.pointer none), (.string ⟨#[]⟩)], 40⟩ := by kernel_rfl
theorem el267 : elemI Try.prog 267 = none := by kernel_rfl
theorem pl267 : placesI Try.prog 267 = some [(0, 1), (1, 1), (2, 1), (3, 1)] := by kernel_rfl
theorem fi267_0 : fieldI Try.prog 267 0 = some (0, 1, false) := by kernel_rfl
theorem fi267_1 : fieldI Try.prog 267 1 = some (1, 1, false) := by kernel_rfl
theorem fi267_2 : fieldI Try.prog 267 2 = some (2, 1, false) := by kernel_rfl
theorem fi267_3 : fieldI Try.prog 267 3 = some (3, 1, false) := by kernel_rfl
theorem ty268 : tyI Try.prog 268 = some ⟨true, 4, [(.pointer none), (.pointer none), (.pointer none), (.string ⟨#[]⟩)], 40⟩ := by kernel_rfl
theorem el268 : elemI Try.prog 268 = none := by kernel_rfl
theorem pl268 : placesI Try.prog 268 = some [(0, 1), (1, 1), (2, 1), (3, 1)] := by kernel_rfl
theorem fi268_0 : fieldI Try.prog 268 0 = some (0, 1, false) := by kernel_rfl
theorem fi268_1 : fieldI Try.prog 268 1 = some (1, 1, false) := by kernel_rfl
theorem fi268_2 : fieldI Try.prog 268 2 = some (2, 1, false) := by kernel_rfl
theorem fi268_3 : fieldI Try.prog 268 3 = some (3, 1, false) := by kernel_rfl
theorem ty269 : tyI Try.prog 269 = some ⟨true, 0, [], 0⟩ := by kernel_rfl
theorem el269 : elemI Try.prog 269 = none := by kernel_rfl
theorem ar269 : arrI Try.prog 269 = some (0, 16) := by kernel_rfl
theorem pl269 : placesI Try.prog 269 = some [] := by kernel_rfl
theorem ty270 : tyI Try.prog 270 = some ⟨true, 0, [], 0⟩ := by kernel_rfl
theorem el270 : elemI Try.prog 270 = none := by kernel_rfl
theorem pl270 : placesI Try.prog 270 = some [(0, 0)] := by kernel_rfl
theorem ty271 : tyI Try.prog 271 = some ⟨true, 0, [], 0⟩ := by kernel_rfl
theorem el271 : elemI Try.prog 271 = none := by kernel_rfl
theorem pl271 : placesI Try.prog 271 = some [(0, 0)] := by kernel_rfl
theorem ty272 : tyI Try.prog 272 = some ⟨false, 1, [(.int .u32 0)], 4⟩ := by kernel_rfl
theorem el272 : elemI Try.prog 272 = none := by kernel_rfl
theorem it272 : intI Try.prog 272 = some .u32 := by kernel_rfl
theorem ty273 : tyI Try.prog 273 = some ⟨false, 1, [(.int .u8 0)], 1⟩ := by kernel_rfl
theorem el273 : elemI Try.prog 273 = none := by kernel_rfl
theorem it273 : intI Try.prog 273 = some .u8 := by kernel_rfl
theorem ty274 : tyI Try.prog 274 = some ⟨false, 1, [(.int .u8 0)], 1⟩ := by kernel_rfl
theorem el274 : elemI Try.prog 274 = none := by kernel_rfl
theorem it274 : intI Try.prog 274 = some .u8 := by kernel_rfl
theorem ty275 : tyI Try.prog 275 = some ⟨false, 1, [.nilFunc], 8⟩ := by kernel_rfl
theorem el275 : elemI Try.prog 275 = none := by kernel_rfl
theorem ty276 : tyI Try.prog 276 = some ⟨false, 1, [(.pointer none)], 8⟩ := by kernel_rfl
theorem el276 : elemI Try.prog 276 = none := by kernel_rfl
theorem ty277 : tyI Try.prog 277 = some ⟨false, 1, [(.int .i32 0)], 4⟩ := by kernel_rfl
theorem el277 : elemI Try.prog 277 = none := by kernel_rfl
theorem it277 : intI Try.prog 277 = some .i32 := by kernel_rfl
theorem ty278 : tyI Try.prog 278 = some ⟨false, 1, [(.int .i32 0)], 4⟩ := by kernel_rfl
theorem el278 : elemI Try.prog 278 = none := by kernel_rfl
theorem it278 : intI Try.prog 278 = some .i32 := by kernel_rfl
theorem ty279 : tyI Try.prog 279 = some ⟨true, 11, [(.int .u64 0), (.int .u64 0), (.int .u32 0), (.int .u8 0), (.int .u8 0), (.int .u8 0), (.int .u8 0), .nilFunc, (.pointer none), (.int .i32 0), (.int .i32 0)], 48⟩ := by kernel_rfl
theorem el279 : elemI Try.prog 279 = none := by kernel_rfl
theorem pl279 : placesI Try.prog 279 = some [(0, 1), (1, 1), (2, 1), (3, 1), (4, 1), (5, 1), (6, 1), (7, 1), (8, 1), (9, 1), (10, 1)] := by kernel_rfl
theorem fi279_0 : fieldI Try.prog 279 0 = some (0, 1, false) := by kernel_rfl
theorem fi279_1 : fieldI Try.prog 279 1 = some (1, 1, false) := by kernel_rfl
theorem fi279_2 : fieldI Try.prog 279 2 = some (2, 1, false) := by kernel_rfl
theorem fi279_3 : fieldI Try.prog 279 3 = some (3, 1, false) := by kernel_rfl
theorem fi279_4 : fieldI Try.prog 279 4 = some (4, 1, false) := by kernel_rfl
theorem fi279_5 : fieldI Try.prog 279 5 = some (5, 1, false) := by kernel_rfl
theorem fi279_6 : fieldI Try.prog 279 6 = some (6, 1, false) := by kernel_rfl
theorem fi279_7 : fieldI Try.prog 279 7 = some (7, 1, false) := by kernel_rfl
theorem fi279_8 : fieldI Try.prog 279 8 = some (8, 1, false) := by kernel_rfl
theorem fi279_9 : fieldI Try.prog 279 9 = some (9, 1, false) := by kernel_rfl
theorem fi279_10 : fieldI Try.prog 279 10 = some (10, 1, false) := by kernel_rfl
theorem ty280 : tyI Try.prog 280 = some ⟨true, 11, [(.int .u64 0), (.int .u64 0), (.int .u32 0), (.int .u8 0), (.int .u8 0), (.int .u8 0), (.int .u8 0), .nilFunc, (.pointer none), (.int .i32 0), (.int .i32 0)], 48⟩ := by kernel_rfl
theorem el280 : elemI Try.prog 280 = none := by kernel_rfl
theorem pl280 : placesI Try.prog 280 = some [(0, 1), (1, 1), (2, 1), (3, 1), (4, 1), (5, 1), (6, 1), (7, 1), (8, 1), (9, 1), (10, 1)] := by kernel_rfl
theorem fi280_0 : fieldI Try.prog 280 0 = some (0, 1, false) := by kernel_rfl
theorem fi280_1 : fieldI Try.prog 280 1 = some (1, 1, false) := by kernel_rfl
theorem fi280_2 : fieldI Try.prog 280 2 = some (2, 1, false) := by kernel_rfl
theorem fi280_3 : fieldI Try.prog 280 3 = some (3, 1, false) := by kernel_rfl
theorem fi280_4 : fieldI Try.prog 280 4 = some (4, 1, false) := by kernel_rfl
theorem fi280_5 : fieldI Try.prog 280 5 = some (5, 1, false) := by kernel_rfl
theorem fi280_6 : fieldI Try.prog 280 6 = some (6, 1, false) := by kernel_rfl
theorem fi280_7 : fieldI Try.prog 280 7 = some (7, 1, false) := by kernel_rfl
theorem fi280_8 : fieldI Try.prog 280 8 = some (8, 1, false) := by kernel_rfl
theorem fi280_9 : fieldI Try.prog 280 9 = some (9, 1, false) := by kernel_rfl
theorem fi280_10 : fieldI Try.prog 280 10 = some (10, 1, false) := by kernel_rfl
theorem ty281 : tyI Try.prog 281 = some ⟨false, 1, [(.pointer none)], 8⟩ := by kernel_rfl
theorem el281 : elemI Try.prog 281 = none := by kernel_rfl
attribute [go_sem] el0 ty1 el1 ty2 el2 it2 ty3 el3 it3 ty4 el4 bl4 ty5 el5 it5 ty6 el6 it6 ty7 el7 eq7 pl7 fi7_0 fi7_1 fi7_2 fi7_3 ty8 el8 eq8 pl8 fi8_0 fi8_1 fi8_2 fi8_3 ty9 el9 ty10 el10 ty11 el11 ty12 el12 it12 ty13 el13 pl13 fi13_0 fi13_1 ty14 el14 pl14 fi14_0 fi14_1 ty15 el15 ty16 el16 ty17 el17 ty18 el18 pl18 fi18_0 ty19 el19 pl19 fi19_0 ty20 el20 ty21 el21 it21 ty22 el22 ty23 el23 ar23 pl23 ty24 el24 ar24 pl24 ty25 el25 ty26 el26 pl26 fi26_0 fi26_1 fi26_2 fi26_3 fi26_4 fi26_5 fi26_6 fi26_7 fi26_8 fi26_9 fi26_10 ty27 el27 pl27 fi27_0 fi27_1 fi27_2 fi27_3 fi27_4 fi27_5 fi27_6 fi27_7 fi27_8 fi27_9 fi27_10 ty28 el28 ty29 el29 ty30 el30 eq30 pl30 fi30_0 fi30_1 fi30_2 fi30_3 ty31 el31 eq31 pl31 fi31_0 fi31_1 fi31_2 fi31_3 ty32 el32 ty33 el33 it33 ty34 el34 it34 el35 ty36 el36 ty37 el37 el38 ty39 el39 ty40 el40 ty41 el41 eq41 pl41 fi41_0 fi41_1 fi41_2 fi41_3 fi41_4 ty42 el42 eq42 pl42 fi42_0 fi42_1 fi42_2 fi42_3 fi42_4 el43 ty44 el44 ty45 el45 ty46 el46 ty47 el47 ty48 el48 pl48 fi48_0 fi48_1 fi48_2 ty49 el49 pl49 fi49_0 fi49_1 fi49_2 ty50 el50 it50 ty51 el51 ty52 el52 ty53 el53 pl53 fi53_0 fi53_1 ty54 el54 pl54 fi54_0 fi54_1 ty55 el55 ty56 el56 pl56 fi56_0 fi56_1 ty57 el57 pl57 fi57_0 fi57_1 ty58 el58 ty59 el59 eq59 pl59 fi59_0 fi59_1 ty60 el60 eq60 pl60 fi60_0 fi60_1 el61 ty62 el62 ty63 el63 ty64 el64 el65 ty66 el66 ty67 el67 ty68 el68 eq68 pl68 fi68_0 fi68_1 fi68_2 fi68_3 ty69 el69 eq69 pl69 fi69_0 fi69_1 fi69_2 fi69_3 el70 ty71 el71 ty72 el72 ty73 el73 ty74 el74 pl74 fi74_0 fi74_1 fi74_2 ty75 el75 pl75 fi75_0 fi75_1 fi75_2 ty76 el76 eq76 pl76 fi76_0 fi76_1 ty77 el77 eq77 pl77 fi77_0 fi77_1 ty78 el78 el79 ty80 el80 ty81 el81 el82 ty83 el83 ty84 el84 ty85 el85 ty86 el86 ty87 el87 it87 ty88 el88 eq88 pl88 fi88_0 fi88_1 fi88_2 fi88_3 fi88_4 fi88_5 ty89 el89 eq89 pl89 fi89_0 fi89_1 fi89_2 fi89_3 fi89_4 fi89_5 ty90 el90 eq90 pl90 fi90_0 fi90_1 ty91 el91 eq91 pl91 fi91_0 fi91_1 el92 ty93 el93 ty94 el94 ty95 el95 ty96 el96 ty97 el97 ty98 el98 ar98 pl98 ty99 el99 ty100 el100 eq100 pl100 fi100_0 fi100_1 fi100_2 ty101 el101 eq101 pl101 fi101_0 fi101_1 fi101_2 ty102 el102 eq102 pl102 fi102_0 fi102_1 ty103 el103 eq103 pl103 fi103_0 fi103_1 ty104 el104 ty105 el105 el106 ty107 el107 ty108 el108 ty109 el109 eq109 pl109 fi109_0 fi109_1 ty110 el110 eq110 pl110 fi110_0 fi110_1 ty111 el111 ty112 el112 ty113 el113 it113 ty114 el114 eq114 pl114 fi114_0 fi114_1 ty115 el115 eq115 pl115 fi115_0 fi115_1 ty116 el116 eq116 pl116 fi116_0 fi116_1 fi116_2 fi116_3 fi116_4 ty117 el117 eq117 pl117 fi117_0 fi117_1 fi117_2 fi117_3 fi117_4 ty118 el118 ty119 el119 ty120 el120 pl120 fi120_0 ty121 el121 pl121 fi121_0 el122 ty123 el123 ty124 el124 ty125 el125 ty126 el126 ty127 el127 ar127 pl127 ty128 el128 eq128 pl128 fi128_0 fi128_1 fi128_2 ty129 el129 eq129 pl129 fi129_0 fi129_1 fi129_2 ty130 el130 ar130 pl130 ty131 el131 pl131 fi131_0 fi131_1 fi131_2 ty132 el132 pl132 fi132_0 fi132_1 fi132_2 el133 ty134 el134 el135 ty136 el136 ty137 el137 ty138 el138 ty139 el139 ty140 el140 ty141 el141 ty142 el142 eq142 pl142 fi142_0 fi142_1 ty143 el143 eq143 pl143 fi143_0 fi143_1 ty144 el144 eq144 pl144 fi144_0 fi144_1 ty145 el145 eq145 pl145 fi145_0 fi145_1 ty146 el146 ty147 el147 eq147 pl147 fi147_0 fi147_1 ty148 el148 eq148 pl148 fi148_0 fi148_1 ty149 el149 ty150 el150 ty151 el151 eq151 pl151 fi151_0 ty152 el152 eq152 pl152 fi152_0 ty153 el153 ty154 el154 ty155 el155 ty156 el156 ty157 el157 ty158 el158 ty159 el159 ty160 el160 ty161 el161 eq161 pl161 fi161_0 ty162 el162 eq162 pl162 fi162_0 ty163 el163 ty164 el164 pl164 fi164_0 fi164_1 ty165 el165 pl165 fi165_0 fi165_1 el166 ty167 el167 ty168 el168 it168 ty169 el169 eq169 pl169 fi169_0 fi169_1 fi169_2 ty170 el170 eq170 pl170 fi170_0 fi170_1 fi170_2 ty171 el171 el172 ty173 el173 ty174 el174 ty175 el175 ty176 el176 ty177 el177 ty178 el178 ty179 el179 ty180 el180 ty181 el181 ty182 el182 ty183 el183 ty184 el184 ty185 el185 ty186 el186 ty187 el187 ty188 el188 ty189 el189 ty190 el190 ty191 el191 pl191 fi191_0 fi191_1 ty192 el192 pl192 fi192_0 fi192_1 el193 ty194 el194 ty195 el195 ty196 el196 ty197 el197 ty198 el198 ty199 el199 ty200 el200 ty201 el201 ty202 el202 ty203 el203 ty204 el204 pl204 fi204_0 ty205 el205 pl205 fi205_0 el206 ty207 el207 ty208 el208 ty209 el209 ty210 el210 el211 ty212 el212 ty213 el213 ty214 el214 ty215 el215 ty216 el216 ty217 el217 ty218 el218 ty219 el219 ty220 el220 ty221 el221 ty222 el222 ty223 el223 ty224 el224 ty225 el225 ty226 el226 it226 ty227 el227 ty228 el228 ty229 el229 ty230 el230 ty231 el231 ty232 el232 ty233 el233 ty234 el234 ty235 el235 ty236 el236 ty237 el237 ty238 el238 ty239 el239 eq239 pl239 fi239_0 fi239_1 fi239_2 fi239_3 ty240 el240 eq240 pl240 fi240_0 fi240_1 fi240_2 fi240_3 ty241 el241 ty242 el242 eq242 pl242 fi242_0 fi242_1 fi242_2 ty243 el243 eq243 pl243 fi243_0 fi243_1 fi243_2 ty244 el244 ty245 el245 ty246 el246 ty247 el247 ty248 el248 ty249 el249 ty250 el250 ty251 el251 ty252 el252 ty253 el253 ty254 el254 ty255 el255 ty256 el256 ty257 el257 ty258 el258 ty259 el259 ty260 el260 ty261 el261 ty262 el262 ty263 el263 ty264 el264 ty265 el265 ty266 el266 ty267 el267 pl267 fi267_0 fi267_1 fi267_2 fi267_3 ty268 el268 pl268 fi268_0 fi268_1 fi268_2 fi268_3 ty269 el269 ar269 pl269 ty270 el270 pl270 ty271 el271 pl271 ty272 el272 it272 ty273 el273 it273 ty274 el274 it274 ty275 el275 ty276 el276 ty277 el277 it277 ty278 el278 it278 ty279 el279 pl279 fi279_0 fi279_1 fi279_2 fi279_3 fi279_4 fi279_5 fi279_6 fi279_7 fi279_8 fi279_9 fi279_10 ty280 el280 pl280 fi280_0 fi280_1 fi280_2 fi280_3 fi280_4 fi280_5 fi280_6 fi280_7 fi280_8 fi280_9 fi280_10 ty281 el281
end Go.Dw.Seat
end
section
namespace Go.Dw.Seat
open Go Go.Dw Go.Proofs
def s3 : SF := ⟨171, [.tmp 6],
 (.seq (.reg false [⟨some 4, .box 23 (.tmp 1), none⟩,
    ⟨some 5, .box 24 (.tmp 2), none⟩,
    ⟨some 6, .assign (.const (.bool false)), none⟩])
 (.seq (.reg false [⟨some 27, .load 23 (.tmp 4), none⟩,
    ⟨some 28, .call { callee := .value (.func 8), args := #[.tmp 27], argTypes := #[23] }, none⟩,
    ⟨some 29, .move (.tmp 0), none⟩,
    ⟨some 30, .call { callee := .builtin .len, args := #[.tmp 29], argTypes := #[22] }, none⟩,
    ⟨some 31, .call { callee := .builtin .min, args := #[.const (.int .i64 15), .tmp 30], argTypes := #[3, 3] }, none⟩,
    ⟨some 7, .alloc 27, none⟩,
    ⟨none, .store 27 (.tmp 7) (.tmp 28), none⟩,
    ⟨some 8, .assign (.tmp 31), none⟩])
 (.seq (.seq (.reg false [⟨some 32, .move (.tmp 8), none⟩,
     ⟨some 33, .binOp .eql 3 (.tmp 32) (.const (.int .i64 0)) 3, none⟩])
  (.cond (.tmp 33)
   (.seq (.reg false [⟨some 34, .call { callee := .value (.func 9), args := #[], argTypes := #[] }, none⟩,
       ⟨some 6, .assign (.tmp 34), none⟩])
    .ret)
   .skip))
 (.seq (.ord (.op ⟨some 35, .move (.tmp 8), none⟩ (.op ⟨some 36, .indexAddr 24 (.tmp 5) (.const (.int .i64 0)), none⟩ (.op ⟨some 37, .load 5 (.tmp 36), none⟩ (.op ⟨some 38, .convert 5 3 (.tmp 37), none⟩ (.op ⟨some 39, .indexAddr 24 (.tmp 5) (.const (.int .i64 1)), none⟩ (.op ⟨some 40, .load 5 (.tmp 39), none⟩ (.op ⟨some 41, .convert 5 3 (.tmp 40), none⟩ (.op ⟨some 42, .move (.tmp 8), none⟩ (.op ⟨some 43, .binOp .add 3 (.tmp 42) (.const (.int .i64 1)) 3, none⟩ (.op ⟨some 44, .binOp .rem 3 (.tmp 41) (.tmp 43) 3, none⟩ (.op ⟨some 45, .build 31 #[(0, (.tmp 35)), (2, (.tmp 38)), (3, (.tmp 44))], none⟩ (.op ⟨some 9, .alloc 31, none⟩ (.alt (.op ⟨some 46, .buildSlice 32 0 #[], none⟩ (.op ⟨none, .store 31 (.tmp 9) (.tmp 45), none⟩ (.op ⟨some 10, .assign (.tmp 46), none⟩ (.op ⟨some 11, .assign (.const (.int .i64 0)), none⟩ .done))))
 (.op ⟨none, .store 31 (.tmp 9) (.tmp 45), none⟩ (.op ⟨some 46, .buildSlice 32 0 #[], none⟩ (.op ⟨some 10, .assign (.tmp 46), none⟩ (.op ⟨some 11, .assign (.const (.int .i64 0)), none⟩ .done))))))))))))))))))
 (.seq (.seq (.reg false [⟨some 12, .assign (.const (.int .i64 0)), none⟩])
  (.block 0 (.loop (.seq (.seq (.reg false [⟨some 47, .move (.tmp 12), none⟩,
        ⟨some 48, .move (.tmp 8), none⟩,
        ⟨some 49, .binOp .lss 3 (.tmp 47) (.tmp 48) 3, none⟩])
     (.cond (.tmp 49)
      .skip
      (.exit 0)))
    (.seq (.block 1 (.seq (.reg false [⟨some 52, .move (.tmp 10), none⟩,
         ⟨some 53, .move (.tmp 0), none⟩,
         ⟨some 54, .move (.tmp 12), none⟩,
         ⟨some 55, .indexAddr 22 (.tmp 53) (.tmp 54), none⟩,
         ⟨some 56, .load 5 (.tmp 55), none⟩,
         ⟨some 57, .convert 5 3 (.tmp 56), none⟩,
         ⟨some 58, .buildSlice 32 1 #[(0, (.tmp 57))], none⟩,
         ⟨some 59, .call { callee := .builtin .append, args := #[.tmp 52, .tmp 58], argTypes := #[32, 32] }, none⟩,
         ⟨some 10, .assign (.tmp 59), none⟩])
      (.seq (.reg true [⟨some 60, .move (.tmp 0), none⟩,
         ⟨some 61, .move (.tmp 12), none⟩,
         ⟨some 62, .indexAddr 22 (.tmp 60) (.tmp 61), none⟩,
         ⟨some 63, .load 5 (.tmp 62), none⟩,
         ⟨some 64, .convert 5 3 (.tmp 63), none⟩,
         ⟨some 65, .fieldAddr 31 (.tmp 9) 2, none⟩,
         ⟨some 66, .load 3 (.tmp 65), none⟩,
         ⟨some 67, .binOp .lss 3 (.tmp 64) (.tmp 66) 3, none⟩])
      (.cond (.tmp 67)
       (.reg false [⟨some 68, .move (.tmp 11), none⟩,
          ⟨some 69, .binOp .add 3 (.tmp 68) (.const (.int .i64 1)) 3, none⟩,
          ⟨some 11, .assign (.tmp 69), none⟩])
       .skip))))
    (.reg false [⟨some 50, .move (.tmp 12), none⟩,
      ⟨some 51, .binOp .add 3 (.tmp 50) (.const (.int .i64 1)) 3, none⟩,
      ⟨some 12, .assign (.tmp 51), none⟩]))))))
 (.seq (.reg true [⟨some 71, .load 31 (.tmp 9), none⟩,
    ⟨some 72, .move (.tmp 10), none⟩,
    ⟨some 73, .call { callee := .value (.func 11), args := #[.tmp 72], argTypes := #[32] }, none⟩,
    ⟨some 74, .call { callee := .value (.func 10), args := #[.tmp 71, .tmp 73, .const (.int .i64 0)], argTypes := #[31, 32, 3] }, none⟩,
    ⟨some 70, .move (.tmp 74), none⟩,
    ⟨some 75, .extract (.tmp 70) 0, none⟩,
    ⟨some 76, .extract (.tmp 70) 1, none⟩,
    ⟨some 13, .assign (.tmp 75), none⟩,
    ⟨some 14, .assign (.tmp 76), none⟩])
 (.seq (.reg false [⟨some 78, .load 27 (.tmp 7), none⟩,
    ⟨some 79, .call { callee := .value (.func 13), args := #[.tmp 78], argTypes := #[27] }, none⟩,
    ⟨some 80, .move (.tmp 8), none⟩,
    ⟨some 81, .move (.tmp 11), none⟩,
    ⟨some 82, .call { callee := .value (.func 12), args := #[.tmp 79, .tmp 80, .tmp 81], argTypes := #[27, 3, 3] }, none⟩,
    ⟨some 77, .move (.tmp 82), none⟩,
    ⟨some 83, .extract (.tmp 77) 0, none⟩,
    ⟨some 84, .extract (.tmp 77) 1, none⟩,
    ⟨some 85, .extract (.tmp 77) 2, none⟩,
    ⟨some 15, .assign (.tmp 83), none⟩,
    ⟨some 16, .assign (.tmp 84), none⟩,
    ⟨some 17, .assign (.tmp 85), none⟩])
 (.seq (.reg true [⟨some 87, .load 27 (.tmp 7), none⟩,
    ⟨some 88, .call { callee := .value (.func 13), args := #[.tmp 87], argTypes := #[27] }, none⟩,
    ⟨some 89, .move (.tmp 8), none⟩,
    ⟨some 90, .fieldAddr 31 (.tmp 9) 3, none⟩,
    ⟨some 91, .load 3 (.tmp 90), none⟩,
    ⟨some 92, .call { callee := .value (.func 12), args := #[.tmp 88, .tmp 89, .tmp 91], argTypes := #[27, 3, 3] }, none⟩,
    ⟨some 86, .move (.tmp 92), none⟩,
    ⟨some 93, .extract (.tmp 86) 0, none⟩,
    ⟨some 94, .extract (.tmp 86) 1, none⟩,
    ⟨some 95, .extract (.tmp 86) 2, none⟩,
    ⟨some 18, .assign (.tmp 93), none⟩,
    ⟨some 19, .assign (.tmp 94), none⟩,
    ⟨some 20, .assign (.tmp 95), none⟩])
 (.seq (.reg false [⟨some 97, .load 27 (.tmp 7), none⟩,
    ⟨some 98, .call { callee := .value (.func 13), args := #[.tmp 97], argTypes := #[27] }, none⟩,
    ⟨some 99, .move (.tmp 8), none⟩,
    ⟨some 100, .call { callee := .value (.func 14), args := #[.tmp 98, .tmp 99], argTypes := #[27, 3] }, none⟩,
    ⟨some 96, .move (.tmp 100), none⟩,
    ⟨some 101, .extract (.tmp 96) 0, none⟩,
    ⟨some 102, .extract (.tmp 96) 1, none⟩,
    ⟨some 103, .extract (.tmp 96) 2, none⟩,
    ⟨some 21, .alloc 42, none⟩,
    ⟨none, .store 42 (.tmp 21) (.tmp 101), none⟩,
    ⟨some 22, .assign (.tmp 102), none⟩,
    ⟨some 23, .assign (.tmp 103), none⟩])
 (.seq (.seq (.reg false [⟨some 104, .move (.tmp 14), none⟩,
     ⟨some 105, .binOp .neq 34 (.tmp 104) (.const (.int .i64 0)) 34, none⟩,
     ⟨some 106, .move (.tmp 105), none⟩,
     ⟨some 107, .move (.tmp 17), some (106, false)⟩,
     ⟨some 108, .binOp .neq 34 (.tmp 107) (.const (.int .i64 0)) 34, some (106, false)⟩,
     ⟨some 109, .pick (.tmp 106) (.const (.bool true)) (.tmp 108), none⟩,
     ⟨some 110, .move (.tmp 109), none⟩,
     ⟨some 111, .move (.tmp 20), some (110, false)⟩,
     ⟨some 112, .binOp .neq 34 (.tmp 111) (.const (.int .i64 0)) 34, some (110, false)⟩,
     ⟨some 113, .pick (.tmp 110) (.const (.bool true)) (.tmp 112), none⟩,
     ⟨some 114, .move (.tmp 113), none⟩,
     ⟨some 115, .move (.tmp 23), some (114, false)⟩,
     ⟨some 116, .binOp .neq 34 (.tmp 115) (.const (.int .i64 0)) 34, some (114, false)⟩,
     ⟨some 117, .pick (.tmp 114) (.const (.bool true)) (.tmp 116), none⟩,
     ⟨some 118, .move (.tmp 117), none⟩,
     ⟨some 119, .move (.tmp 15), some (118, false)⟩,
     ⟨some 120, .move (.tmp 16), some (118, false)⟩,
     ⟨some 121, .binOp .add 3 (.tmp 119) (.tmp 120) 3, some (118, false)⟩,
     ⟨some 122, .move (.tmp 22), some (118, false)⟩,
     ⟨some 123, .binOp .neq 3 (.tmp 121) (.tmp 122) 3, some (118, false)⟩,
     ⟨some 124, .pick (.tmp 118) (.const (.bool true)) (.tmp 123), none⟩,
     ⟨some 125, .move (.tmp 124), none⟩,
     ⟨some 126, .move (.tmp 13), some (125, false)⟩,
     ⟨some 127, .binOp .eql 33 (.tmp 126) (.const (.int .i64 1)) 33, some (125, false)⟩,
     ⟨some 128, .move (.tmp 11), some (125, false)⟩,
     ⟨some 129, .fieldAddr 31 (.tmp 9) 3, some (125, false)⟩,
     ⟨some 130, .load 3 (.tmp 129), some (125, false)⟩,
     ⟨some 131, .binOp .leq 3 (.tmp 128) (.tmp 130) 3, some (125, false)⟩,
     ⟨some 132, .binOp .neq 4 (.tmp 127) (.tmp 131) 4, some (125, false)⟩,
     ⟨some 133, .pick (.tmp 125) (.const (.bool true)) (.tmp 132), none⟩,
     ⟨some 134, .move (.tmp 133), none⟩,
     ⟨some 135, .move (.tmp 13), some (134, false)⟩,
     ⟨some 136, .binOp .eql 33 (.tmp 135) (.const (.int .i64 1)) 33, some (134, false)⟩,
     ⟨some 137, .move (.tmp 136), some (134, false)⟩,
     ⟨some 138, .move (.tmp 15), some (137, true)⟩,
     ⟨some 139, .move (.tmp 18), some (137, true)⟩,
     ⟨some 140, .binOp .gtr 3 (.tmp 138) (.tmp 139) 3, some (137, true)⟩,
     ⟨some 141, .pick (.tmp 137) (.tmp 140) (.const (.bool false)), some (134, false)⟩,
     ⟨some 142, .pick (.tmp 134) (.const (.bool true)) (.tmp 141), none⟩])
  (.cond (.tmp 142)
   (.seq (.reg false [⟨some 6, .assign (.const (.bool false)), none⟩])
    .ret)
   .skip))
 (.seq (.seq (.reg false [⟨some 143, .move (.tmp 11), none⟩,
     ⟨some 144, .move (.tmp 8), none⟩,
     ⟨some 145, .binOp .eql 3 (.tmp 143) (.tmp 144) 3, none⟩])
  (.cond (.tmp 145)
   (.seq (.reg false [⟨some 146, .move (.tmp 15), none⟩,
       ⟨some 147, .move (.tmp 22), none⟩,
       ⟨some 148, .binOp .eql 3 (.tmp 146) (.tmp 147) 3, none⟩,
       ⟨some 149, .move (.tmp 148), none⟩,
       ⟨some 150, .call { callee := .value (.func 9), args := #[], argTypes := #[] }, some (149, true)⟩,
       ⟨some 151, .pick (.tmp 149) (.tmp 150) (.const (.bool false)), none⟩,
       ⟨some 6, .assign (.tmp 151), none⟩])
    .ret)
   .skip))
 (.seq (.reg false [⟨some 153, .load 27 (.tmp 7), none⟩,
    ⟨some 154, .move (.tmp 8), none⟩,
    ⟨some 155, .move (.tmp 11), none⟩,
    ⟨some 156, .binOp .add 3 (.tmp 155) (.const (.int .i64 1)) 3, none⟩,
    ⟨some 157, .call { callee := .value (.func 12), args := #[.tmp 153, .tmp 154, .tmp 156], argTypes := #[27, 3, 3] }, none⟩,
    ⟨some 152, .move (.tmp 157), none⟩,
    ⟨some 158, .extract (.tmp 152) 0, none⟩,
    ⟨some 159, .extract (.tmp 152) 1, none⟩,
    ⟨some 160, .extract (.tmp 152) 2, none⟩,
    ⟨some 24, .assign (.tmp 158), none⟩,
    ⟨some 25, .assign (.tmp 159), none⟩,
    ⟨some 26, .assign (.tmp 160), none⟩])
 (.seq (.reg false [⟨some 161, .move (.tmp 26), none⟩,
    ⟨some 162, .binOp .eql 34 (.tmp 161) (.const (.int .i64 0)) 34, none⟩,
    ⟨some 163, .move (.tmp 162), none⟩,
    ⟨some 164, .move (.tmp 24), some (163, true)⟩,
    ⟨some 165, .move (.tmp 15), some (163, true)⟩,
    ⟨some 166, .binOp .geq 3 (.tmp 164) (.tmp 165) 3, some (163, true)⟩,
    ⟨some 167, .pick (.tmp 163) (.tmp 166) (.const (.bool false)), none⟩,
    ⟨some 168, .move (.tmp 167), none⟩,
    ⟨some 169, .call { callee := .value (.func 9), args := #[], argTypes := #[] }, some (168, true)⟩,
    ⟨some 170, .pick (.tmp 168) (.tmp 169) (.const (.bool false)), none⟩,
    ⟨some 6, .assign (.tmp 170), none⟩])
 .ret)))))))))))))⟩
theorem sf3 : sfOf Try.f3 = some s3 := by kernel_rfl
theorem hb3 : hasBody Try.prog 3 = true := by kernel_rfl
def s8 : SF := ⟨41, [.cell 2 27],
 (.seq (.reg false [⟨some 1, .box 23 (.tmp 0), none⟩,
    ⟨some 2, .alloc 27, none⟩])
 (.seq (.reg false [⟨some 3, .indexAddr 23 (.tmp 1) (.const (.int .i64 0)), none⟩,
    ⟨some 4, .load 5 (.tmp 3), none⟩,
    ⟨some 5, .convert 5 3 (.tmp 4), none⟩,
    ⟨some 6, .binOp .add 3 (.const (.int .i64 1)) (.tmp 5) 3, none⟩,
    ⟨some 7, .indexAddr 23 (.tmp 1) (.const (.int .i64 1)), none⟩,
    ⟨some 8, .load 5 (.tmp 7), none⟩,
    ⟨some 9, .convert 5 3 (.tmp 8), none⟩,
    ⟨some 10, .binOp .mul 3 (.const (.int .i64 100)) (.tmp 9) 3, none⟩,
    ⟨some 11, .indexAddr 23 (.tmp 1) (.const (.int .i64 2)), none⟩,
    ⟨some 12, .load 5 (.tmp 11), none⟩,
    ⟨some 13, .convert 5 3 (.tmp 12), none⟩,
    ⟨some 14, .binOp .mul 3 (.const (.int .i64 10)) (.tmp 13) 3, none⟩,
    ⟨some 15, .indexAddr 23 (.tmp 1) (.const (.int .i64 3)), none⟩,
    ⟨some 16, .load 5 (.tmp 15), none⟩,
    ⟨some 17, .convert 5 3 (.tmp 16), none⟩,
    ⟨some 18, .binOp .add 3 (.const (.int .i64 1)) (.tmp 17) 3, none⟩,
    ⟨some 19, .indexAddr 23 (.tmp 1) (.const (.int .i64 3)), none⟩,
    ⟨some 20, .load 5 (.tmp 19), none⟩,
    ⟨some 21, .convert 5 3 (.tmp 20), none⟩,
    ⟨some 22, .binOp .mul 3 (.const (.int .i64 7)) (.tmp 21) 3, none⟩,
    ⟨some 23, .indexAddr 23 (.tmp 1) (.const (.int .i64 2)), none⟩,
    ⟨some 24, .load 5 (.tmp 23), none⟩,
    ⟨some 25, .convert 5 3 (.tmp 24), none⟩,
    ⟨some 26, .binOp .add 3 (.const (.int .i64 1)) (.tmp 25) 3, none⟩,
    ⟨some 27, .indexAddr 23 (.tmp 1) (.const (.int .i64 0)), none⟩,
    ⟨some 28, .load 5 (.tmp 27), none⟩,
    ⟨some 29, .convert 5 3 (.tmp 28), none⟩,
    ⟨some 30, .binOp .mul 3 (.const (.int .i64 3)) (.tmp 29) 3, none⟩,
    ⟨some 31, .indexAddr 23 (.tmp 1) (.const (.int .i64 1)), none⟩,
    ⟨some 32, .load 5 (.tmp 31), none⟩,
    ⟨some 33, .convert 5 3 (.tmp 32), none⟩,
    ⟨some 34, .binOp .add 3 (.const (.int .i64 1)) (.tmp 33) 3, none⟩,
    ⟨some 35, .indexAddr 23 (.tmp 1) (.const (.int .i64 2)), none⟩,
    ⟨some 36, .load 5 (.tmp 35), none⟩,
    ⟨some 37, .convert 5 3 (.tmp 36), none⟩,
    ⟨some 38, .build 110 #[(0, (.tmp 34)), (1, (.tmp 37))], none⟩,
    ⟨some 39, .buildSlice 25 1 #[(0, (.tmp 38))], none⟩,
    ⟨some 40, .build 27 #[(0, (.tmp 6)), (1, (.tmp 10)), (3, (.tmp 14)), (5, (.tmp 18)), (6, (.tmp 22)), (7, (.tmp 26)), (9, (.tmp 30)), (10, (.tmp 39))], none⟩,
    ⟨none, .store 27 (.tmp 2) (.tmp 40), none⟩])
 .ret))⟩
theorem sf8 : sfOf Try.f8 = some s8 := by kernel_rfl
theorem hb8 : hasBody Try.prog 8 = true := by kernel_rfl
def s9 : SF := ⟨35, [.tmp 0],
 (.seq (.reg false [⟨some 0, .assign (.const (.bool false)), none⟩])
 (.seq (.reg false [⟨some 7, .build 110 #[(0, (.const (.int .i64 1000))), (1, (.const (.int .i64 100)))], none⟩,
    ⟨some 8, .buildSlice 25 1 #[(0, (.tmp 7))], none⟩,
    ⟨some 9, .build 27 #[(0, (.const (.int .i64 10000))), (1, (.const (.int .i64 20000))), (2, (.const (.int .i64 100))), (3, (.const (.int .i64 5000))), (4, (.const (.int .i64 300))), (5, (.const (.int .i64 1000))), (6, (.const (.int .i64 900))), (7, (.const (.int .i64 400))), (8, (.const (.int .i64 50))), (9, (.const (.int .i64 200))), (10, (.tmp 8))], none⟩,
    ⟨some 1, .alloc 27, none⟩,
    ⟨none, .store 27 (.tmp 1) (.tmp 9), none⟩])
 (.seq (.reg false [⟨some 11, .load 27 (.tmp 1), none⟩,
    ⟨some 12, .call { callee := .value (.func 14), args := #[.tmp 11, .const (.int .i64 500)], argTypes := #[27, 3] }, none⟩,
    ⟨some 10, .move (.tmp 12), none⟩,
    ⟨some 13, .extract (.tmp 10) 0, none⟩,
    ⟨some 14, .extract (.tmp 10) 1, none⟩,
    ⟨some 15, .extract (.tmp 10) 2, none⟩,
    ⟨some 2, .alloc 42, none⟩,
    ⟨none, .store 42 (.tmp 2) (.tmp 13), none⟩,
    ⟨some 3, .assign (.tmp 14), none⟩,
    ⟨some 4, .assign (.tmp 15), none⟩])
 (.seq (.reg false [⟨some 17, .load 27 (.tmp 1), none⟩,
    ⟨some 18, .call { callee := .value (.func 40), args := #[.tmp 17, .const (.int .i64 999)], argTypes := #[27, 3] }, none⟩,
    ⟨some 16, .move (.tmp 18), none⟩,
    ⟨some 19, .extract (.tmp 16) 0, none⟩,
    ⟨some 20, .extract (.tmp 16) 1, none⟩,
    ⟨some 5, .assign (.tmp 19), none⟩,
    ⟨some 6, .assign (.tmp 20), none⟩])
 (.seq (.reg false [⟨some 21, .move (.tmp 4), none⟩,
    ⟨some 22, .binOp .eql 34 (.tmp 21) (.const (.int .i64 0)) 34, none⟩,
    ⟨some 23, .move (.tmp 22), none⟩,
    ⟨some 24, .move (.tmp 6), some (23, true)⟩,
    ⟨some 25, .binOp .eql 34 (.tmp 24) (.const (.int .i64 0)) 34, some (23, true)⟩,
    ⟨some 26, .pick (.tmp 23) (.tmp 25) (.const (.bool false)), none⟩,
    ⟨some 27, .move (.tmp 26), none⟩,
    ⟨some 28, .move (.tmp 3), some (27, true)⟩,
    ⟨some 29, .binOp .eql 3 (.tmp 28) (.const (.int .i64 20220)) 3, some (27, true)⟩,
    ⟨some 30, .pick (.tmp 27) (.tmp 29) (.const (.bool false)), none⟩,
    ⟨some 31, .move (.tmp 30), none⟩,
    ⟨some 32, .move (.tmp 5), some (31, true)⟩,
    ⟨some 33, .binOp .eql 3 (.tmp 32) (.const (.int .i64 1123)) 3, some (31, true)⟩,
    ⟨some 34, .pick (.tmp 31) (.tmp 33) (.const (.bool false)), none⟩,
    ⟨some 0, .assign (.tmp 34), none⟩])
 .ret)))))⟩
theorem sf9 : sfOf Try.f9 = some s9 := by kernel_rfl
theorem hb9 : hasBody Try.prog 9 = true := by kernel_rfl
def s10 : SF := ⟨21, [.tmp 6, .tmp 7],
 (.seq (.reg false [⟨some 3, .box 31 (.tmp 0), none⟩,
    ⟨some 6, .assign (.const (.int .i64 0)), none⟩,
    ⟨some 7, .assign (.const (.int .i64 0)), none⟩])
 (.seq (.seq (.reg false [⟨some 9, .load 31 (.tmp 3), none⟩,
     ⟨some 10, .move (.tmp 1), none⟩,
     ⟨some 11, .move (.tmp 2), none⟩,
     ⟨some 12, .call { callee := .value (.func 41), args := #[.tmp 9, .tmp 10, .tmp 11], argTypes := #[31, 32, 3] }, none⟩,
     ⟨some 8, .assign (.tmp 12), none⟩])
  (.seq (.reg false [⟨some 13, .move (.tmp 8), none⟩,
     ⟨some 14, .binOp .neq 34 (.tmp 13) (.const (.int .i64 0)) 34, none⟩])
  (.cond (.tmp 14)
   (.seq (.reg false [⟨some 15, .move (.tmp 8), none⟩,
       ⟨some 6, .assign (.const (.int .i64 0)), none⟩,
       ⟨some 7, .assign (.tmp 15), none⟩])
    .ret)
   .skip)))
 (.seq (.reg false [⟨some 16, .load 31 (.tmp 3), none⟩,
    ⟨some 17, .move (.tmp 1), none⟩,
    ⟨some 18, .move (.tmp 2), none⟩,
    ⟨some 19, .call { callee := .value (.func 42), args := #[.tmp 16, .tmp 17, .tmp 18], argTypes := #[31, 32, 3] }, none⟩,
    ⟨some 20, .call { callee := .value (.func 43), args := #[.tmp 19], argTypes := #[117] }, none⟩,
    ⟨some 6, .assign (.tmp 20), none⟩,
    ⟨some 7, .assign (.const (.int .i64 0)), none⟩])
 .ret)))⟩
theorem sf10 : sfOf Try.f10 = some s10 := by kernel_rfl
theorem hb10 : hasBody Try.prog 10 = true := by kernel_rfl
def s11 : SF := ⟨6, [.tmp 2],
 (.seq (.reg false [⟨some 2, .assign (.const (.slice none 0 0)), none⟩])
 (.seq (.reg false [⟨some 3, .buildSlice 32 0 #[], none⟩,
    ⟨some 4, .move (.tmp 0), none⟩,
    ⟨some 5, .call { callee := .builtin .append, args := #[.tmp 3, .tmp 4], argTypes := #[32, 32] }, none⟩,
    ⟨some 2, .assign (.tmp 5), none⟩])
 .ret))⟩
theorem sf11 : sfOf Try.f11 = some s11 := by kernel_rfl
theorem hb11 : hasBody Try.prog 11 = true := by kernel_rfl
def s12 : SF := ⟨39, [.tmp 6, .tmp 7, .tmp 8],
 (.seq (.reg false [⟨some 3, .box 27 (.tmp 0), none⟩,
    ⟨some 6, .assign (.const (.int .i64 0)), none⟩,
    ⟨some 7, .assign (.const (.int .i64 0)), none⟩,
    ⟨some 8, .assign (.const (.int .i64 0)), none⟩])
 (.seq (.reg false [⟨some 12, .load 27 (.tmp 3), none⟩,
    ⟨some 13, .move (.tmp 1), none⟩,
    ⟨some 14, .call { callee := .value (.func 44), args := #[.tmp 12, .tmp 13], argTypes := #[27, 3] }, none⟩,
    ⟨some 11, .move (.tmp 14), none⟩,
    ⟨some 15, .extract (.tmp 11) 0, none⟩,
    ⟨some 16, .extract (.tmp 11) 1, none⟩,
    ⟨some 9, .alloc 121, none⟩,
    ⟨none, .store 121 (.tmp 9) (.tmp 15), none⟩,
    ⟨some 8, .assign (.tmp 16), none⟩])
 (.seq (.block 0 (.seq (.reg false [⟨some 18, .move (.tmp 8), none⟩,
      ⟨some 19, .binOp .neq 34 (.tmp 18) (.const (.int .i64 0)) 34, none⟩,
      ⟨some 17, .assign (.tmp 19), none⟩])
   (.cond (.tmp 17)
    (.seq (.reg false [⟨some 20, .move (.tmp 8), none⟩,
        ⟨some 6, .assign (.const (.int .i64 0)), none⟩,
        ⟨some 7, .assign (.const (.int .i64 0)), none⟩,
        ⟨some 8, .assign (.tmp 20), none⟩])
     .ret)
    (.seq (.reg false [⟨some 22, .move (.tmp 1), none⟩,
        ⟨some 23, .move (.tmp 2), none⟩,
        ⟨some 24, .buildSlice 32 1 #[(0, (.tmp 23))], none⟩,
        ⟨some 25, .call { callee := .value (.func 45), args := #[.const (.int .i64 0), .tmp 22, .tmp 24], argTypes := #[3, 3, 32] }, none⟩,
        ⟨some 26, .unOp .not 4 (.tmp 25), none⟩,
        ⟨some 21, .assign (.tmp 26), none⟩])
     (.cond (.tmp 21)
      (.seq (.reg false [⟨some 6, .assign (.const (.int .i64 0)), none⟩,
          ⟨some 7, .assign (.const (.int .i64 0)), none⟩,
          ⟨some 8, .assign (.const (.int .i64 7)), none⟩])
       .ret)
      .skip)))))
 (.seq (.reg false [⟨some 27, .load 121 (.tmp 9), none⟩,
    ⟨some 28, .move (.tmp 1), none⟩,
    ⟨some 29, .call { callee := .value (.func 46), args := #[.tmp 27, .tmp 28], argTypes := #[121, 3] }, none⟩,
    ⟨some 10, .assign (.tmp 29), none⟩])
 (.seq (.reg false [⟨some 30, .move (.tmp 10), none⟩,
    ⟨some 31, .move (.tmp 2), none⟩,
    ⟨some 32, .binOp .mul 3 (.tmp 30) (.tmp 31) 3, none⟩,
    ⟨some 33, .move (.tmp 1), none⟩,
    ⟨some 34, .binOp .quo 3 (.tmp 32) (.tmp 33) 3, none⟩,
    ⟨some 6, .assign (.tmp 34), none⟩])
 (.seq (.reg false [⟨some 35, .move (.tmp 6), none⟩,
    ⟨some 36, .move (.tmp 10), none⟩,
    ⟨some 37, .move (.tmp 6), none⟩,
    ⟨some 38, .binOp .sub 3 (.tmp 36) (.tmp 37) 3, none⟩,
    ⟨some 6, .assign (.tmp 35), none⟩,
    ⟨some 7, .assign (.tmp 38), none⟩,
    ⟨some 8, .assign (.const (.int .i64 0)), none⟩])
 .ret))))))⟩
theorem sf12 : sfOf Try.f12 = some s12 := by kernel_rfl
theorem hb12 : hasBody Try.prog 12 = true := by kernel_rfl
def s13 : SF := ⟨9, [.cell 2 27],
 (.seq (.reg false [⟨some 1, .box 27 (.tmp 0), none⟩,
    ⟨some 2, .alloc 27, none⟩])
 (.seq (.reg false [⟨some 3, .buildSlice 25 0 #[], none⟩,
    ⟨some 4, .fieldAddr 27 (.tmp 1) 10, none⟩,
    ⟨some 5, .load 25 (.tmp 4), none⟩,
    ⟨some 6, .call { callee := .builtin .append, args := #[.tmp 3, .tmp 5], argTypes := #[25, 25] }, none⟩,
    ⟨some 7, .fieldAddr 27 (.tmp 1) 10, none⟩,
    ⟨none, .store 25 (.tmp 7) (.tmp 6), none⟩])
 (.seq (.reg false [⟨some 8, .load 27 (.tmp 1), none⟩,
    ⟨none, .store 27 (.tmp 2) (.tmp 8), none⟩])
 .ret)))⟩
theorem sf13 : sfOf Try.f13 = some s13 := by kernel_rfl
theorem hb13 : hasBody Try.prog 13 = true := by kernel_rfl
def s14 : SF := ⟨24, [.cell 4 42, .tmp 5, .tmp 6],
 (.seq (.reg false [⟨some 2, .box 27 (.tmp 0), none⟩,
    ⟨some 4, .alloc 42, none⟩,
    ⟨some 5, .assign (.const (.int .i64 0)), none⟩,
    ⟨some 6, .assign (.const (.int .i64 0)), none⟩])
 (.seq (.reg false [⟨some 9, .load 27 (.tmp 2), none⟩,
    ⟨some 10, .move (.tmp 1), none⟩,
    ⟨some 11, .call { callee := .value (.func 44), args := #[.tmp 9, .tmp 10], argTypes := #[27, 3] }, none⟩,
    ⟨some 8, .move (.tmp 11), none⟩,
    ⟨some 12, .extract (.tmp 8) 0, none⟩,
    ⟨some 13, .extract (.tmp 8) 1, none⟩,
    ⟨some 7, .alloc 121, none⟩,
    ⟨none, .store 121 (.tmp 7) (.tmp 12), none⟩,
    ⟨some 6, .assign (.tmp 13), none⟩])
 (.seq (.seq (.reg false [⟨some 14, .move (.tmp 6), none⟩,
     ⟨some 15, .binOp .neq 34 (.tmp 14) (.const (.int .i64 0)) 34, none⟩])
  (.cond (.tmp 15)
   (.seq (.reg false [⟨some 16, .load 42 (.tmp 4), none⟩,
       ⟨some 17, .move (.tmp 6), none⟩,
       ⟨none, .store 42 (.tmp 4) (.tmp 16), none⟩,
       ⟨some 5, .assign (.const (.int .i64 0)), none⟩,
       ⟨some 6, .assign (.tmp 17), none⟩])
    .ret)
   .skip))
 (.seq (.reg true [⟨some 18, .load 121 (.tmp 7), none⟩,
    ⟨some 19, .move (.tmp 1), none⟩,
    ⟨some 20, .call { callee := .value (.func 47), args := #[.tmp 18, .tmp 19], argTypes := #[121, 3] }, none⟩,
    ⟨some 21, .load 121 (.tmp 7), none⟩,
    ⟨some 22, .move (.tmp 1), none⟩,
    ⟨some 23, .call { callee := .value (.func 46), args := #[.tmp 21, .tmp 22], argTypes := #[121, 3] }, none⟩,
    ⟨none, .store 42 (.tmp 4) (.tmp 20), none⟩,
    ⟨some 5, .assign (.tmp 23), none⟩,
    ⟨some 6, .assign (.const (.int .i64 0)), none⟩])
 .ret))))⟩
theorem sf14 : sfOf Try.f14 = some s14 := by kernel_rfl
theorem hb14 : hasBody Try.prog 14 = true := by kernel_rfl
end Go.Dw.Seat
end
section
namespace Go.Dw.Seat
open Go Go.Dw Go.Proofs
def s40 : SF := ⟨22, [.tmp 4, .tmp 5],
 (.seq (.reg false [⟨some 2, .box 27 (.tmp 0), none⟩,
    ⟨some 4, .assign (.const (.int .i64 0)), none⟩,
    ⟨some 5, .assign (.const (.int .i64 0)), none⟩])
 (.seq (.reg false [⟨some 9, .load 27 (.tmp 2), none⟩,
    ⟨some 10, .move (.tmp 1), none⟩,
    ⟨some 11, .call { callee := .value (.func 44), args := #[.tmp 9, .tmp 10], argTypes := #[27, 3] }, none⟩,
    ⟨some 8, .move (.tmp 11), none⟩,
    ⟨some 12, .extract (.tmp 8) 0, none⟩,
    ⟨some 13, .extract (.tmp 8) 1, none⟩,
    ⟨some 6, .alloc 121, none⟩,
    ⟨none, .store 121 (.tmp 6) (.tmp 12), none⟩,
    ⟨some 7, .assign (.tmp 13), none⟩])
 (.seq (.seq (.reg false [⟨some 14, .move (.tmp 7), none⟩,
     ⟨some 15, .binOp .neq 34 (.tmp 14) (.const (.int .i64 0)) 34, none⟩])
  (.cond (.tmp 15)
   (.seq (.reg false [⟨some 16, .move (.tmp 7), none⟩,
       ⟨some 4, .assign (.const (.int .i64 0)), none⟩,
       ⟨some 5, .assign (.tmp 16), none⟩])
    .ret)
   .skip))
 (.seq (.reg true [⟨some 17, .load 121 (.tmp 6), none⟩,
    ⟨some 18, .load 121 (.tmp 6), none⟩,
    ⟨some 19, .move (.tmp 1), none⟩,
    ⟨some 20, .call { callee := .value (.func 46), args := #[.tmp 18, .tmp 19], argTypes := #[121, 3] }, none⟩,
    ⟨some 21, .call { callee := .value (.func 74), args := #[.tmp 17, .tmp 20], argTypes := #[121, 3] }, none⟩,
    ⟨some 4, .assign (.tmp 21), none⟩,
    ⟨some 5, .assign (.const (.int .i64 0)), none⟩])
 .ret))))⟩
theorem sf40 : sfOf Try.f40 = some s40 := by kernel_rfl
theorem hb40 : hasBody Try.prog 40 = true := by kernel_rfl
def s41 : SF := ⟨42, [.tmp 6],
 (.seq (.reg false [⟨some 3, .box 31 (.tmp 0), none⟩,
    ⟨some 6, .assign (.const (.int .i64 0)), none⟩])
 (.seq (.block 0 (.seq (.seq (.reg false [⟨some 8, .fieldAddr 31 (.tmp 3) 0, none⟩,
       ⟨some 9, .load 3 (.tmp 8), none⟩,
       ⟨some 10, .buildSlice 32 1 #[(0, (.tmp 9))], none⟩,
       ⟨some 11, .call { callee := .value (.func 52), args := #[.const (.int .i64 1), .const (.int .i64 20), .tmp 10], argTypes := #[3, 3, 32] }, none⟩,
       ⟨some 12, .unOp .not 4 (.tmp 11), none⟩,
       ⟨some 7, .assign (.tmp 12), none⟩])
    (.cond (.tmp 7)
     .skip
     (.seq (.reg false [⟨some 13, .fieldAddr 31 (.tmp 3) 1, none⟩,
         ⟨some 14, .load 3 (.tmp 13), none⟩,
         ⟨some 15, .fieldAddr 31 (.tmp 3) 2, none⟩,
         ⟨some 16, .load 3 (.tmp 15), none⟩,
         ⟨some 17, .buildSlice 32 2 #[(0, (.tmp 14)), (1, (.tmp 16))], none⟩,
         ⟨some 18, .call { callee := .value (.func 52), args := #[.const (.int .i64 0), .const (.int .i64 100000), .tmp 17], argTypes := #[3, 3, 32] }, none⟩,
         ⟨some 19, .unOp .not 4 (.tmp 18), none⟩,
         ⟨some 7, .assign (.tmp 19), none⟩])
      (.cond (.tmp 7)
       .skip
       (.reg false [⟨some 20, .fieldAddr 31 (.tmp 3) 0, none⟩,
          ⟨some 21, .load 3 (.tmp 20), none⟩,
          ⟨some 22, .fieldAddr 31 (.tmp 3) 3, none⟩,
          ⟨some 23, .load 3 (.tmp 22), none⟩,
          ⟨some 24, .buildSlice 32 1 #[(0, (.tmp 23))], none⟩,
          ⟨some 25, .call { callee := .value (.func 52), args := #[.const (.int .i64 0), .tmp 21, .tmp 24], argTypes := #[3, 3, 32] }, none⟩,
          ⟨some 26, .unOp .not 4 (.tmp 25), none⟩,
          ⟨some 7, .assign (.tmp 26), none⟩])))))
   (.cond (.tmp 7)
    (.seq (.reg false [⟨some 6, .assign (.const (.int .i64 2)), none⟩])
     .ret)
    (.seq (.reg false [⟨some 28, .move (.tmp 2), none⟩,
        ⟨some 29, .buildSlice 32 1 #[(0, (.tmp 28))], none⟩,
        ⟨some 30, .call { callee := .value (.func 52), args := #[.const (.int .i64 0), .const (.int .i64 1000), .tmp 29], argTypes := #[3, 3, 32] }, none⟩,
        ⟨some 31, .unOp .not 4 (.tmp 30), none⟩,
        ⟨some 27, .assign (.tmp 31), none⟩])
     (.cond (.tmp 27)
      (.seq (.reg false [⟨some 6, .assign (.const (.int .i64 3)), none⟩])
       .ret)
      (.seq (.reg false [⟨some 33, .move (.tmp 1), none⟩,
          ⟨some 34, .call { callee := .builtin .len, args := #[.tmp 33], argTypes := #[32] }, none⟩,
          ⟨some 35, .fieldAddr 31 (.tmp 3) 0, none⟩,
          ⟨some 36, .load 3 (.tmp 35), none⟩,
          ⟨some 37, .binOp .gtr 3 (.tmp 34) (.tmp 36) 3, none⟩,
          ⟨some 32, .assign (.tmp 37), none⟩])
       (.cond (.tmp 32)
        (.seq (.reg false [⟨some 6, .assign (.const (.int .i64 5)), none⟩])
         .ret)
        (.seq (.reg false [⟨some 39, .move (.tmp 1), none⟩,
            ⟨some 40, .call { callee := .value (.func 52), args := #[.const (.int .i64 0), .const (.int .i64 100000), .tmp 39], argTypes := #[3, 3, 32] }, none⟩,
            ⟨some 41, .unOp .not 4 (.tmp 40), none⟩,
            ⟨some 38, .assign (.tmp 41), none⟩])
         (.cond (.tmp 38)
          (.seq (.reg false [⟨some 6, .assign (.const (.int .i64 4)), none⟩])
           .ret)
          .skip)))))))))
 (.seq (.reg false [⟨some 6, .assign (.const (.int .i64 0)), none⟩])
 .ret)))⟩
theorem sf41 : sfOf Try.f41 = some s41 := by kernel_rfl
theorem hb41 : hasBody Try.prog 41 = true := by kernel_rfl
def s42 : SF := ⟨24, [.cell 6 117],
 (.seq (.reg false [⟨some 3, .box 31 (.tmp 0), none⟩,
    ⟨some 6, .alloc 117, none⟩])
 (.seq (.reg false [⟨some 10, .load 31 (.tmp 3), none⟩,
    ⟨some 11, .move (.tmp 2), none⟩,
    ⟨some 12, .build 117 #[(0, (.tmp 10)), (1, (.tmp 11))], none⟩,
    ⟨some 7, .alloc 117, none⟩,
    ⟨none, .store 117 (.tmp 7) (.tmp 12), none⟩])
 (.seq (.seq (.reg false [⟨some 13, .move (.tmp 1), none⟩,
     ⟨some 14, .call { callee := .builtin .len, args := #[.tmp 13], argTypes := #[32] }, none⟩,
     ⟨some 15, .move (.const (.int .i64 0)), none⟩])
  (.block 0 (.loop (.seq (.reg false [⟨some 16, .binOp .lss 3 (.tmp 15) (.tmp 14) 3, none⟩])
    (.seq (.cond (.tmp 16)
      .skip
      (.exit 0))
    (.seq (.block 1 (.seq (.reg false [⟨some 17, .indexAddr 32 (.tmp 13) (.tmp 15), none⟩,
         ⟨some 18, .load 3 (.tmp 17), none⟩,
         ⟨some 9, .assign (.tmp 18), none⟩])
      (.reg false [⟨some 19, .load 117 (.tmp 7), none⟩,
        ⟨some 20, .move (.tmp 9), none⟩,
        ⟨some 21, .call { callee := .value (.func 75), args := #[.tmp 19, .tmp 20], argTypes := #[117, 3] }, none⟩,
        ⟨none, .store 117 (.tmp 7) (.tmp 21), none⟩])))
    (.reg false [⟨some 22, .binOp .add 3 (.tmp 15) (.const (.int .i64 1)) 3, none⟩,
      ⟨some 15, .move (.tmp 22), none⟩])))))))
 (.seq (.reg false [⟨some 23, .load 117 (.tmp 7), none⟩,
    ⟨none, .store 117 (.tmp 6) (.tmp 23), none⟩])
 .ret))))⟩
theorem sf42 : sfOf Try.f42 = some s42 := by kernel_rfl
theorem hb42 : hasBody Try.prog 42 = true := by kernel_rfl
def s43 : SF := ⟨14, [.tmp 2],
 (.seq (.reg false [⟨some 1, .box 117 (.tmp 0), none⟩,
    ⟨some 2, .assign (.const (.int .i64 0)), none⟩])
 (.seq (.block 0 (.seq (.reg false [⟨some 4, .load 117 (.tmp 1), none⟩,
      ⟨some 5, .fieldAddr 117 (.tmp 1) 3, none⟩,
      ⟨some 6, .load 115 (.tmp 5), none⟩,
      ⟨some 7, .call { callee := .value (.func 76), args := #[.tmp 4, .tmp 6, .const (.int .i64 0)], argTypes := #[117, 115, 3] }, none⟩,
      ⟨some 3, .assign (.tmp 7), none⟩])
   (.cond (.tmp 3)
    (.seq (.reg false [⟨some 2, .assign (.const (.int .i64 1)), none⟩])
     .ret)
    (.seq (.reg false [⟨some 9, .load 117 (.tmp 1), none⟩,
        ⟨some 10, .fieldAddr 117 (.tmp 1) 4, none⟩,
        ⟨some 11, .load 115 (.tmp 10), none⟩,
        ⟨some 12, .call { callee := .value (.func 76), args := #[.tmp 9, .tmp 11, .const (.int .i64 100000)], argTypes := #[117, 115, 3] }, none⟩,
        ⟨some 13, .unOp .not 4 (.tmp 12), none⟩,
        ⟨some 8, .assign (.tmp 13), none⟩])
     (.cond (.tmp 8)
      (.seq (.reg false [⟨some 2, .assign (.const (.int .i64 2)), none⟩])
       .ret)
      .skip)))))
 (.seq (.reg false [⟨some 2, .assign (.const (.int .i64 3)), none⟩])
 .ret)))⟩
theorem sf43 : sfOf Try.f43 = some s43 := by kernel_rfl
theorem hb43 : hasBody Try.prog 43 = true := by kernel_rfl
def s44 : SF := ⟨23, [.cell 4 121, .tmp 5],
 (.seq (.reg false [⟨some 2, .box 27 (.tmp 0), none⟩,
    ⟨some 4, .alloc 121, none⟩,
    ⟨some 5, .assign (.const (.int .i64 0)), none⟩])
 (.seq (.reg false [⟨some 9, .load 27 (.tmp 2), none⟩,
    ⟨some 10, .call { callee := .value (.func 77), args := #[.tmp 9], argTypes := #[27] }, none⟩,
    ⟨some 8, .move (.tmp 10), none⟩,
    ⟨some 11, .extract (.tmp 8) 0, none⟩,
    ⟨some 12, .extract (.tmp 8) 1, none⟩,
    ⟨some 6, .alloc 121, none⟩,
    ⟨none, .store 121 (.tmp 6) (.tmp 11), none⟩,
    ⟨some 7, .assign (.tmp 12), none⟩])
 (.seq (.seq (.reg false [⟨some 13, .move (.tmp 7), none⟩,
     ⟨some 14, .binOp .eql 34 (.tmp 13) (.const (.int .i64 0)) 34, none⟩,
     ⟨some 15, .move (.tmp 14), none⟩,
     ⟨some 16, .move (.tmp 1), some (15, true)⟩,
     ⟨some 17, .buildSlice 32 1 #[(0, (.tmp 16))], some (15, true)⟩,
     ⟨some 18, .call { callee := .value (.func 78), args := #[.tmp 17], argTypes := #[32] }, some (15, true)⟩,
     ⟨some 19, .unOp .not 4 (.tmp 18), some (15, true)⟩,
     ⟨some 20, .pick (.tmp 15) (.tmp 19) (.const (.bool false)), none⟩])
  (.cond (.tmp 20)
   (.reg false [⟨some 7, .assign (.const (.int .i64 3)), none⟩])
   .skip))
 (.seq (.reg false [⟨some 21, .load 121 (.tmp 6), none⟩,
    ⟨some 22, .move (.tmp 7), none⟩,
    ⟨none, .store 121 (.tmp 4) (.tmp 21), none⟩,
    ⟨some 5, .assign (.tmp 22), none⟩])
 .ret))))⟩
theorem sf44 : sfOf Try.f44 = some s44 := by kernel_rfl
theorem hb44 : hasBody Try.prog 44 = true := by kernel_rfl
def s45 : SF := ⟨11, [.tmp 6],
 (.seq (.reg false [⟨some 3, .box 3 (.tmp 0), none⟩,
    ⟨some 4, .box 3 (.tmp 1), none⟩,
    ⟨some 6, .assign (.const (.bool false)), none⟩])
 (.seq (.reg false [⟨some 7, .move (.tmp 2), none⟩,
    ⟨some 8, .makeFunc (.func 80) #[] #[.tmp 3, .tmp 4], none⟩,
    ⟨some 9, .call { callee := .value (.func 79), args := #[.tmp 7, .tmp 8], argTypes := #[32, 182] }, none⟩,
    ⟨some 10, .unOp .not 4 (.tmp 9), none⟩,
    ⟨some 6, .assign (.tmp 10), none⟩])
 .ret))⟩
theorem sf45 : sfOf Try.f45 = some s45 := by kernel_rfl
theorem hb45 : hasBody Try.prog 45 = true := by kernel_rfl
def s46 : SF := ⟨20, [.tmp 4],
 (.seq (.reg false [⟨some 2, .box 121 (.tmp 0), none⟩,
    ⟨some 4, .assign (.const (.int .i64 0)), none⟩])
 (.seq (.reg true [⟨some 5, .load 121 (.tmp 2), none⟩,
    ⟨some 6, .move (.tmp 1), none⟩,
    ⟨some 7, .call { callee := .value (.func 47), args := #[.tmp 5, .tmp 6], argTypes := #[121, 3] }, none⟩,
    ⟨some 8, .call { callee := .value (.func 82), args := #[.tmp 7], argTypes := #[42] }, none⟩,
    ⟨some 9, .fieldAddr 121 (.tmp 2) 0, none⟩,
    ⟨some 10, .fieldAddr 27 (.tmp 9) 9, none⟩,
    ⟨some 11, .load 3 (.tmp 10), none⟩,
    ⟨some 12, .binOp .add 3 (.const (.int .i64 1000)) (.tmp 11) 3, none⟩,
    ⟨some 13, .binOp .mul 3 (.tmp 8) (.tmp 12) 3, none⟩,
    ⟨some 14, .load 121 (.tmp 2), none⟩,
    ⟨some 15, .move (.tmp 1), none⟩,
    ⟨some 16, .call { callee := .value (.func 83), args := #[.tmp 14, .tmp 15], argTypes := #[121, 3] }, none⟩,
    ⟨some 17, .binOp .sub 3 (.const (.int .i64 1000)) (.tmp 16) 3, none⟩,
    ⟨some 18, .binOp .mul 3 (.tmp 13) (.tmp 17) 3, none⟩,
    ⟨some 19, .call { callee := .value (.func 81), args := #[.tmp 18, .const (.int .i64 1000000)], argTypes := #[3, 3] }, none⟩,
    ⟨some 4, .assign (.tmp 19), none⟩])
 .ret))⟩
theorem sf46 : sfOf Try.f46 = some s46 := by kernel_rfl
theorem hb46 : hasBody Try.prog 46 = true := by kernel_rfl
def s47 : SF := ⟨48, [.cell 4 42],
 (.seq (.reg false [⟨some 2, .box 121 (.tmp 0), none⟩,
    ⟨some 4, .alloc 42, none⟩])
 (.seq (.reg true [⟨some 5, .move (.tmp 1), none⟩,
    ⟨some 6, .fieldAddr 121 (.tmp 2) 0, none⟩,
    ⟨some 7, .fieldAddr 27 (.tmp 6) 0, none⟩,
    ⟨some 8, .load 3 (.tmp 7), none⟩,
    ⟨some 9, .binOp .mul 3 (.tmp 5) (.tmp 8) 3, none⟩,
    ⟨some 10, .fieldAddr 121 (.tmp 2) 0, none⟩,
    ⟨some 11, .fieldAddr 27 (.tmp 10) 2, none⟩,
    ⟨some 12, .load 3 (.tmp 11), none⟩,
    ⟨some 13, .binOp .add 3 (.const (.int .i64 1000)) (.tmp 12) 3, none⟩,
    ⟨some 14, .binOp .mul 3 (.tmp 9) (.tmp 13) 3, none⟩,
    ⟨some 15, .fieldAddr 121 (.tmp 2) 0, none⟩,
    ⟨some 16, .fieldAddr 27 (.tmp 15) 1, none⟩,
    ⟨some 17, .load 3 (.tmp 16), none⟩,
    ⟨some 18, .binOp .mul 3 (.tmp 14) (.tmp 17) 3, none⟩,
    ⟨some 19, .call { callee := .value (.func 81), args := #[.tmp 18, .const (.int .i64 10000000000)], argTypes := #[3, 3] }, none⟩,
    ⟨some 20, .fieldAddr 121 (.tmp 2) 0, none⟩,
    ⟨some 21, .fieldAddr 27 (.tmp 20) 3, none⟩,
    ⟨some 22, .load 3 (.tmp 21), none⟩,
    ⟨some 23, .fieldAddr 121 (.tmp 2) 0, none⟩,
    ⟨some 24, .fieldAddr 27 (.tmp 23) 4, none⟩,
    ⟨some 25, .load 3 (.tmp 24), none⟩,
    ⟨some 26, .move (.tmp 1), none⟩,
    ⟨some 27, .fieldAddr 121 (.tmp 2) 0, none⟩,
    ⟨some 28, .fieldAddr 27 (.tmp 27) 5, none⟩,
    ⟨some 29, .load 3 (.tmp 28), none⟩,
    ⟨some 30, .call { callee := .value (.func 81), args := #[.tmp 26, .tmp 29], argTypes := #[3, 3] }, none⟩,
    ⟨some 31, .binOp .mul 3 (.tmp 25) (.tmp 30) 3, none⟩,
    ⟨some 32, .fieldAddr 121 (.tmp 2) 0, none⟩,
    ⟨some 33, .fieldAddr 27 (.tmp 32) 6, none⟩,
    ⟨some 34, .load 3 (.tmp 33), none⟩,
    ⟨some 35, .move (.tmp 1), none⟩,
    ⟨some 36, .binOp .mul 3 (.tmp 34) (.tmp 35) 3, none⟩,
    ⟨some 37, .call { callee := .value (.func 81), args := #[.tmp 36, .const (.int .i64 1000)], argTypes := #[3, 3] }, none⟩,
    ⟨some 38, .fieldAddr 121 (.tmp 2) 0, none⟩,
    ⟨some 39, .fieldAddr 27 (.tmp 38) 8, none⟩,
    ⟨some 40, .load 3 (.tmp 39), none⟩,
    ⟨some 41, .move (.tmp 1), none⟩,
    ⟨some 42, .fieldAddr 121 (.tmp 2) 0, none⟩,
    ⟨some 43, .fieldAddr 27 (.tmp 42) 7, none⟩,
    ⟨some 44, .load 3 (.tmp 43), none⟩,
    ⟨some 45, .call { callee := .value (.func 81), args := #[.tmp 41, .tmp 44], argTypes := #[3, 3] }, none⟩,
    ⟨some 46, .binOp .mul 3 (.tmp 40) (.tmp 45) 3, none⟩,
    ⟨some 47, .build 42 #[(0, (.tmp 19)), (1, (.tmp 22)), (2, (.tmp 31)), (3, (.tmp 37)), (4, (.tmp 46))], none⟩,
    ⟨none, .store 42 (.tmp 4) (.tmp 47), none⟩])
 .ret))⟩
theorem sf47 : sfOf Try.f47 = some s47 := by kernel_rfl
theorem hb47 : hasBody Try.prog 47 = true := by kernel_rfl
def s52 : SF := ⟨11, [.tmp 6],
 (.seq (.reg false [⟨some 3, .box 3 (.tmp 0), none⟩,
    ⟨some 4, .box 3 (.tmp 1), none⟩,
    ⟨some 6, .assign (.const (.bool false)), none⟩])
 (.seq (.reg false [⟨some 7, .move (.tmp 2), none⟩,
    ⟨some 8, .makeFunc (.func 91) #[] #[.tmp 3, .tmp 4], none⟩,
    ⟨some 9, .call { callee := .value (.func 79), args := #[.tmp 7, .tmp 8], argTypes := #[32, 182] }, none⟩,
    ⟨some 10, .unOp .not 4 (.tmp 9), none⟩,
    ⟨some 6, .assign (.tmp 10), none⟩])
 .ret))⟩
theorem sf52 : sfOf Try.f52 = some s52 := by kernel_rfl
theorem hb52 : hasBody Try.prog 52 = true := by kernel_rfl
end Go.Dw.Seat
end
section
namespace Go.Dw.Seat
open Go Go.Dw Go.Proofs
def s74 : SF := ⟨47, [.cell 4 3],
 (.seq (.reg false [⟨some 2, .box 121 (.tmp 0), none⟩,
    ⟨some 3, .box 3 (.tmp 1), none⟩,
    ⟨some 4, .alloc 3, none⟩])
 (.seq (.seq (.reg false [⟨some 7, .load 121 (.tmp 2), none⟩,
     ⟨some 8, .makeFunc (.func 116) #[.tmp 7] #[], none⟩])
  (.block 0 (.rng (.tmp 8) [9]
    (.reg false [⟨some 5, .alloc 60, none⟩,
       ⟨none, .store 60 (.tmp 5) (.tmp 9), none⟩])
    (.block 1 (.seq (.seq (.reg true [⟨some 10, .fieldAddr 60 (.tmp 5) 0, none⟩,
          ⟨some 11, .load 3 (.tmp 10), none⟩,
          ⟨some 12, .fieldAddr 60 (.tmp 5) 1, none⟩,
          ⟨some 13, .load 3 (.tmp 12), none⟩,
          ⟨some 14, .binOp .gtr 3 (.tmp 11) (.tmp 13) 3, none⟩,
          ⟨some 15, .move (.tmp 14), none⟩,
          ⟨some 16, .load 121 (.tmp 2), some (15, false)⟩,
          ⟨some 17, .fieldAddr 60 (.tmp 5) 0, some (15, false)⟩,
          ⟨some 18, .load 3 (.tmp 17), some (15, false)⟩,
          ⟨some 19, .call { callee := .value (.func 46), args := #[.tmp 16, .tmp 18], argTypes := #[121, 3] }, some (15, false)⟩,
          ⟨some 20, .load 3 (.tmp 3), some (15, false)⟩,
          ⟨some 21, .binOp .gtr 3 (.tmp 19) (.tmp 20) 3, some (15, false)⟩,
          ⟨some 22, .pick (.tmp 15) (.const (.bool true)) (.tmp 21), none⟩])
       (.cond (.tmp 22)
        (.exit 1)
        .skip))
      (.seq (.block 2 (.loop (.seq (.seq (.reg false [⟨some 23, .fieldAddr 60 (.tmp 5) 0, none⟩,
             ⟨some 24, .load 3 (.tmp 23), none⟩,
             ⟨some 25, .fieldAddr 60 (.tmp 5) 1, none⟩,
             ⟨some 26, .load 3 (.tmp 25), none⟩,
             ⟨some 27, .binOp .lss 3 (.tmp 24) (.tmp 26) 3, none⟩])
          (.cond (.tmp 27)
           .skip
           (.exit 2)))
         (.block 3 (.seq (.reg false [⟨some 28, .fieldAddr 60 (.tmp 5) 0, none⟩,
             ⟨some 29, .load 3 (.tmp 28), none⟩,
             ⟨some 30, .fieldAddr 60 (.tmp 5) 1, none⟩,
             ⟨some 31, .load 3 (.tmp 30), none⟩,
             ⟨some 32, .binOp .add 3 (.tmp 29) (.tmp 31) 3, none⟩,
             ⟨some 33, .binOp .add 3 (.tmp 32) (.const (.int .i64 1)) 3, none⟩,
             ⟨some 34, .binOp .quo 3 (.tmp 33) (.const (.int .i64 2)) 3, none⟩,
             ⟨some 6, .assign (.tmp 34), none⟩])
          (.seq (.reg true [⟨some 35, .load 121 (.tmp 2), none⟩,
             ⟨some 36, .move (.tmp 6), none⟩,
             ⟨some 37, .call { callee := .value (.func 46), args := #[.tmp 35, .tmp 36], argTypes := #[121, 3] }, none⟩,
             ⟨some 38, .load 3 (.tmp 3), none⟩,
             ⟨some 39, .binOp .gtr 3 (.tmp 37) (.tmp 38) 3, none⟩])
          (.cond (.tmp 39)
           (.reg false [⟨some 40, .move (.tmp 6), none⟩,
              ⟨some 41, .binOp .sub 3 (.tmp 40) (.const (.int .i64 1)) 3, none⟩,
              ⟨some 42, .fieldAddr 60 (.tmp 5) 1, none⟩,
              ⟨none, .store 3 (.tmp 42) (.tmp 41), none⟩])
           (.reg false [⟨some 43, .move (.tmp 6), none⟩,
              ⟨some 44, .fieldAddr 60 (.tmp 5) 0, none⟩,
              ⟨none, .store 3 (.tmp 44) (.tmp 43), none⟩]))))))))
      (.seq (.reg false [⟨some 45, .fieldAddr 60 (.tmp 5) 0, none⟩,
         ⟨some 46, .load 3 (.tmp 45), none⟩,
         ⟨none, .store 3 (.tmp 4) (.tmp 46), none⟩])
      .ret)))))))
 (.seq (.reg false [⟨none, .store 3 (.tmp 4) (.const (.int .i64 0)), none⟩])
 .ret)))⟩
theorem sf74 : sfOf Try.f74 = some s74 := by kernel_rfl
theorem hb74 : hasBody Try.prog 74 = true := by kernel_rfl
def s75 : SF := ⟨33, [.cell 4 117],
 (.seq (.reg false [⟨some 2, .box 117 (.tmp 0), none⟩,
    ⟨some 4, .alloc 117, none⟩])
 (.seq (.reg false [⟨some 6, .fieldAddr 117 (.tmp 2) 1, none⟩,
    ⟨some 7, .load 113 (.tmp 6), none⟩,
    ⟨some 8, .move (.tmp 1), none⟩,
    ⟨some 9, .call { callee := .value (.func 117), args := #[.tmp 7, .tmp 8], argTypes := #[113, 3] }, none⟩,
    ⟨some 5, .alloc 60, none⟩,
    ⟨none, .store 60 (.tmp 5) (.tmp 9), none⟩])
 (.seq (.reg false [⟨some 10, .fieldAddr 117 (.tmp 2) 2, none⟩,
    ⟨some 11, .load 3 (.tmp 10), none⟩,
    ⟨some 12, .binOp .add 3 (.tmp 11) (.const (.int .i64 1)) 3, none⟩,
    ⟨some 13, .fieldAddr 117 (.tmp 2) 2, none⟩,
    ⟨none, .store 3 (.tmp 13) (.tmp 12), none⟩])
 (.seq (.reg true [⟨some 14, .fieldAddr 117 (.tmp 2) 3, none⟩,
    ⟨some 15, .load 115 (.tmp 14), none⟩,
    ⟨some 16, .fieldAddr 60 (.tmp 5) 0, none⟩,
    ⟨some 17, .load 3 (.tmp 16), none⟩,
    ⟨some 18, .fieldAddr 117 (.tmp 2) 0, none⟩,
    ⟨some 19, .fieldAddr 31 (.tmp 18) 2, none⟩,
    ⟨some 20, .load 3 (.tmp 19), none⟩,
    ⟨some 21, .call { callee := .value (.func 118), args := #[.tmp 15, .tmp 17, .tmp 20], argTypes := #[115, 3, 3] }, none⟩,
    ⟨some 22, .fieldAddr 117 (.tmp 2) 4, none⟩,
    ⟨some 23, .load 115 (.tmp 22), none⟩,
    ⟨some 24, .fieldAddr 60 (.tmp 5) 1, none⟩,
    ⟨some 25, .load 3 (.tmp 24), none⟩,
    ⟨some 26, .fieldAddr 117 (.tmp 2) 0, none⟩,
    ⟨some 27, .fieldAddr 31 (.tmp 26) 2, none⟩,
    ⟨some 28, .load 3 (.tmp 27), none⟩,
    ⟨some 29, .call { callee := .value (.func 118), args := #[.tmp 23, .tmp 25, .tmp 28], argTypes := #[115, 3, 3] }, none⟩,
    ⟨some 30, .fieldAddr 117 (.tmp 2) 3, none⟩,
    ⟨none, .store 115 (.tmp 30) (.tmp 21), none⟩,
    ⟨some 31, .fieldAddr 117 (.tmp 2) 4, none⟩,
    ⟨none, .store 115 (.tmp 31) (.tmp 29), none⟩])
 (.seq (.reg false [⟨some 32, .load 117 (.tmp 2), none⟩,
    ⟨none, .store 117 (.tmp 4) (.tmp 32), none⟩])
 .ret)))))⟩
theorem sf75 : sfOf Try.f75 = some s75 := by kernel_rfl
theorem hb75 : hasBody Try.prog 75 = true := by kernel_rfl
def s76 : SF := ⟨40, [.tmp 6],
 (.seq (.reg false [⟨some 3, .box 117 (.tmp 0), none⟩,
    ⟨some 4, .box 115 (.tmp 1), none⟩,
    ⟨some 6, .assign (.const (.bool false)), none⟩])
 (.seq (.seq (.reg false [⟨some 7, .fieldAddr 117 (.tmp 3) 0, none⟩,
     ⟨some 8, .fieldAddr 31 (.tmp 7) 0, none⟩,
     ⟨some 9, .load 3 (.tmp 8), none⟩,
     ⟨some 10, .fieldAddr 117 (.tmp 3) 2, none⟩,
     ⟨some 11, .load 3 (.tmp 10), none⟩,
     ⟨some 12, .binOp .sub 3 (.tmp 9) (.tmp 11) 3, none⟩,
     ⟨some 13, .move (.const (.int .i64 0)), none⟩])
  (.block 0 (.loop (.seq (.reg false [⟨some 14, .binOp .lss 3 (.tmp 13) (.tmp 12) 3, none⟩])
    (.seq (.cond (.tmp 14)
      .skip
      (.exit 0))
    (.seq (.block 1 (.reg false [⟨some 15, .load 115 (.tmp 4), none⟩,
        ⟨some 16, .move (.tmp 2), none⟩,
        ⟨some 17, .fieldAddr 117 (.tmp 3) 0, none⟩,
        ⟨some 18, .fieldAddr 31 (.tmp 17) 2, none⟩,
        ⟨some 19, .load 3 (.tmp 18), none⟩,
        ⟨some 20, .call { callee := .value (.func 118), args := #[.tmp 15, .tmp 16, .tmp 19], argTypes := #[115, 3, 3] }, none⟩,
        ⟨none, .store 115 (.tmp 4) (.tmp 20), none⟩]))
    (.reg false [⟨some 21, .binOp .add 3 (.tmp 13) (.const (.int .i64 1)) 3, none⟩,
      ⟨some 13, .move (.tmp 21), none⟩])))))))
 (.seq (.reg false [⟨some 22, .fieldAddr 115 (.tmp 4) 0, none⟩,
    ⟨some 23, .load 3 (.tmp 22), none⟩,
    ⟨some 24, .fieldAddr 117 (.tmp 3) 0, none⟩,
    ⟨some 25, .fieldAddr 31 (.tmp 24) 0, none⟩,
    ⟨some 26, .load 3 (.tmp 25), none⟩,
    ⟨some 27, .fieldAddr 117 (.tmp 3) 0, none⟩,
    ⟨some 28, .fieldAddr 31 (.tmp 27) 1, none⟩,
    ⟨some 29, .load 3 (.tmp 28), none⟩,
    ⟨some 30, .binOp .mul 3 (.tmp 26) (.tmp 29) 3, none⟩,
    ⟨some 31, .binOp .geq 3 (.tmp 23) (.tmp 30) 3, none⟩,
    ⟨some 32, .move (.tmp 31), none⟩,
    ⟨some 33, .fieldAddr 115 (.tmp 4) 1, some (32, true)⟩,
    ⟨some 34, .load 3 (.tmp 33), some (32, true)⟩,
    ⟨some 35, .fieldAddr 117 (.tmp 3) 0, some (32, true)⟩,
    ⟨some 36, .fieldAddr 31 (.tmp 35) 3, some (32, true)⟩,
    ⟨some 37, .load 3 (.tmp 36), some (32, true)⟩,
    ⟨some 38, .binOp .leq 3 (.tmp 34) (.tmp 37) 3, some (32, true)⟩,
    ⟨some 39, .pick (.tmp 32) (.tmp 38) (.const (.bool false)), none⟩,
    ⟨some 6, .assign (.tmp 39), none⟩])
 .ret)))⟩
theorem sf76 : sfOf Try.f76 = some s76 := by kernel_rfl
theorem hb76 : hasBody Try.prog 76 = true := by kernel_rfl
def s77 : SF := ⟨67, [.cell 2 121, .tmp 3],
 (.seq (.reg false [⟨some 1, .box 27 (.tmp 0), none⟩,
    ⟨some 2, .alloc 121, none⟩,
    ⟨some 3, .assign (.const (.int .i64 0)), none⟩])
 (.seq (.reg false [⟨some 4, .assign (.func 119), none⟩])
 (.seq (.reg false [⟨some 6, .fieldAddr 27 (.tmp 1) 10, none⟩,
    ⟨some 7, .load 25 (.tmp 6), none⟩,
    ⟨some 8, .call { callee := .value (.func 120), args := #[.tmp 7, .func 121], argTypes := #[25, 219] }, none⟩,
    ⟨some 5, .assign (.tmp 8), none⟩])
 (.seq (.block 0 (.seq (.reg false [⟨some 10, .fieldAddr 27 (.tmp 1) 10, none⟩,
      ⟨some 11, .load 25 (.tmp 10), none⟩,
      ⟨some 12, .call { callee := .builtin .len, args := #[.tmp 11], argTypes := #[25] }, none⟩,
      ⟨some 13, .binOp .gtr 3 (.tmp 12) (.const (.int .i64 6)) 3, none⟩,
      ⟨some 9, .assign (.tmp 13), none⟩])
   (.cond (.tmp 9)
    (.seq (.reg false [⟨some 14, .load 121 (.tmp 2), none⟩,
        ⟨none, .store 121 (.tmp 2) (.tmp 14), none⟩,
        ⟨some 3, .assign (.const (.int .i64 5)), none⟩])
     .ret)
    (.seq (.seq (.reg false [⟨some 16, .fieldAddr 27 (.tmp 1) 10, none⟩,
         ⟨some 17, .load 25 (.tmp 16), none⟩,
         ⟨some 18, .move (.tmp 4), none⟩,
         ⟨some 19, .call { callee := .value (.func 122), args := #[.tmp 17, .tmp 18], argTypes := #[25, 217] }, none⟩,
         ⟨some 15, .assign (.tmp 19), none⟩])
      (.cond (.tmp 15)
       .skip
       (.reg false [⟨some 20, .move (.tmp 5), none⟩,
          ⟨some 21, .unOp .not 4 (.tmp 20), none⟩,
          ⟨some 15, .assign (.tmp 21), none⟩])))
     (.cond (.tmp 15)
      (.seq (.reg false [⟨some 22, .load 121 (.tmp 2), none⟩,
          ⟨none, .store 121 (.tmp 2) (.tmp 22), none⟩,
          ⟨some 3, .assign (.const (.int .i64 4)), none⟩])
       .ret)
      (.seq (.seq (.reg false [⟨some 24, .fieldAddr 27 (.tmp 1) 0, none⟩,
           ⟨some 25, .load 3 (.tmp 24), none⟩,
           ⟨some 26, .buildSlice 32 1 #[(0, (.tmp 25))], none⟩,
           ⟨some 27, .call { callee := .value (.func 45), args := #[.const (.int .i64 1), .const (.int .i64 100000), .tmp 26], argTypes := #[3, 3, 32] }, none⟩,
           ⟨some 28, .unOp .not 4 (.tmp 27), none⟩,
           ⟨some 23, .assign (.tmp 28), none⟩])
        (.cond (.tmp 23)
         .skip
         (.seq (.reg false [⟨some 29, .fieldAddr 27 (.tmp 1) 1, none⟩,
             ⟨some 30, .load 3 (.tmp 29), none⟩,
             ⟨some 31, .buildSlice 32 1 #[(0, (.tmp 30))], none⟩,
             ⟨some 32, .call { callee := .value (.func 45), args := #[.const (.int .i64 0), .const (.int .i64 100000), .tmp 31], argTypes := #[3, 3, 32] }, none⟩,
             ⟨some 33, .unOp .not 4 (.tmp 32), none⟩,
             ⟨some 23, .assign (.tmp 33), none⟩])
          (.cond (.tmp 23)
           .skip
           (.reg false [⟨some 34, .fieldAddr 27 (.tmp 1) 2, none⟩,
              ⟨some 35, .load 3 (.tmp 34), none⟩,
              ⟨some 36, .buildSlice 32 1 #[(0, (.tmp 35))], none⟩,
              ⟨some 37, .call { callee := .value (.func 45), args := #[.const (.int .i64 0), .const (.int .i64 500), .tmp 36], argTypes := #[3, 3, 32] }, none⟩,
              ⟨some 38, .unOp .not 4 (.tmp 37), none⟩,
              ⟨some 23, .assign (.tmp 38), none⟩])))))
       (.cond (.tmp 23)
        (.seq (.reg false [⟨some 39, .load 121 (.tmp 2), none⟩,
            ⟨none, .store 121 (.tmp 2) (.tmp 39), none⟩,
            ⟨some 3, .assign (.const (.int .i64 2)), none⟩])
         .ret)
        (.seq (.seq (.reg false [⟨some 41, .fieldAddr 27 (.tmp 1) 3, none⟩,
             ⟨some 42, .load 3 (.tmp 41), none⟩,
             ⟨some 43, .fieldAddr 27 (.tmp 1) 4, none⟩,
             ⟨some 44, .load 3 (.tmp 43), none⟩,
             ⟨some 45, .fieldAddr 27 (.tmp 1) 6, none⟩,
             ⟨some 46, .load 3 (.tmp 45), none⟩,
             ⟨some 47, .fieldAddr 27 (.tmp 1) 8, none⟩,
             ⟨some 48, .load 3 (.tmp 47), none⟩,
             ⟨some 49, .buildSlice 32 4 #[(0, (.tmp 42)), (1, (.tmp 44)), (2, (.tmp 46)), (3, (.tmp 48))], none⟩,
             ⟨some 50, .call { callee := .value (.func 45), args := #[.const (.int .i64 0), .const (.int .i64 1000000), .tmp 49], argTypes := #[3, 3, 32] }, none⟩,
             ⟨some 51, .unOp .not 4 (.tmp 50), none⟩,
             ⟨some 40, .assign (.tmp 51), none⟩])
          (.cond (.tmp 40)
           .skip
           (.seq (.reg false [⟨some 52, .fieldAddr 27 (.tmp 1) 5, none⟩,
               ⟨some 53, .load 3 (.tmp 52), none⟩,
               ⟨some 54, .fieldAddr 27 (.tmp 1) 7, none⟩,
               ⟨some 55, .load 3 (.tmp 54), none⟩,
               ⟨some 56, .buildSlice 32 2 #[(0, (.tmp 53)), (1, (.tmp 55))], none⟩,
               ⟨some 57, .call { callee := .value (.func 78), args := #[.tmp 56], argTypes := #[32] }, none⟩,
               ⟨some 58, .unOp .not 4 (.tmp 57), none⟩,
               ⟨some 40, .assign (.tmp 58), none⟩])
            (.cond (.tmp 40)
             .skip
             (.reg false [⟨some 59, .fieldAddr 27 (.tmp 1) 9, none⟩,
                ⟨some 60, .load 3 (.tmp 59), none⟩,
                ⟨some 61, .buildSlice 32 1 #[(0, (.tmp 60))], none⟩,
                ⟨some 62, .call { callee := .value (.func 45), args := #[.const (.int .i64 0), .const (.int .i64 1000), .tmp 61], argTypes := #[3, 3, 32] }, none⟩,
                ⟨some 63, .unOp .not 4 (.tmp 62), none⟩,
                ⟨some 40, .assign (.tmp 63), none⟩])))))
         (.cond (.tmp 40)
          (.seq (.reg false [⟨some 64, .load 121 (.tmp 2), none⟩,
              ⟨none, .store 121 (.tmp 2) (.tmp 64), none⟩,
              ⟨some 3, .assign (.const (.int .i64 2)), none⟩])
           .ret)
          .skip)))))))))
 (.seq (.reg false [⟨some 65, .load 27 (.tmp 1), none⟩,
    ⟨some 66, .build 121 #[(0, (.tmp 65))], none⟩,
    ⟨none, .store 121 (.tmp 2) (.tmp 66), none⟩,
    ⟨some 3, .assign (.const (.int .i64 0)), none⟩])
 .ret)))))⟩
theorem sf77 : sfOf Try.f77 = some s77 := by kernel_rfl
theorem hb77 : hasBody Try.prog 77 = true := by kernel_rfl
def s78 : SF := ⟨5, [.tmp 2],
 (.seq (.reg false [⟨some 2, .assign (.const (.bool false)), none⟩])
 (.seq (.reg false [⟨some 3, .move (.tmp 0), none⟩,
    ⟨some 4, .call { callee := .value (.func 45), args := #[.const (.int .i64 1), .const (.int .i64 100000), .tmp 3], argTypes := #[3, 3, 32] }, none⟩,
    ⟨some 2, .assign (.tmp 4), none⟩])
 .ret))⟩
theorem sf78 : sfOf Try.f78 = some s78 := by kernel_rfl
theorem hb78 : hasBody Try.prog 78 = true := by kernel_rfl
def s79 : SF := ⟨9, [.tmp 4],
 (.seq (.reg false [⟨some 4, .assign (.const (.bool false)), none⟩])
 (.seq (.reg false [⟨some 5, .move (.tmp 0), none⟩,
    ⟨some 6, .move (.tmp 1), none⟩,
    ⟨some 7, .call { callee := .value (.func 123), args := #[.tmp 5, .tmp 6], argTypes := #[32, 182] }, none⟩,
    ⟨some 8, .binOp .geq 3 (.tmp 7) (.const (.int .i64 0)) 3, none⟩,
    ⟨some 4, .assign (.tmp 8), none⟩])
 .ret))⟩
theorem sf79 : sfOf Try.f79 = some s79 := by kernel_rfl
theorem hb79 : hasBody Try.prog 79 = true := by kernel_rfl
def s80 : SF := ⟨13, [.tmp 4],
 (.seq (.reg false [⟨some 4, .assign (.const (.bool false)), none⟩])
 (.seq (.reg false [⟨some 5, .move (.tmp 0), none⟩,
    ⟨some 6, .load 3 (.tmp 1), none⟩,
    ⟨some 7, .binOp .lss 3 (.tmp 5) (.tmp 6) 3, none⟩,
    ⟨some 8, .move (.tmp 7), none⟩,
    ⟨some 9, .move (.tmp 0), some (8, false)⟩,
    ⟨some 10, .load 3 (.tmp 2), some (8, false)⟩,
    ⟨some 11, .binOp .gtr 3 (.tmp 9) (.tmp 10) 3, some (8, false)⟩,
    ⟨some 12, .pick (.tmp 8) (.const (.bool true)) (.tmp 11), none⟩,
    ⟨some 4, .assign (.tmp 12), none⟩])
 .ret))⟩
theorem sf80 : sfOf Try.f80 = some s80 := by kernel_rfl
theorem hb80 : hasBody Try.prog 80 = true := by kernel_rfl
def s81 : SF := ⟨11, [.tmp 4],
 (.seq (.reg false [⟨some 4, .assign (.const (.int .i64 0)), none⟩])
 (.seq (.reg false [⟨some 5, .move (.tmp 0), none⟩,
    ⟨some 6, .move (.tmp 1), none⟩,
    ⟨some 7, .binOp .add 3 (.tmp 5) (.tmp 6) 3, none⟩,
    ⟨some 8, .binOp .sub 3 (.tmp 7) (.const (.int .i64 1)) 3, none⟩,
    ⟨some 9, .move (.tmp 1), none⟩,
    ⟨some 10, .binOp .quo 3 (.tmp 8) (.tmp 9) 3, none⟩,
    ⟨some 4, .assign (.tmp 10), none⟩])
 .ret))⟩
theorem sf81 : sfOf Try.f81 = some s81 := by kernel_rfl
theorem hb81 : hasBody Try.prog 81 = true := by kernel_rfl
def s82 : SF := ⟨17, [.tmp 2],
 (.seq (.reg false [⟨some 1, .box 42 (.tmp 0), none⟩,
    ⟨some 2, .assign (.const (.int .i64 0)), none⟩])
 (.seq (.reg false [⟨some 3, .fieldAddr 42 (.tmp 1) 0, none⟩,
    ⟨some 4, .load 3 (.tmp 3), none⟩,
    ⟨some 5, .fieldAddr 42 (.tmp 1) 1, none⟩,
    ⟨some 6, .load 3 (.tmp 5), none⟩,
    ⟨some 7, .binOp .add 3 (.tmp 4) (.tmp 6) 3, none⟩,
    ⟨some 8, .fieldAddr 42 (.tmp 1) 2, none⟩,
    ⟨some 9, .load 3 (.tmp 8), none⟩,
    ⟨some 10, .binOp .add 3 (.tmp 7) (.tmp 9) 3, none⟩,
    ⟨some 11, .fieldAddr 42 (.tmp 1) 3, none⟩,
    ⟨some 12, .load 3 (.tmp 11), none⟩,
    ⟨some 13, .binOp .add 3 (.tmp 10) (.tmp 12) 3, none⟩,
    ⟨some 14, .fieldAddr 42 (.tmp 1) 4, none⟩,
    ⟨some 15, .load 3 (.tmp 14), none⟩,
    ⟨some 16, .binOp .add 3 (.tmp 13) (.tmp 15) 3, none⟩,
    ⟨some 2, .assign (.tmp 16), none⟩])
 .ret))⟩
theorem sf82 : sfOf Try.f82 = some s82 := by kernel_rfl
theorem hb82 : hasBody Try.prog 82 = true := by kernel_rfl
def s83 : SF := ⟨23, [.tmp 4],
 (.seq (.reg false [⟨some 2, .box 121 (.tmp 0), none⟩,
    ⟨some 4, .assign (.const (.int .i64 0)), none⟩])
 (.seq (.seq (.reg false [⟨some 7, .fieldAddr 121 (.tmp 2) 0, none⟩,
     ⟨some 8, .fieldAddr 27 (.tmp 7) 10, none⟩,
     ⟨some 9, .load 25 (.tmp 8), none⟩,
     ⟨some 10, .call { callee := .builtin .len, args := #[.tmp 9], argTypes := #[25] }, none⟩,
     ⟨some 11, .move (.const (.int .i64 0)), none⟩])
  (.block 0 (.loop (.seq (.reg false [⟨some 12, .binOp .lss 3 (.tmp 11) (.tmp 10) 3, none⟩])
    (.seq (.cond (.tmp 12)
      .skip
      (.exit 0))
    (.seq (.block 1 (.seq (.reg false [⟨some 13, .indexAddr 25 (.tmp 9) (.tmp 11), none⟩,
         ⟨some 14, .load 110 (.tmp 13), none⟩,
         ⟨some 6, .alloc 110, none⟩,
         ⟨none, .store 110 (.tmp 6) (.tmp 14), none⟩])
      (.seq (.reg false [⟨some 15, .fieldAddr 110 (.tmp 6) 0, none⟩,
         ⟨some 16, .load 3 (.tmp 15), none⟩,
         ⟨some 17, .move (.tmp 1), none⟩,
         ⟨some 18, .binOp .leq 3 (.tmp 16) (.tmp 17) 3, none⟩])
      (.cond (.tmp 18)
       (.reg false [⟨some 19, .fieldAddr 110 (.tmp 6) 1, none⟩,
          ⟨some 20, .load 3 (.tmp 19), none⟩,
          ⟨some 4, .assign (.tmp 20), none⟩])
       .skip))))
    (.reg false [⟨some 21, .binOp .add 3 (.tmp 11) (.const (.int .i64 1)) 3, none⟩,
      ⟨some 11, .move (.tmp 21), none⟩])))))))
 (.seq (.reg false [⟨some 22, .move (.tmp 4), none⟩,
    ⟨some 4, .assign (.tmp 22), none⟩])
 .ret)))⟩
theorem sf83 : sfOf Try.f83 = some s83 := by kernel_rfl
theorem hb83 : hasBody Try.prog 83 = true := by kernel_rfl
def s91 : SF := ⟨13, [.tmp 4],
 (.seq (.reg false [⟨some 4, .assign (.const (.bool false)), none⟩])
 (.seq (.reg false [⟨some 5, .move (.tmp 0), none⟩,
    ⟨some 6, .load 3 (.tmp 1), none⟩,
    ⟨some 7, .binOp .lss 3 (.tmp 5) (.tmp 6) 3, none⟩,
    ⟨some 8, .move (.tmp 7), none⟩,
    ⟨some 9, .move (.tmp 0), some (8, false)⟩,
    ⟨some 10, .load 3 (.tmp 2), some (8, false)⟩,
    ⟨some 11, .binOp .gtr 3 (.tmp 9) (.tmp 10) 3, some (8, false)⟩,
    ⟨some 12, .pick (.tmp 8) (.const (.bool true)) (.tmp 11), none⟩,
    ⟨some 4, .assign (.tmp 12), none⟩])
 .ret))⟩
theorem sf91 : sfOf Try.f91 = some s91 := by kernel_rfl
theorem hb91 : hasBody Try.prog 91 = true := by kernel_rfl
def s116 : SF := ⟨29, [],
 (.seq (.reg false [⟨some 2, .box 121 (.tmp 0), none⟩,
    ⟨some 3, .box 203 (.tmp 1), none⟩])
 (.seq (.reg false [⟨some 4, .alloc 3, none⟩,
    ⟨none, .store 3 (.tmp 4) (.const (.int .i64 100000)), none⟩])
 (.seq (.seq (.reg false [⟨some 7, .fieldAddr 121 (.tmp 2) 0, none⟩,
     ⟨some 8, .fieldAddr 27 (.tmp 7) 10, none⟩,
     ⟨some 9, .load 25 (.tmp 8), none⟩,
     ⟨some 10, .call { callee := .value (.func 148), args := #[.tmp 9], argTypes := #[25] }, none⟩])
  (.block 0 (.rng (.tmp 10) [11, 12]
    (.reg false [⟨some 6, .alloc 110, none⟩,
       ⟨none, .store 110 (.tmp 6) (.tmp 12), none⟩])
    (.block 1 (.seq (.seq (.reg false [⟨some 13, .load 203 (.tmp 3), none⟩,
          ⟨some 14, .fieldAddr 110 (.tmp 6) 0, none⟩,
          ⟨some 15, .load 3 (.tmp 14), none⟩,
          ⟨some 16, .load 3 (.tmp 4), none⟩,
          ⟨some 17, .build 60 #[(0, (.tmp 15)), (1, (.tmp 16))], none⟩,
          ⟨some 18, .call { callee := .value (.tmp 13), args := #[.tmp 17], argTypes := #[60] }, none⟩,
          ⟨some 19, .unOp .not 4 (.tmp 18), none⟩])
       (.cond (.tmp 19)
        .ret
        .skip))
      (.reg false [⟨some 20, .fieldAddr 110 (.tmp 6) 0, none⟩,
        ⟨some 21, .load 3 (.tmp 20), none⟩,
        ⟨some 22, .binOp .sub 3 (.tmp 21) (.const (.int .i64 1)) 3, none⟩,
        ⟨none, .store 3 (.tmp 4) (.tmp 22), none⟩]))))))
 (.seq (.reg false [⟨some 23, .load 3 (.tmp 4), none⟩,
    ⟨some 24, .binOp .gtr 3 (.tmp 23) (.const (.int .i64 0)) 3, none⟩])
 (.cond (.tmp 24)
  (.reg false [⟨some 25, .load 203 (.tmp 3), none⟩,
     ⟨some 26, .load 3 (.tmp 4), none⟩,
     ⟨some 27, .build 60 #[(0, (.const (.int .i64 1))), (1, (.tmp 26))], none⟩,
     ⟨some 28, .call { callee := .value (.tmp 25), args := #[.tmp 27], argTypes := #[60] }, none⟩])
  .skip)))))⟩
theorem sf116 : sfOf Try.f116 = some s116 := by kernel_rfl
theorem hb116 : hasBody Try.prog 116 = true := by kernel_rfl
def s117 : SF := ⟨14, [.cell 4 60],
 (.seq (.reg false [⟨some 4, .alloc 60, none⟩])
 (.seq (.reg false [⟨some 5, .move (.tmp 1), none⟩,
    ⟨some 6, .move (.tmp 0), none⟩,
    ⟨some 7, .binOp .sub 3 (.tmp 5) (.tmp 6) 3, none⟩,
    ⟨some 8, .call { callee := .builtin .max, args := #[.const (.int .i64 0), .tmp 7], argTypes := #[3, 3] }, none⟩,
    ⟨some 9, .move (.tmp 1), none⟩,
    ⟨some 10, .move (.tmp 0), none⟩,
    ⟨some 11, .binOp .add 3 (.tmp 9) (.tmp 10) 3, none⟩,
    ⟨some 12, .call { callee := .builtin .min, args := #[.const (.int .i64 100000), .tmp 11], argTypes := #[3, 3] }, none⟩,
    ⟨some 13, .build 60 #[(0, (.tmp 8)), (1, (.tmp 12))], none⟩,
    ⟨none, .store 60 (.tmp 4) (.tmp 13), none⟩])
 .ret))⟩
theorem sf117 : sfOf Try.f117 = some s117 := by kernel_rfl
theorem hb117 : hasBody Try.prog 117 = true := by kernel_rfl
def s118 : SF := ⟨20, [.cell 6 115],
 (.seq (.reg false [⟨some 3, .box 115 (.tmp 0), none⟩,
    ⟨some 6, .alloc 115, none⟩])
 (.seq (.reg false [⟨some 7, .fieldAddr 115 (.tmp 3) 0, none⟩,
    ⟨some 8, .load 3 (.tmp 7), none⟩,
    ⟨some 9, .move (.tmp 1), none⟩,
    ⟨some 10, .binOp .add 3 (.tmp 8) (.tmp 9) 3, none⟩,
    ⟨some 11, .fieldAddr 115 (.tmp 3) 0, none⟩,
    ⟨none, .store 3 (.tmp 11) (.tmp 10), none⟩])
 (.seq (.seq (.reg false [⟨some 12, .move (.tmp 1), none⟩,
     ⟨some 13, .move (.tmp 2), none⟩,
     ⟨some 14, .binOp .lss 3 (.tmp 12) (.tmp 13) 3, none⟩])
  (.cond (.tmp 14)
   (.reg false [⟨some 15, .fieldAddr 115 (.tmp 3) 1, none⟩,
      ⟨some 16, .load 3 (.tmp 15), none⟩,
      ⟨some 17, .binOp .add 3 (.tmp 16) (.const (.int .i64 1)) 3, none⟩,
      ⟨some 18, .fieldAddr 115 (.tmp 3) 1, none⟩,
      ⟨none, .store 3 (.tmp 18) (.tmp 17), none⟩])
   .skip))
 (.seq (.reg false [⟨some 19, .load 115 (.tmp 3), none⟩,
    ⟨none, .store 115 (.tmp 6) (.tmp 19), none⟩])
 .ret))))⟩
theorem sf118 : sfOf Try.f118 = some s118 := by kernel_rfl
theorem hb118 : hasBody Try.prog 118 = true := by kernel_rfl
def s119 : SF := ⟨15, [.tmp 2],
 (.seq (.reg false [⟨some 1, .box 110 (.tmp 0), none⟩,
    ⟨some 2, .assign (.const (.bool false)), none⟩])
 (.seq (.reg false [⟨some 3, .fieldAddr 110 (.tmp 1) 0, none⟩,
    ⟨some 4, .load 3 (.tmp 3), none⟩,
    ⟨some 5, .buildSlice 32 1 #[(0, (.tmp 4))], none⟩,
    ⟨some 6, .call { callee := .value (.func 78), args := #[.tmp 5], argTypes := #[32] }, none⟩,
    ⟨some 7, .unOp .not 4 (.tmp 6), none⟩,
    ⟨some 8, .move (.tmp 7), none⟩,
    ⟨some 9, .fieldAddr 110 (.tmp 1) 1, some (8, false)⟩,
    ⟨some 10, .load 3 (.tmp 9), some (8, false)⟩,
    ⟨some 11, .buildSlice 32 1 #[(0, (.tmp 10))], some (8, false)⟩,
    ⟨some 12, .call { callee := .value (.func 45), args := #[.const (.int .i64 0), .const (.int .i64 900), .tmp 11], argTypes := #[3, 3, 32] }, some (8, false)⟩,
    ⟨some 13, .unOp .not 4 (.tmp 12), some (8, false)⟩,
    ⟨some 14, .pick (.tmp 8) (.const (.bool true)) (.tmp 13), none⟩,
    ⟨some 2, .assign (.tmp 14), none⟩])
 .ret))⟩
theorem sf119 : sfOf Try.f119 = some s119 := by kernel_rfl
theorem hb119 : hasBody Try.prog 119 = true := by kernel_rfl
def s120 : SF := ⟨25, [.tmp 4],
 (.seq (.reg false [⟨some 4, .assign (.const (.bool false)), none⟩])
 (.seq (.seq (.reg false [⟨some 6, .move (.tmp 0), none⟩,
     ⟨some 7, .call { callee := .builtin .len, args := #[.tmp 6], argTypes := #[25] }, none⟩,
     ⟨some 8, .binOp .sub 3 (.tmp 7) (.const (.int .i64 1)) 3, none⟩,
     ⟨some 5, .assign (.tmp 8), none⟩])
  (.block 0 (.loop (.seq (.seq (.reg false [⟨some 9, .move (.tmp 5), none⟩,
        ⟨some 10, .binOp .gtr 3 (.tmp 9) (.const (.int .i64 0)) 3, none⟩])
     (.cond (.tmp 10)
      .skip
      (.exit 0)))
    (.seq (.block 1 (.seq (.reg true [⟨some 13, .move (.tmp 1), none⟩,
         ⟨some 14, .move (.tmp 0), none⟩,
         ⟨some 15, .move (.tmp 5), none⟩,
         ⟨some 16, .indexAddr 25 (.tmp 14) (.tmp 15), none⟩,
         ⟨some 17, .load 110 (.tmp 16), none⟩,
         ⟨some 18, .move (.tmp 0), none⟩,
         ⟨some 19, .move (.tmp 5), none⟩,
         ⟨some 20, .binOp .sub 3 (.tmp 19) (.const (.int .i64 1)) 3, none⟩,
         ⟨some 21, .indexAddr 25 (.tmp 18) (.tmp 20), none⟩,
         ⟨some 22, .load 110 (.tmp 21), none⟩,
         ⟨some 23, .call { callee := .value (.tmp 13), args := #[.tmp 17, .tmp 22], argTypes := #[110, 110] }, none⟩,
         ⟨some 24, .binOp .lss 3 (.tmp 23) (.const (.int .i64 0)) 3, none⟩])
      (.cond (.tmp 24)
       (.seq (.reg false [⟨some 4, .assign (.const (.bool false)), none⟩])
        .ret)
       .skip)))
    (.reg false [⟨some 11, .move (.tmp 5), none⟩,
      ⟨some 12, .binOp .sub 3 (.tmp 11) (.const (.int .i64 1)) 3, none⟩,
      ⟨some 5, .assign (.tmp 12), none⟩]))))))
 (.seq (.reg false [⟨some 4, .assign (.const (.bool true)), none⟩])
 .ret)))⟩
theorem sf120 : sfOf Try.f120 = some s120 := by kernel_rfl
theorem hb120 : hasBody Try.prog 120 = true := by kernel_rfl
def s121 : SF := ⟨10, [.tmp 4],
 (.seq (.reg false [⟨some 2, .box 110 (.tmp 0), none⟩,
    ⟨some 3, .box 110 (.tmp 1), none⟩,
    ⟨some 4, .assign (.const (.int .i64 0)), none⟩])
 (.seq (.seq (.reg false [⟨some 5, .fieldAddr 110 (.tmp 2) 0, none⟩,
     ⟨some 6, .load 3 (.tmp 5), none⟩,
     ⟨some 7, .fieldAddr 110 (.tmp 3) 0, none⟩,
     ⟨some 8, .load 3 (.tmp 7), none⟩,
     ⟨some 9, .binOp .leq 3 (.tmp 6) (.tmp 8) 3, none⟩])
  (.cond (.tmp 9)
   (.seq (.reg false [⟨some 4, .assign (.const (.int .i64 (-1))), none⟩])
    .ret)
   .skip))
 (.seq (.reg false [⟨some 4, .assign (.const (.int .i64 1)), none⟩])
 .ret)))⟩
theorem sf121 : sfOf Try.f121 = some s121 := by kernel_rfl
theorem hb121 : hasBody Try.prog 121 = true := by kernel_rfl
def s122 : SF := ⟨9, [.tmp 4],
 (.seq (.reg false [⟨some 4, .assign (.const (.bool false)), none⟩])
 (.seq (.reg false [⟨some 5, .move (.tmp 0), none⟩,
    ⟨some 6, .move (.tmp 1), none⟩,
    ⟨some 7, .call { callee := .value (.func 149), args := #[.tmp 5, .tmp 6], argTypes := #[25, 217] }, none⟩,
    ⟨some 8, .binOp .geq 3 (.tmp 7) (.const (.int .i64 0)) 3, none⟩,
    ⟨some 4, .assign (.tmp 8), none⟩])
 .ret))⟩
theorem sf122 : sfOf Try.f122 = some s122 := by kernel_rfl
theorem hb122 : hasBody Try.prog 122 = true := by kernel_rfl
def s123 : SF := ⟨19, [.tmp 4],
 (.seq (.reg false [⟨some 4, .assign (.const (.int .i64 0)), none⟩])
 (.seq (.seq (.reg false [⟨some 6, .move (.tmp 0), none⟩,
     ⟨some 7, .call { callee := .builtin .len, args := #[.tmp 6], argTypes := #[32] }, none⟩,
     ⟨some 8, .move (.const (.int .i64 0)), none⟩])
  (.block 0 (.loop (.seq (.reg false [⟨some 9, .binOp .lss 3 (.tmp 8) (.tmp 7) 3, none⟩])
    (.seq (.cond (.tmp 9)
      .skip
      (.exit 0))
    (.seq (.block 1 (.seq (.reg false [⟨some 10, .move (.tmp 8), none⟩,
         ⟨some 5, .assign (.tmp 10), none⟩])
      (.seq (.reg false [⟨some 11, .move (.tmp 1), none⟩,
         ⟨some 12, .move (.tmp 0), none⟩,
         ⟨some 13, .move (.tmp 5), none⟩,
         ⟨some 14, .indexAddr 32 (.tmp 12) (.tmp 13), none⟩,
         ⟨some 15, .load 3 (.tmp 14), none⟩,
         ⟨some 16, .call { callee := .value (.tmp 11), args := #[.tmp 15], argTypes := #[3] }, none⟩])
      (.cond (.tmp 16)
       (.seq (.reg false [⟨some 17, .move (.tmp 5), none⟩,
           ⟨some 4, .assign (.tmp 17), none⟩])
        .ret)
       .skip))))
    (.reg false [⟨some 18, .binOp .add 3 (.tmp 8) (.const (.int .i64 1)) 3, none⟩,
      ⟨some 8, .move (.tmp 18), none⟩])))))))
 (.seq (.reg false [⟨some 4, .assign (.const (.int .i64 (-1))), none⟩])
 .ret)))⟩
theorem sf123 : sfOf Try.f123 = some s123 := by kernel_rfl
theorem hb123 : hasBody Try.prog 123 = true := by kernel_rfl
end Go.Dw.Seat
end
section
namespace Go.Dw.Seat
open Go Go.Dw Go.Proofs
def s148 : SF := ⟨4, [.tmp 2],
 (.seq (.reg false [⟨some 1, .box 25 (.tmp 0), none⟩,
    ⟨some 2, .assign (.const .nilFunc), none⟩])
 (.seq (.reg false [⟨some 3, .makeFunc (.func 169) #[] #[.tmp 1], none⟩,
    ⟨some 2, .assign (.tmp 3), none⟩])
 .ret))⟩
theorem sf148 : sfOf Try.f148 = some s148 := by kernel_rfl
theorem hb148 : hasBody Try.prog 148 = true := by kernel_rfl
def s149 : SF := ⟨19, [.tmp 4],
 (.seq (.reg false [⟨some 4, .assign (.const (.int .i64 0)), none⟩])
 (.seq (.seq (.reg false [⟨some 6, .move (.tmp 0), none⟩,
     ⟨some 7, .call { callee := .builtin .len, args := #[.tmp 6], argTypes := #[25] }, none⟩,
     ⟨some 8, .move (.const (.int .i64 0)), none⟩])
  (.block 0 (.loop (.seq (.reg false [⟨some 9, .binOp .lss 3 (.tmp 8) (.tmp 7) 3, none⟩])
    (.seq (.cond (.tmp 9)
      .skip
      (.exit 0))
    (.seq (.block 1 (.seq (.reg false [⟨some 10, .move (.tmp 8), none⟩,
         ⟨some 5, .assign (.tmp 10), none⟩])
      (.seq (.reg false [⟨some 11, .move (.tmp 1), none⟩,
         ⟨some 12, .move (.tmp 0), none⟩,
         ⟨some 13, .move (.tmp 5), none⟩,
         ⟨some 14, .indexAddr 25 (.tmp 12) (.tmp 13), none⟩,
         ⟨some 15, .load 110 (.tmp 14), none⟩,
         ⟨some 16, .call { callee := .value (.tmp 11), args := #[.tmp 15], argTypes := #[110] }, none⟩])
      (.cond (.tmp 16)
       (.seq (.reg false [⟨some 17, .move (.tmp 5), none⟩,
           ⟨some 4, .assign (.tmp 17), none⟩])
        .ret)
       .skip))))
    (.reg false [⟨some 18, .binOp .add 3 (.tmp 8) (.const (.int .i64 1)) 3, none⟩,
      ⟨some 8, .move (.tmp 18), none⟩])))))))
 (.seq (.reg false [⟨some 4, .assign (.const (.int .i64 (-1))), none⟩])
 .ret)))⟩
theorem sf149 : sfOf Try.f149 = some s149 := by kernel_rfl
theorem hb149 : hasBody Try.prog 149 = true := by kernel_rfl
def s169 : SF := ⟨19, [],
 (.seq (.reg false [⟨some 4, .load 25 (.tmp 1), none⟩,
    ⟨some 5, .call { callee := .builtin .len, args := #[.tmp 4], argTypes := #[25] }, none⟩,
    ⟨some 6, .binOp .sub 3 (.tmp 5) (.const (.int .i64 1)) 3, none⟩,
    ⟨some 3, .assign (.tmp 6), none⟩])
 (.block 0 (.loop (.seq (.seq (.reg false [⟨some 7, .move (.tmp 3), none⟩,
       ⟨some 8, .binOp .geq 3 (.tmp 7) (.const (.int .i64 0)) 3, none⟩])
    (.cond (.tmp 8)
     .skip
     (.exit 0)))
   (.seq (.block 1 (.seq (.reg false [⟨some 11, .move (.tmp 0), none⟩,
        ⟨some 12, .move (.tmp 3), none⟩,
        ⟨some 13, .load 25 (.tmp 1), none⟩,
        ⟨some 14, .move (.tmp 3), none⟩,
        ⟨some 15, .indexAddr 25 (.tmp 13) (.tmp 14), none⟩,
        ⟨some 16, .load 110 (.tmp 15), none⟩,
        ⟨some 17, .call { callee := .value (.tmp 11), args := #[.tmp 12, .tmp 16], argTypes := #[3, 110] }, none⟩,
        ⟨some 18, .unOp .not 4 (.tmp 17), none⟩])
     (.cond (.tmp 18)
      .ret
      .skip)))
   (.reg false [⟨some 9, .move (.tmp 3), none⟩,
     ⟨some 10, .binOp .sub 3 (.tmp 9) (.const (.int .i64 1)) 3, none⟩,
     ⟨some 3, .assign (.tmp 10), none⟩]))))))⟩
theorem sf169 : sfOf Try.f169 = some s169 := by kernel_rfl
theorem hb169 : hasBody Try.prog 169 = true := by kernel_rfl
end Go.Dw.Seat
end
section
set_option linter.unusedSimpArgs false
namespace Go.Dw.Seat
open Go Go.Dw Go.Proofs Go.IntWalk
structure Cause where
  noz : Int
  kind : Int
  frm : Int
instance : DecidableEq Cause := fun a b => decidable_of_iff (a.noz = b.noz ∧ a.kind = b.kind ∧ a.frm = b.frm) (by cases a; cases b; simp)
def eC (c : Cause) : List C := [.v (.int .i64 c.noz), .v (.int .i64 c.kind), .v (.int .i64 c.frm)]
theorem eC_nb (c : Cause) : C.nbs (eC c) = true := rfl
structure Look where
  box : Int
  noz : Int
  step : Int
  glue : Bool
instance : DecidableEq Look := fun a b => decidable_of_iff (a.box = b.box ∧ a.noz = b.noz ∧ a.step = b.step ∧ a.glue = b.glue) (by cases a; cases b; simp)
def eL (c : Look) : List C := [.v (.int .i64 c.box), .v (.int .i64 c.noz), .v (.int .i64 c.step), .v (.bool c.glue)]
theorem eL_nb (c : Look) : C.nbs (eL c) = true := rfl
structure Room where
  wl : Int
  wh : Int
  dl : Int
  dh : Int
instance : DecidableEq Room := fun a b => decidable_of_iff (a.wl = b.wl ∧ a.wh = b.wh ∧ a.dl = b.dl ∧ a.dh = b.dh) (by cases a; cases b; simp)
def eR (c : Room) : List C := [.v (.int .i64 c.wl), .v (.int .i64 c.wh), .v (.int .i64 c.dl), .v (.int .i64 c.dh)]
theorem eR_nb (c : Room) : C.nbs (eR c) = true := rfl
def eSb (b : Bool) (s : List Cause) : List C := [.sl b 3 (rows eC s)]
abbrev eS := eSb false
theorem eS_nb (s : List Cause) : C.nbs (eS s) = true := by simp [eSb, C.nbs, C.nb, rows_nb eC_nb]
def eG (s : List Int) : List C := [.sl false 1 (rows eI s)]
theorem eG_nb (s : List Int) : C.nbs (eG s) = true := by simp [eG, C.nbs, C.nb, rows_nb eI_nb]
structure Plan where
  steps : Int
  noz : List Int
abbrev dP (b : Bool) (p : Plan) : D := .agg [.c (.v (.int .i64 p.steps)), .c (.sl b 1 (rows eI p.noz))]
abbrev dCs (b : Bool) (l : List Cause) : D := .c (.sl b 3 (rows eC l))
abbrev dLs (b : Bool) (l : List Look) : D := .c (.sl b 4 (rows eL l))
abbrev dSs (b : Bool) (l : List (List Cause)) : D := .c (.sl b 1 (rows eS l))
theorem rowC_snocC (l : List Cause) (a b c : Int) : rowC (rows eC l) ++ [[D.c (.v (.int .i64 a)), D.c (.v (.int .i64 b)), D.c (.v (.int .i64 c))]] = rowC (rows eC (l ++ [⟨a, b, c⟩])) := by simp [rowC, rows, eC]
theorem rowC_snocL (l : List Look) (a b c : Int) (d : Bool) : rowC (rows eL l) ++ [[D.c (.v (.int .i64 a)), D.c (.v (.int .i64 b)), D.c (.v (.int .i64 c)), D.c (.v (.bool d))]] = rowC (rows eL (l ++ [⟨a, b, c, d⟩])) := by simp [rowC, rows, eL]
theorem rowC_snocS (l : List (List Cause)) (s : List Cause) : rowC (rows (eSb false) l) ++ [[D.c (.sl false 3 (rows eC s))]] = rowC (rows (eSb false) (l ++ [s])) := by simp [rowC, rows, eSb]
attribute [go_sem] rowC_snocC rowC_snocL rowC_snocS
attribute [go_sem] eC eL eR eS eSb eG dP dCs dLs dSs
end Go.Dw.Seat
end
section
set_option linter.unusedSimpArgs false
namespace Go.Dw.Seat
open Go Go.Dw Go.Proofs Go.IntWalk
theorem c122 (b : Bool) (l : List (Int)) (hl : l.length ≤ 2 ^ 36) (g : FuncId) (fs caps : List C) (p : Int → Bool) (hp : ∀ x ∈ l, DCall Try.prog g (fs.map D.c ++ [dI x] ++ caps.map D.c) [] (bD (p x)) []) : DCall Try.prog 123 [.c (.sl b 1 (rows eI l)), .c (.fn (.func g) fs caps)] [] (dI (idxI p l)) [] := by
  refine DCall.of Try.func123 sf123 hb123 (Nat.le_of_ble_eq_true rfl) (okRes_nil fun _ => rfl) ?_; simp only [s123, idxs, Nat.reduceAdd]
  repeat' (first
    | (with_reducible refine DW.seq ?_)
    | (with_reducible refine DW.block ?_)
    | (with_reducible refine DW.skip ?_)
    | (with_reducible refine DW.exit ?_)
    | (with_reducible refine DW.ret ?_)
    | (with_reducible refine DW.reg ?_)
    | (simp (disch := omega) only [go_sem, Nat.reduceLT, Nat.reduceLeDiff, Nat.reduceAdd, Nat.reduceMul, Nat.reduceEqDiff, ↓reduceIte, reduceCtorEq, Nat.reduceBEq, Nat.reduceBNe, Nat.reducePow, Int.reduceLE, Int.reduceLT, Int.reduceNeg, Int.reduceToNat, Int.reduceEq, Int.reduceAdd, Int.reduceSub, Int.reduceMul, Int.reduceBEq, Int.reduceBNe, Blk.men, Blk.keysIn])
    | (exact retS_of rfl rfl rfl)
    | (refine DW.cond_tt rfl ?_)
    | (refine DW.cond_ff rfl ?_)
    | (refine DW.cond rfl ?_ ?_ <;> intro hc <;> (try simp only [go_sem] at hc))
    | (refine g_split ?_ ?_ <;> intro hc <;> (try simp only [hc]) <;> (try simp only [go_sem] at hc)))
  refine DW.loop (ι := { i : Nat // i ≤ l.length ∧ ∀ j u, j < i → l[j]? = some u → p u = false }) (fun i => ⟨19, [(8, dI i.1), (7, dI l.length), (1, .c (.fn (.func g) fs caps)), (0, .c (.sl b 1 (rows eI l)))], []⟩) (fun i => l.length - i.1) ⟨0, Nat.zero_le _, fun j u h => by omega⟩ ?_ ?_
  · refine Ent.to ?_ ?_ <;> simp (disch := omega) only [wkT_cons, wkX_cons, wkT_nil, wkX_nil, get, Nat.reduceEqDiff, ↓reduceIte, ex_some, wk_self, wk_top, wk_nil, wkB_self, and_self, dI, i64_in, and_true, true_and, Int.natCast_add, Int.natCast_one, Int.ofNat_zero, Int.natCast_zero]
  rintro ⟨i, hi, hij⟩
  rcases at_or l i hi with ⟨v, hv, hlt, hd⟩ | ⟨he, hd⟩
  · have hcall := hp v (List.mem_of_getElem? hv)
    repeat' (first
    | (with_reducible refine DW.seq ?_)
    | (with_reducible refine DW.block ?_)
    | (with_reducible refine DW.skip ?_)
    | (with_reducible refine DW.exit ?_)
    | (with_reducible refine DW.ret ?_)
    | (with_reducible refine DW.reg ?_)
    | (simp (disch := omega) only [go_sem, Nat.reduceLT, Nat.reduceLeDiff, Nat.reduceAdd, Nat.reduceMul, Nat.reduceEqDiff, ↓reduceIte, reduceCtorEq, Nat.reduceBEq, Nat.reduceBNe, Nat.reducePow, Int.reduceLE, Int.reduceLT, Int.reduceNeg, Int.reduceToNat, Int.reduceEq, Int.reduceAdd, Int.reduceSub, Int.reduceMul, Int.reduceBEq, Int.reduceBNe, Blk.men, Blk.keysIn, hd, hv, closeDs_fn, List.map_cons, List.map_nil])
    | (exact retS_of rfl rfl rfl)
    | (refine DW.cond_tt rfl ?_)
    | (refine DW.cond_ff rfl ?_)
    | (refine DW.cond rfl ?_ ?_ <;> intro hc <;> (try simp only [go_sem] at hc))
    | (refine g_split ?_ ?_ <;> intro hc <;> (try simp only [hc]) <;> (try simp only [go_sem] at hc)))
    refine call_c hcall (by decide) ?_
    simp (disch := omega) only [go_sem, Nat.reduceLT, Nat.reduceLeDiff, Nat.reduceAdd, Nat.reduceMul, Nat.reduceEqDiff, ↓reduceIte, reduceCtorEq, Nat.reduceBEq, Nat.reduceBNe, Nat.reducePow, Int.reduceLE, Int.reduceLT, Int.reduceNeg, Int.reduceToNat, Int.reduceEq, Int.reduceAdd, Int.reduceSub, Int.reduceMul, Int.reduceBEq, Int.reduceBNe, Blk.men, Blk.keysIn]
    refine DW.cond rfl ?_ ?_ <;> intro hc
    · repeat' (first
    | (with_reducible refine DW.seq ?_)
    | (with_reducible refine DW.block ?_)
    | (with_reducible refine DW.skip ?_)
    | (with_reducible refine DW.exit ?_)
    | (with_reducible refine DW.ret ?_)
    | (with_reducible refine DW.reg ?_)
    | (simp (disch := omega) only [go_sem, Nat.reduceLT, Nat.reduceLeDiff, Nat.reduceAdd, Nat.reduceMul, Nat.reduceEqDiff, ↓reduceIte, reduceCtorEq, Nat.reduceBEq, Nat.reduceBNe, Nat.reducePow, Int.reduceLE, Int.reduceLT, Int.reduceNeg, Int.reduceToNat, Int.reduceEq, Int.reduceAdd, Int.reduceSub, Int.reduceMul, Int.reduceBEq, Int.reduceBNe, Blk.men, Blk.keysIn])
    | (exact retS_of rfl rfl rfl)
    | (refine DW.cond_tt rfl ?_)
    | (refine DW.cond_ff rfl ?_)
    | (refine DW.cond rfl ?_ ?_ <;> intro hc <;> (try simp only [go_sem] at hc))
    | (refine g_split ?_ ?_ <;> intro hc <;> (try simp only [hc]) <;> (try simp only [go_sem] at hc)))
      refine retS_of rfl ?_ rfl; simp only [oneD, St.op, get, Nat.reduceEqDiff, ↓reduceIte, Option.getD_some, bD, dI]
      simp only [idxI, idxOf_some hij hv hc]
    · repeat' (first
    | (with_reducible refine DW.seq ?_)
    | (with_reducible refine DW.block ?_)
    | (with_reducible refine DW.skip ?_)
    | (with_reducible refine DW.exit ?_)
    | (with_reducible refine DW.ret ?_)
    | (with_reducible refine DW.reg ?_)
    | (simp (disch := omega) only [go_sem, Nat.reduceLT, Nat.reduceLeDiff, Nat.reduceAdd, Nat.reduceMul, Nat.reduceEqDiff, ↓reduceIte, reduceCtorEq, Nat.reduceBEq, Nat.reduceBNe, Nat.reducePow, Int.reduceLE, Int.reduceLT, Int.reduceNeg, Int.reduceToNat, Int.reduceEq, Int.reduceAdd, Int.reduceSub, Int.reduceMul, Int.reduceBEq, Int.reduceBNe, Blk.men, Blk.keysIn])
    | (exact retS_of rfl rfl rfl)
    | (refine DW.cond_tt rfl ?_)
    | (refine DW.cond_ff rfl ?_)
    | (refine DW.cond rfl ?_ ?_ <;> intro hc <;> (try simp only [go_sem] at hc))
    | (refine g_split ?_ ?_ <;> intro hc <;> (try simp only [hc]) <;> (try simp only [go_sem] at hc)))
      refine ⟨⟨i + 1, by omega, fun j u hj hu => by
        rcases Nat.lt_or_ge j i with h | h
        · exact hij j u h hu
        · have : j = i := by omega
          subst this
          rw [hv] at hu; cases hu; exact hc⟩, ?_, Ent.to ?_ ?_⟩ <;> first | (show _ < _; (try simp only); omega) | (simp (disch := omega) only [wkT_cons, wkX_cons, wkT_nil, wkX_nil, get, Nat.reduceEqDiff, ↓reduceIte, ex_some, wk_self, wk_top, wk_nil, wkB_self, and_self, dI, i64_in, and_true, true_and, Int.natCast_add, Int.natCast_one, Int.ofNat_zero, Int.natCast_zero])
  · repeat' (first
    | (with_reducible refine DW.seq ?_)
    | (with_reducible refine DW.block ?_)
    | (with_reducible refine DW.skip ?_)
    | (with_reducible refine DW.exit ?_)
    | (with_reducible refine DW.ret ?_)
    | (with_reducible refine DW.reg ?_)
    | (simp (disch := omega) only [go_sem, Nat.reduceLT, Nat.reduceLeDiff, Nat.reduceAdd, Nat.reduceMul, Nat.reduceEqDiff, ↓reduceIte, reduceCtorEq, Nat.reduceBEq, Nat.reduceBNe, Nat.reducePow, Int.reduceLE, Int.reduceLT, Int.reduceNeg, Int.reduceToNat, Int.reduceEq, Int.reduceAdd, Int.reduceSub, Int.reduceMul, Int.reduceBEq, Int.reduceBNe, Blk.men, Blk.keysIn, hd])
    | (exact retS_of rfl rfl rfl)
    | (refine DW.cond_tt rfl ?_)
    | (refine DW.cond_ff rfl ?_)
    | (refine DW.cond rfl ?_ ?_ <;> intro hc <;> (try simp only [go_sem] at hc))
    | (refine g_split ?_ ?_ <;> intro hc <;> (try simp only [hc]) <;> (try simp only [go_sem] at hc)))
    refine retS_of rfl ?_ rfl; simp only [oneD, St.op, get, Nat.reduceEqDiff, ↓reduceIte, Option.getD_some, bD, dI]
    simp only [idxI, idxOf_none (he ▸ hij)]
theorem c110 (b : Bool) (l : List (Int)) (hl : l.length ≤ 2 ^ 36) (g : FuncId) (fs caps : List C) (p : Int → Bool) (hp : ∀ x ∈ l, DCall Try.prog g (fs.map D.c ++ [dI x] ++ caps.map D.c) [] (bD (p x)) []) : DCall Try.prog 79 [.c (.sl b 1 (rows eI l)), .c (.fn (.func g) fs caps)] [] (bD (l.any p)) [] := by
  refine DCall.of Try.func79 sf79 hb79 (Nat.le_of_ble_eq_true rfl) (okRes_nil fun _ => rfl) ?_; simp only [s79, idxs, Nat.reduceAdd]
  repeat' (first
    | (with_reducible refine DW.seq ?_)
    | (with_reducible refine DW.block ?_)
    | (with_reducible refine DW.skip ?_)
    | (with_reducible refine DW.exit ?_)
    | (with_reducible refine DW.ret ?_)
    | (with_reducible refine DW.reg ?_)
    | (simp (disch := omega) only [go_sem, Nat.reduceLT, Nat.reduceLeDiff, Nat.reduceAdd, Nat.reduceMul, Nat.reduceEqDiff, ↓reduceIte, reduceCtorEq, Nat.reduceBEq, Nat.reduceBNe, Nat.reducePow, Int.reduceLE, Int.reduceLT, Int.reduceNeg, Int.reduceToNat, Int.reduceEq, Int.reduceAdd, Int.reduceSub, Int.reduceMul, Int.reduceBEq, Int.reduceBNe, Blk.men, Blk.keysIn])
    | (exact retS_of rfl rfl rfl)
    | (refine DW.cond_tt rfl ?_)
    | (refine DW.cond_ff rfl ?_)
    | (refine DW.cond rfl ?_ ?_ <;> intro hc <;> (try simp only [go_sem] at hc))
    | (refine g_split ?_ ?_ <;> intro hc <;> (try simp only [hc]) <;> (try simp only [go_sem] at hc)))
  refine call_c (c122 b l hl g fs caps p hp) (by decide) ?_
  repeat' (first
    | (with_reducible refine DW.seq ?_)
    | (with_reducible refine DW.block ?_)
    | (with_reducible refine DW.skip ?_)
    | (with_reducible refine DW.exit ?_)
    | (with_reducible refine DW.ret ?_)
    | (with_reducible refine DW.reg ?_)
    | (simp (disch := omega) only [go_sem, Nat.reduceLT, Nat.reduceLeDiff, Nat.reduceAdd, Nat.reduceMul, Nat.reduceEqDiff, ↓reduceIte, reduceCtorEq, Nat.reduceBEq, Nat.reduceBNe, Nat.reducePow, Int.reduceLE, Int.reduceLT, Int.reduceNeg, Int.reduceToNat, Int.reduceEq, Int.reduceAdd, Int.reduceSub, Int.reduceMul, Int.reduceBEq, Int.reduceBNe, Blk.men, Blk.keysIn])
    | (exact retS_of rfl rfl rfl)
    | (refine DW.cond_tt rfl ?_)
    | (refine DW.cond_ff rfl ?_)
    | (refine DW.cond rfl ?_ ?_ <;> intro hc <;> (try simp only [go_sem] at hc))
    | (refine g_split ?_ ?_ <;> intro hc <;> (try simp only [hc]) <;> (try simp only [go_sem] at hc)))
  refine retS_of rfl ?_ rfl; simp only [oneD, St.op, get, Nat.reduceEqDiff, ↓reduceIte, Option.getD_some, bD, dI]
  rw [idxI_any]
end Go.Dw.Seat
end
section
set_option linter.unusedSimpArgs false
set_option maxRecDepth 100000
namespace Go.Dw.Seat
open Go Go.Dw Go.Proofs Go.IntWalk
def wthn (lo hi : Int) (l : List Int) : Bool := !(l.any fun n => decide (n < lo) || decide (hi < n))
end Go.Dw.Seat
end
section
set_option linter.unusedSimpArgs false
set_option maxRecDepth 100000
namespace Go.Dw.Seat
open Go Go.Dw Go.Proofs Go.IntWalk
theorem crW1 (n lo hi : Int) (p q : Bool) : DCall Try.prog 91 [dI n, .c (.ro p [.v (.int .i64 lo)] 0), .c (.ro q [.v (.int .i64 hi)] 0)] [] (bD (decide (n < lo) || decide (hi < n))) [] := by
  refine DCall.of Try.func91 sf91 hb91 (Nat.le_of_ble_eq_true rfl) (okRes_nil fun _ => rfl) ?_; simp only [s91, idxs, Nat.reduceAdd]
  repeat' (first
    | (with_reducible refine DW.seq ?_)
    | (with_reducible refine DW.block ?_)
    | (with_reducible refine DW.skip ?_)
    | (with_reducible refine DW.exit ?_)
    | (with_reducible refine DW.ret ?_)
    | (with_reducible refine DW.reg ?_)
    | (simp (disch := omega) only [go_sem, Nat.reduceLT, Nat.reduceLeDiff, Nat.reduceAdd, Nat.reduceMul, Nat.reduceEqDiff, ↓reduceIte, reduceCtorEq, Nat.reduceBEq, Nat.reduceBNe, Nat.reducePow, Int.reduceLE, Int.reduceLT, Int.reduceNeg, Int.reduceToNat, Int.reduceEq, Int.reduceAdd, Int.reduceSub, Int.reduceMul, Int.reduceBEq, Int.reduceBNe, Blk.men, Blk.keysIn])
    | (exact retS_of rfl rfl rfl)
    | (refine DW.cond_tt rfl ?_)
    | (refine DW.cond_ff rfl ?_)
    | (refine DW.cond rfl ?_ ?_ <;> intro hc <;> (try simp only [go_sem] at hc))
    | (refine g_split ?_ ?_ <;> intro hc <;> (try simp only [hc]) <;> (try simp only [go_sem] at hc)))
theorem crWithin (b : Bool) (lo hi : Int) (l : List Int) (hl : l.length ≤ 2 ^ 36) : DCall Try.prog 52 [dI lo, dI hi, dIs b l] [] (bD (wthn lo hi l)) [] := by
  refine DCall.of Try.func52 sf52 hb52 (Nat.le_of_ble_eq_true rfl) (okRes_nil fun _ => rfl) ?_; simp only [s52, idxs, Nat.reduceAdd]
  repeat' (first
    | (with_reducible refine DW.seq ?_)
    | (with_reducible refine DW.block ?_)
    | (with_reducible refine DW.skip ?_)
    | (with_reducible refine DW.exit ?_)
    | (with_reducible refine DW.ret ?_)
    | (with_reducible refine DW.reg ?_)
    | (simp (disch := omega) only [go_sem, Nat.reduceLT, Nat.reduceLeDiff, Nat.reduceAdd, Nat.reduceMul, Nat.reduceEqDiff, ↓reduceIte, reduceCtorEq, Nat.reduceBEq, Nat.reduceBNe, Nat.reducePow, Int.reduceLE, Int.reduceLT, Int.reduceNeg, Int.reduceToNat, Int.reduceEq, Int.reduceAdd, Int.reduceSub, Int.reduceMul, Int.reduceBEq, Int.reduceBNe, Blk.men, Blk.keysIn])
    | (exact retS_of rfl rfl rfl)
    | (refine DW.cond_tt rfl ?_)
    | (refine DW.cond_ff rfl ?_)
    | (refine DW.cond rfl ?_ ?_ <;> intro hc <;> (try simp only [go_sem] at hc))
    | (refine g_split ?_ ?_ <;> intro hc <;> (try simp only [hc]) <;> (try simp only [go_sem] at hc)))
  (refine call_c (c110 b l hl 91 [] [.ro true [.v (.int .i64 lo)] 0, .ro true [.v (.int .i64 hi)] 0] (fun n => decide (n < lo) || decide (hi < n)) (fun x _ => crW1 x lo hi true true)) (by decide) ?_; simp (disch := omega) only [go_sem, Nat.reduceLT, Nat.reduceLeDiff, Nat.reduceAdd, Nat.reduceMul, Nat.reduceEqDiff, ↓reduceIte, reduceCtorEq, Nat.reduceBEq, Nat.reduceBNe, Nat.reducePow, Int.reduceLE, Int.reduceLT, Int.reduceNeg, Int.reduceToNat, Int.reduceEq, Int.reduceAdd, Int.reduceSub, Int.reduceMul, Int.reduceBEq, Int.reduceBNe, Blk.men, Blk.keysIn])
  repeat' (first
    | (with_reducible refine DW.seq ?_)
    | (with_reducible refine DW.block ?_)
    | (with_reducible refine DW.skip ?_)
    | (with_reducible refine DW.exit ?_)
    | (with_reducible refine DW.ret ?_)
    | (with_reducible refine DW.reg ?_)
    | (simp (disch := omega) only [go_sem, Nat.reduceLT, Nat.reduceLeDiff, Nat.reduceAdd, Nat.reduceMul, Nat.reduceEqDiff, ↓reduceIte, reduceCtorEq, Nat.reduceBEq, Nat.reduceBNe, Nat.reducePow, Int.reduceLE, Int.reduceLT, Int.reduceNeg, Int.reduceToNat, Int.reduceEq, Int.reduceAdd, Int.reduceSub, Int.reduceMul, Int.reduceBEq, Int.reduceBNe, Blk.men, Blk.keysIn])
    | (exact retS_of rfl rfl rfl)
    | (refine DW.cond_tt rfl ?_)
    | (refine DW.cond_ff rfl ?_)
    | (refine DW.cond rfl ?_ ?_ <;> intro hc <;> (try simp only [go_sem] at hc))
    | (refine g_split ?_ ?_ <;> intro hc <;> (try simp only [hc]) <;> (try simp only [go_sem] at hc)))
structure CR where
  tests : Int
  mean : Int
  low : Int
  bad : Int
abbrev dCR (r : CR) : D := .agg [dI r.tests, dI r.mean, dI r.low, dI r.bad]
structure CLot where
  off : Int
  made : Int
  ws : Int
  wb : Int
  bs : Int
  bb : Int
abbrev dLot (r : CR) (l : CLot) : D := .agg [dI r.tests, dI r.mean, dI r.low, dI r.bad, dI l.off, dI l.made, dI l.ws, dI l.wb, dI l.bs, dI l.bb]
attribute [go_sem] dCR dLot
structure CRok (r : CR) (rs : List Int) (off : Int) : Prop where
  tests : 1 ≤ r.tests ∧ r.tests ≤ 20
  mean : 0 ≤ r.mean ∧ r.mean ≤ 100000
  low : 0 ≤ r.low ∧ r.low ≤ 100000
  bad : 0 ≤ r.bad ∧ r.bad ≤ r.tests
  off : 0 ≤ off ∧ off ≤ 1000
  len : rs.length ≤ r.tests
  rs : ∀ x ∈ rs, 0 ≤ x ∧ x ≤ 100000
theorem wthn_yes {lo hi : Int} {l : List Int} (h : ∀ v ∈ l, lo ≤ v ∧ v ≤ hi) : wthn lo hi l = true := by
  simp only [wthn, Bool.not_eq_true', List.any_eq_false, Bool.or_eq_true, decide_eq_true_eq]
  intro v hv
  have := h v hv
  omega
theorem crRule (b : Bool) (r : CR) (rs : List Int) (off : Int) (h : CRok r rs off) : DCall Try.prog 41 [dCR r, dIs b rs, dI off] [] (dI 0) [] := by
  have hlen := h.len
  have ht := h.tests
  have h1 := crWithin true 1 20 [r.tests] (by simp)
  have h2 := crWithin true 0 100000 [r.mean, r.low] (by simp)
  have h3 := crWithin true 0 r.tests [r.bad] (by simp)
  have h4 := crWithin true 0 1000 [off] (by simp)
  have h5 := crWithin b 0 100000 rs (by omega)
  rw [wthn_yes (by have := h.tests; simpa using this)] at h1
  rw [wthn_yes (by have h1 := h.mean; have h2 := h.low; simp; omega)] at h2
  rw [wthn_yes (by have := h.bad; simpa using this)] at h3
  rw [wthn_yes (by have := h.off; simpa using this)] at h4
  rw [wthn_yes h.rs] at h5
  have hd : decide (r.tests < (rs.length : Int)) = false := by rw [decide_eq_false_iff_not]; omega
  refine DCall.of Try.func41 sf41 hb41 (Nat.le_of_ble_eq_true rfl) (okRes_nil fun _ => rfl) ?_; simp only [s41, idxs, Nat.reduceAdd]
  repeat' (first
    | (with_reducible refine DW.seq ?_)
    | (with_reducible refine DW.block ?_)
    | (with_reducible refine DW.skip ?_)
    | (with_reducible refine DW.exit ?_)
    | (with_reducible refine DW.ret ?_)
    | (with_reducible refine DW.reg ?_)
    | (simp (disch := omega) only [go_sem, Nat.reduceLT, Nat.reduceLeDiff, Nat.reduceAdd, Nat.reduceMul, Nat.reduceEqDiff, ↓reduceIte, reduceCtorEq, Nat.reduceBEq, Nat.reduceBNe, Nat.reducePow, Int.reduceLE, Int.reduceLT, Int.reduceNeg, Int.reduceToNat, Int.reduceEq, Int.reduceAdd, Int.reduceSub, Int.reduceMul, Int.reduceBEq, Int.reduceBNe, Blk.men, Blk.keysIn, hd])
    | (exact retS_of rfl rfl rfl)
    | (refine DW.cond_tt rfl ?_)
    | (refine call_c (h1) (by decide) ?_)
    | (refine call_c (h2) (by decide) ?_)
    | (refine call_c (h3) (by decide) ?_)
    | (refine call_c (h4) (by decide) ?_)
    | (refine call_c (h5) (by decide) ?_)
    | (refine DW.cond_ff rfl ?_)
    | (refine DW.cond rfl ?_ ?_ <;> intro hc <;> (try simp only [go_sem] at hc))
    | (refine g_split ?_ ?_ <;> intro hc <;> (try simp only [hc]) <;> (try simp only [go_sem] at hc)))
def lowT (off x : Int) : Int := if 0 < x - off then x - off else 0
def highT (off x : Int) : Int := if x + off < 100000 then x + off else 100000
theorem crTruth (off x : Int) (h1 : 0 ≤ off ∧ off ≤ 1000) (h2 : 0 ≤ x ∧ x ≤ 100000) : DCall Try.prog 117 [dI off, dI x] [] (.agg [dI (lowT off x), dI (highT off x)]) [] := by
  refine DCall.of Try.func117 sf117 hb117 (Nat.le_of_ble_eq_true rfl) (okRes_nil fun _ => rfl) ?_; simp only [s117, idxs, Nat.reduceAdd]
  repeat' (first
    | (with_reducible refine DW.seq ?_)
    | (with_reducible refine DW.block ?_)
    | (with_reducible refine DW.skip ?_)
    | (with_reducible refine DW.exit ?_)
    | (with_reducible refine DW.ret ?_)
    | (with_reducible refine DW.reg ?_)
    | (simp (disch := omega) only [go_sem, Nat.reduceLT, Nat.reduceLeDiff, Nat.reduceAdd, Nat.reduceMul, Nat.reduceEqDiff, ↓reduceIte, reduceCtorEq, Nat.reduceBEq, Nat.reduceBNe, Nat.reducePow, Int.reduceLE, Int.reduceLT, Int.reduceNeg, Int.reduceToNat, Int.reduceEq, Int.reduceAdd, Int.reduceSub, Int.reduceMul, Int.reduceBEq, Int.reduceBNe, Blk.men, Blk.keysIn])
    | (exact retS_of rfl rfl rfl)
    | (refine DW.cond_tt rfl ?_)
    | (refine DW.cond_ff rfl ?_)
    | (refine DW.cond rfl ?_ ?_ <;> intro hc <;> (try simp only [go_sem] at hc))
    | (refine g_split ?_ ?_ <;> intro hc <;> (try simp only [hc]) <;> (try simp only [go_sem] at hc)))
theorem crWith (s b t low : Int) (h1 : 0 ≤ s ∧ s ≤ 1099511627776) (h2 : 0 ≤ b ∧ b ≤ 1099511627776) (h3 : 0 ≤ t ∧ t ≤ 1099511627776) :
    DCall Try.prog 118 [.agg [dI s, dI b], dI t, dI low] [] (.agg [dI (s + t), dI (if t < low then b + 1 else b)]) [] := by
  by_cases h : t < low
  · have hd : decide (t < low) = true := decide_eq_true h
    rw [if_pos h]
    refine DCall.of Try.func118 sf118 hb118 (Nat.le_of_ble_eq_true rfl) (okRes_nil fun _ => rfl) ?_; simp only [s118, idxs, Nat.reduceAdd]
    repeat' (first
    | (with_reducible refine DW.seq ?_)
    | (with_reducible refine DW.block ?_)
    | (with_reducible refine DW.skip ?_)
    | (with_reducible refine DW.exit ?_)
    | (with_reducible refine DW.ret ?_)
    | (with_reducible refine DW.reg ?_)
    | (simp (disch := omega) only [go_sem, Nat.reduceLT, Nat.reduceLeDiff, Nat.reduceAdd, Nat.reduceMul, Nat.reduceEqDiff, ↓reduceIte, reduceCtorEq, Nat.reduceBEq, Nat.reduceBNe, Nat.reducePow, Int.reduceLE, Int.reduceLT, Int.reduceNeg, Int.reduceToNat, Int.reduceEq, Int.reduceAdd, Int.reduceSub, Int.reduceMul, Int.reduceBEq, Int.reduceBNe, Blk.men, Blk.keysIn, hd])
    | (exact retS_of rfl rfl rfl)
    | (refine DW.cond_tt rfl ?_)
    | (refine DW.cond_ff rfl ?_)
    | (refine DW.cond rfl ?_ ?_ <;> intro hc <;> (try simp only [go_sem] at hc))
    | (refine g_split ?_ ?_ <;> intro hc <;> (try simp only [hc]) <;> (try simp only [go_sem] at hc)))
  · have hd : decide (t < low) = false := decide_eq_false h
    rw [if_neg h]
    refine DCall.of Try.func118 sf118 hb118 (Nat.le_of_ble_eq_true rfl) (okRes_nil fun _ => rfl) ?_; simp only [s118, idxs, Nat.reduceAdd]
    repeat' (first
    | (with_reducible refine DW.seq ?_)
    | (with_reducible refine DW.block ?_)
    | (with_reducible refine DW.skip ?_)
    | (with_reducible refine DW.exit ?_)
    | (with_reducible refine DW.ret ?_)
    | (with_reducible refine DW.reg ?_)
    | (simp (disch := omega) only [go_sem, Nat.reduceLT, Nat.reduceLeDiff, Nat.reduceAdd, Nat.reduceMul, Nat.reduceEqDiff, ↓reduceIte, reduceCtorEq, Nat.reduceBEq, Nat.reduceBNe, Nat.reducePow, Int.reduceLE, Int.reduceLT, Int.reduceNeg, Int.reduceToNat, Int.reduceEq, Int.reduceAdd, Int.reduceSub, Int.reduceMul, Int.reduceBEq, Int.reduceBNe, Blk.men, Blk.keysIn, hd])
    | (exact retS_of rfl rfl rfl)
    | (refine DW.cond_tt rfl ?_)
    | (refine DW.cond_ff rfl ?_)
    | (refine DW.cond rfl ?_ ?_ <;> intro hc <;> (try simp only [go_sem] at hc))
    | (refine g_split ?_ ?_ <;> intro hc <;> (try simp only [hc]) <;> (try simp only [go_sem] at hc)))
def CLot.after (r : CR) (l : CLot) (x : Int) : CLot :=
  ⟨l.off, l.made + 1, l.ws + lowT l.off x, if lowT l.off x < r.low then l.wb + 1 else l.wb, l.bs + highT l.off x, if highT l.off x < r.low then l.bb + 1 else l.bb⟩
structure CLot.ok (l : CLot) : Prop where
  off : 0 ≤ l.off ∧ l.off ≤ 1000
  made : 0 ≤ l.made ∧ l.made ≤ 100
  ws : 0 ≤ l.ws ∧ l.ws ≤ 100000 * l.made
  wb : 0 ≤ l.wb ∧ l.wb ≤ l.made
  bs : 0 ≤ l.bs ∧ l.bs ≤ 100000 * l.made
  bb : 0 ≤ l.bb ∧ l.bb ≤ l.made
theorem lowT_in {off x : Int} (h1 : 0 ≤ off) (h2 : 0 ≤ x ∧ x ≤ 100000) : 0 ≤ lowT off x ∧ lowT off x ≤ 100000 := by
  unfold lowT; split <;> omega
theorem highT_in {off x : Int} (h1 : 0 ≤ off) (h2 : 0 ≤ x ∧ x ≤ 100000) : 0 ≤ highT off x ∧ highT off x ≤ 100000 := by
  unfold highT; split <;> omega
theorem CLot.ok_after {r : CR} {l : CLot} {x : Int} (h : l.ok) (hm : l.made < 100) (hx : 0 ≤ x ∧ x ≤ 100000) : (l.after r x).ok := by
  have h1 := lowT_in h.off.1 hx
  have h2 := highT_in h.off.1 hx
  have h3 := h.made
  have h4 := h.ws
  have h5 := h.wb
  have h6 := h.bs
  have h7 := h.bb
  refine ⟨h.off, ?_, ?_, ?_, ?_, ?_⟩ <;> simp only [CLot.after] <;> (try split) <;> omega
theorem crAfter (r : CR) (l : CLot) (x : Int) (h : l.ok) (hx : 0 ≤ x ∧ x ≤ 100000) : DCall Try.prog 75 [dLot r l, dI x] [] (dLot r (l.after r x)) [] := by
  have h1 := lowT_in h.off.1 hx
  have h2 := highT_in h.off.1 hx
  have h3 := h.made
  have h4 := h.ws
  have h5 := h.wb
  have h6 := h.bs
  have h7 := h.bb
  refine DCall.of Try.func75 sf75 hb75 (Nat.le_of_ble_eq_true rfl) (okRes_nil fun _ => rfl) ?_; simp only [s75, idxs, Nat.reduceAdd]
  repeat' (first
    | (with_reducible refine DW.seq ?_)
    | (with_reducible refine DW.block ?_)
    | (with_reducible refine DW.skip ?_)
    | (with_reducible refine DW.exit ?_)
    | (with_reducible refine DW.ret ?_)
    | (with_reducible refine DW.reg ?_)
    | (refine DW.dreg rfl (WF.of (by first | rfl | simp (disch := omega) only [go_sem, Nat.reduceLT, Nat.reduceLeDiff, Nat.reduceAdd, Nat.reduceMul, Nat.reduceEqDiff, ↓reduceIte, reduceCtorEq, Nat.reduceBEq, Nat.reduceBNe, Nat.reducePow, Int.reduceLE, Int.reduceLT, Int.reduceNeg, Int.reduceToNat, Int.reduceEq, Int.reduceAdd, Int.reduceSub, Int.reduceMul, Int.reduceBEq, Int.reduceBNe, Blk.men, Blk.keysIn])) ?_)
    | (simp (disch := omega) only [go_sem, Nat.reduceLT, Nat.reduceLeDiff, Nat.reduceAdd, Nat.reduceMul, Nat.reduceEqDiff, ↓reduceIte, reduceCtorEq, Nat.reduceBEq, Nat.reduceBNe, Nat.reducePow, Int.reduceLE, Int.reduceLT, Int.reduceNeg, Int.reduceToNat, Int.reduceEq, Int.reduceAdd, Int.reduceSub, Int.reduceMul, Int.reduceBEq, Int.reduceBNe, Blk.men, Blk.keysIn])
    | (exact retS_of rfl rfl rfl)
    | (refine DW.cond_tt rfl ?_)
    | (refine call_c (crTruth l.off x h.off hx) (by decide) ?_)
    | (refine call_c (crWith l.ws l.wb (lowT l.off x) r.low (by omega) (by omega) (by omega)) (by decide) ?_)
    | (refine call_c (crWith l.bs l.bb (highT l.off x) r.low (by omega) (by omega) (by omega)) (by decide) ?_)
    | (refine DW.cond_ff rfl ?_)
    | (refine DW.cond rfl ?_ ?_ <;> intro hc <;> (try simp only [go_sem] at hc))
    | (refine g_split ?_ ?_ <;> intro hc <;> (try simp only [hc]) <;> (try simp only [go_sem] at hc)))
def CLot.new (off : Int) : CLot := ⟨off, 0, 0, 0, 0, 0⟩
def lotOf (r : CR) (off : Int) (rs : List Int) : CLot := rs.foldl (CLot.after r) (CLot.new off)
theorem lotOf_snoc (r : CR) (off : Int) (rs : List Int) (x : Int) : lotOf r off (rs ++ [x]) = (lotOf r off rs).after r x := by simp [lotOf, List.foldl_append]
theorem lotOf_take {r : CR} {off : Int} {rs : List Int} {i : Nat} {x : Int} (h : rs[i]? = some x) : lotOf r off (rs.take (i + 1)) = (lotOf r off (rs.take i)).after r x := by
  rw [List.take_add_one, h]; exact lotOf_snoc r off _ x
theorem fold_made (r : CR) : ∀ (rs : List Int) (l : CLot), (rs.foldl (CLot.after r) l).made = l.made + rs.length ∧ (rs.foldl (CLot.after r) l).off = l.off
  | [], l => by simp
  | x :: rs, l => by
    have ih := fold_made r rs (l.after r x)
    rw [List.foldl_cons, ih.1, ih.2]
    refine ⟨?_, rfl⟩
    show l.made + 1 + (rs.length : Int) = l.made + ((rs.length + 1 : Nat) : Int)
    omega
theorem lotOf_made (r : CR) (off : Int) (rs : List Int) : (lotOf r off rs).made = rs.length ∧ (lotOf r off rs).off = off := by
  have := fold_made r rs (CLot.new off)
  unfold lotOf
  rw [this.1, this.2]
  simp [CLot.new]
theorem fold_ok (r : CR) : ∀ (rs : List Int) (l : CLot), l.ok → l.made + rs.length ≤ 100 → (∀ x ∈ rs, 0 ≤ x ∧ x ≤ 100000) → (rs.foldl (CLot.after r) l).ok
  | [], l, h, _, _ => h
  | x :: rs, l, h, h1, h2 => by
    rw [List.foldl_cons]
    rw [List.length_cons] at h1
    refine fold_ok r rs _ (CLot.ok_after h (by omega) (h2 x (by simp))) ?_ (fun y hy => h2 y (by simp [hy]))
    simp only [CLot.after]; omega
theorem lotOf_ok {r : CR} {off : Int} (ho : 0 ≤ off ∧ off ≤ 1000) (rs : List Int) (h1 : rs.length ≤ 100) (h2 : ∀ x ∈ rs, 0 ≤ x ∧ x ≤ 100000) : (lotOf r off rs).ok :=
  fold_ok r rs (CLot.new off) ⟨ho, by simp [CLot.new], by simp [CLot.new], by simp [CLot.new], by simp [CLot.new], by simp [CLot.new]⟩ (by show (0 : Int) + (rs.length : Int) ≤ 100; omega) h2
theorem crNew (b : Bool) (r : CR) (rs : List Int) (off : Int) (h : CRok r rs off) : DCall Try.prog 42 [dCR r, dIs b rs, dI off] [] (dLot r (lotOf r off rs)) [] := by
  have hlen := h.len
  have ht := h.tests
  have hl20 : rs.length ≤ 20 := by omega
  refine DCall.of Try.func42 sf42 hb42 (Nat.le_of_ble_eq_true rfl) (okRes_nil fun _ => rfl) ?_; simp only [s42, idxs, Nat.reduceAdd]
  repeat' (first
    | (with_reducible refine DW.seq ?_)
    | (with_reducible refine DW.block ?_)
    | (with_reducible refine DW.skip ?_)
    | (with_reducible refine DW.exit ?_)
    | (with_reducible refine DW.ret ?_)
    | (with_reducible refine DW.reg ?_)
    | (simp (disch := omega) only [go_sem, Nat.reduceLT, Nat.reduceLeDiff, Nat.reduceAdd, Nat.reduceMul, Nat.reduceEqDiff, ↓reduceIte, reduceCtorEq, Nat.reduceBEq, Nat.reduceBNe, Nat.reducePow, Int.reduceLE, Int.reduceLT, Int.reduceNeg, Int.reduceToNat, Int.reduceEq, Int.reduceAdd, Int.reduceSub, Int.reduceMul, Int.reduceBEq, Int.reduceBNe, Blk.men, Blk.keysIn])
    | (exact retS_of rfl rfl rfl)
    | (refine DW.cond_tt rfl ?_)
    | (refine DW.cond_ff rfl ?_)
    | (refine DW.cond rfl ?_ ?_ <;> intro hc <;> (try simp only [go_sem] at hc))
    | (refine g_split ?_ ?_ <;> intro hc <;> (try simp only [hc]) <;> (try simp only [go_sem] at hc)))
  refine DW.loop (ι := { i : Nat // i ≤ rs.length }) (fun i => ⟨24, [(15, dI i.1), (14, dI rs.length), (13, dIs b rs), (7, .box 7 0), (6, .box 6 0)], [(7, .box [dI r.tests, dI r.mean, dI r.low, dI r.bad, dI (lotOf r off (rs.take i.1)).off, dI (lotOf r off (rs.take i.1)).made, dI (lotOf r off (rs.take i.1)).ws, dI (lotOf r off (rs.take i.1)).wb, dI (lotOf r off (rs.take i.1)).bs, dI (lotOf r off (rs.take i.1)).bb]), (6, .box [dI 0, dI 0, dI 0, dI 0, dI 0, dI 0, dI 0, dI 0, dI 0, dI 0])]⟩) (fun i => rs.length - i.1) ⟨0, Nat.zero_le _⟩ ?_ ?_
  · refine Ent.to ?_ ?_ <;> simp (disch := omega) only [wkT_cons, wkX_cons, wkT_nil, wkX_nil, get, Nat.reduceEqDiff, ↓reduceIte, ex_some, wk_self, wk_top, wk_nil, wkB_self, and_self, dI, i64_in, and_true, true_and, Int.natCast_add, Int.natCast_one, Int.ofNat_zero, Int.natCast_zero, List.take_zero, lotOf, List.foldl_nil, CLot.new]
    all_goals exact .refl _
  rintro ⟨i, hi⟩
  rcases at_or rs i hi with ⟨x, hx, hlt, hd⟩ | ⟨hend, hd⟩
  · have hs := lotOf_take (r := r) (off := off) hx
    have hok := lotOf_ok (r := r) h.off (rs.take i) (by rw [List.length_take]; omega) (fun y hy => h.rs y (List.mem_of_mem_take hy))
    generalize lotOf r off (rs.take i) = l at *
    repeat' (first
    | (with_reducible refine DW.seq ?_)
    | (with_reducible refine DW.block ?_)
    | (with_reducible refine DW.skip ?_)
    | (with_reducible refine DW.exit ?_)
    | (with_reducible refine DW.ret ?_)
    | (with_reducible refine DW.reg ?_)
    | (simp (disch := omega) only [go_sem, Nat.reduceLT, Nat.reduceLeDiff, Nat.reduceAdd, Nat.reduceMul, Nat.reduceEqDiff, ↓reduceIte, reduceCtorEq, Nat.reduceBEq, Nat.reduceBNe, Nat.reducePow, Int.reduceLE, Int.reduceLT, Int.reduceNeg, Int.reduceToNat, Int.reduceEq, Int.reduceAdd, Int.reduceSub, Int.reduceMul, Int.reduceBEq, Int.reduceBNe, Blk.men, Blk.keysIn, hd, hx])
    | (exact retS_of rfl rfl rfl)
    | (refine DW.cond_tt rfl ?_)
    | (refine call_c (crAfter r l x hok (h.rs x (List.mem_of_getElem? hx))) (by decide) ?_)
    | (refine DW.cond_ff rfl ?_)
    | (refine DW.cond rfl ?_ ?_ <;> intro hc <;> (try simp only [go_sem] at hc))
    | (refine g_split ?_ ?_ <;> intro hc <;> (try simp only [hc]) <;> (try simp only [go_sem] at hc)))
    refine ⟨⟨i + 1, hlt⟩, ?_, Ent.to ?_ ?_⟩ <;> first | (show _ < _; (try simp only); omega) | (simp (disch := omega) only [wkT_cons, wkX_cons, wkT_nil, wkX_nil, get, Nat.reduceEqDiff, ↓reduceIte, ex_some, wk_self, wk_top, wk_nil, wkB_self, and_self, dI, i64_in, and_true, true_and, Int.natCast_add, Int.natCast_one, Int.ofNat_zero, Int.natCast_zero,  hs])
    all_goals exact .refl _
  · rw [List.take_of_length_le (by omega : rs.length ≤ i)]
    generalize lotOf r off rs = l at *
    repeat' (first
    | (with_reducible refine DW.seq ?_)
    | (with_reducible refine DW.block ?_)
    | (with_reducible refine DW.skip ?_)
    | (with_reducible refine DW.exit ?_)
    | (with_reducible refine DW.ret ?_)
    | (with_reducible refine DW.reg ?_)
    | (simp (disch := omega) only [go_sem, Nat.reduceLT, Nat.reduceLeDiff, Nat.reduceAdd, Nat.reduceMul, Nat.reduceEqDiff, ↓reduceIte, reduceCtorEq, Nat.reduceBEq, Nat.reduceBNe, Nat.reducePow, Int.reduceLE, Int.reduceLT, Int.reduceNeg, Int.reduceToNat, Int.reduceEq, Int.reduceAdd, Int.reduceSub, Int.reduceMul, Int.reduceBEq, Int.reduceBNe, Blk.men, Blk.keysIn, hd])
    | (exact retS_of rfl rfl rfl)
    | (refine DW.cond_tt rfl ?_)
    | (refine DW.cond_ff rfl ?_)
    | (refine DW.cond rfl ?_ ?_ <;> intro hc <;> (try simp only [go_sem] at hc))
    | (refine g_split ?_ ?_ <;> intro hc <;> (try simp only [hc]) <;> (try simp only [go_sem] at hc)))
end Go.Dw.Seat
end
section
set_option linter.unusedSimpArgs false
set_option maxRecDepth 100000
namespace Go.Dw.Seat
open Go Go.Dw Go.Proofs Go.IntWalk
def badOf (b rest low : Int) (i : Nat) : Int := if rest < low then b + (i : Nat) else b
def passI (r : CR) (made s b rest : Int) : Bool := decide (r.tests * r.mean ≤ s + ((r.tests - made).toNat : Int) * rest) && decide (badOf b rest r.low (r.tests - made).toNat ≤ r.bad)
theorem mulB0 {a b A B : Int} (ha : 0 ≤ a ∧ a ≤ A) (hb : 0 ≤ b ∧ b ≤ B) : 0 ≤ a * b ∧ a * b ≤ A * B := by
  refine ⟨Int.mul_nonneg ha.1 hb.1, ?_⟩
  exact Int.le_trans (Int.mul_le_mul_of_nonneg_right ha.2 hb.1) (Int.mul_le_mul_of_nonneg_left hb.2 (Int.le_trans ha.1 ha.2))
theorem crPasses (r : CR) (l : CLot) (s b rest : Int) (ht : 1 ≤ r.tests ∧ r.tests ≤ 20) (hm : 0 ≤ r.mean ∧ r.mean ≤ 100000) (hmade : 0 ≤ l.made ∧ l.made ≤ r.tests) (hs : 0 ≤ s ∧ s ≤ 100000000) (hb : 0 ≤ b ∧ b ≤ 100) (hr : 0 ≤ rest ∧ rest ≤ 100000) :
    DCall Try.prog 76 [dLot r l, .agg [dI s, dI b], dI rest] [] (bD (passI r l.made s b rest)) [] := by
  obtain ⟨k, hk⟩ : ∃ k : Nat, (r.tests - l.made).toNat = k := ⟨_, rfl⟩
  have hkI : r.tests - l.made = (k : Int) := by omega
  have hmul := mulB0 (a := r.tests) (b := r.mean) (A := 20) (B := 100000) (by omega) hm
  have hkr := mulB0 (a := (k : Int)) (b := rest) (A := 20) (B := 100000) (by omega) hr
  have hp : passI r l.made s b rest = (decide (r.tests * r.mean ≤ s + (k : Int) * rest) && decide (badOf b rest r.low k ≤ r.bad)) := by rw [passI, hk]
  rw [hp]
  generalize htm : r.tests * r.mean = tm at *
  refine DCall.of Try.func76 sf76 hb76 (Nat.le_of_ble_eq_true rfl) (okRes_nil fun _ => rfl) ?_; simp only [s76, idxs, Nat.reduceAdd]
  repeat' (first
    | (with_reducible refine DW.seq ?_)
    | (with_reducible refine DW.block ?_)
    | (with_reducible refine DW.skip ?_)
    | (with_reducible refine DW.exit ?_)
    | (with_reducible refine DW.ret ?_)
    | (with_reducible refine DW.reg ?_)
    | (simp (disch := omega) only [go_sem, Nat.reduceLT, Nat.reduceLeDiff, Nat.reduceAdd, Nat.reduceMul, Nat.reduceEqDiff, ↓reduceIte, reduceCtorEq, Nat.reduceBEq, Nat.reduceBNe, Nat.reducePow, Int.reduceLE, Int.reduceLT, Int.reduceNeg, Int.reduceToNat, Int.reduceEq, Int.reduceAdd, Int.reduceSub, Int.reduceMul, Int.reduceBEq, Int.reduceBNe, Blk.men, Blk.keysIn, hkI])
    | (exact retS_of rfl rfl rfl)
    | (refine DW.cond_tt rfl ?_)
    | (refine DW.cond_ff rfl ?_)
    | (refine DW.cond rfl ?_ ?_ <;> intro hc <;> (try simp only [go_sem] at hc))
    | (refine g_split ?_ ?_ <;> intro hc <;> (try simp only [hc]) <;> (try simp only [go_sem] at hc)))
  refine DW.loop (ι := { i : Nat // i ≤ k }) (fun i => ⟨40, [(13, dI i.1), (12, dI k), (4, .box 4 0), (3, .box 3 0), (2, dI rest)], [(4, .box [dI (s + (i.1 : Int) * rest), dI (badOf b rest r.low i.1)]), (3, .box [dI r.tests, dI r.mean, dI r.low, dI r.bad, dI l.off, dI l.made, dI l.ws, dI l.wb, dI l.bs, dI l.bb])]⟩) (fun i => k - i.1) ⟨0, Nat.zero_le _⟩ ?_ ?_
  · refine Ent.to ?_ ?_ <;> simp (disch := omega) only [wkT_cons, wkX_cons, wkT_nil, wkX_nil, get, Nat.reduceEqDiff, ↓reduceIte, ex_some, wk_self, wk_top, wk_nil, wkB_self, and_self, dI, i64_in, and_true, true_and, Int.natCast_add, Int.natCast_one, Int.ofNat_zero, Int.natCast_zero, Int.zero_mul, Int.add_zero, badOf, ite_self]
    all_goals exact .refl _
  rintro ⟨i, hi⟩
  have hir := mulB0 (a := (i : Int)) (b := rest) (A := 20) (B := 100000) (by omega) hr
  have hbi : 0 ≤ badOf b rest r.low i ∧ badOf b rest r.low i ≤ 200 := by unfold badOf; split <;> omega
  have hnext : badOf b rest r.low (i + 1) = if rest < r.low then badOf b rest r.low i + 1 else badOf b rest r.low i := by unfold badOf; split <;> omega
  have hadd : s + ((i + 1 : Nat) : Int) * rest = s + (i : Int) * rest + rest := by rw [Int.natCast_add, Int.add_mul]; omega
  rcases Nat.lt_or_ge i k with hlt | hge
  · have hd : decide ((i : Int) < (k : Int)) = true := by rw [decide_eq_true_eq]; omega
    have hw := crWith (s + (i : Int) * rest) (badOf b rest r.low i) rest r.low (by omega) (by omega) (by omega)
    rw [← hnext, ← hadd] at hw
    generalize s + (i : Int) * rest = si at *
    generalize hj1 : s + ((i + 1 : Nat) : Int) * rest = sj at *
    generalize hj2 : badOf b rest r.low (i + 1) = bj at *
    rw [Int.natCast_add, Int.natCast_one] at hj1
    repeat' (first
    | (with_reducible refine DW.seq ?_)
    | (with_reducible refine DW.block ?_)
    | (with_reducible refine DW.skip ?_)
    | (with_reducible refine DW.exit ?_)
    | (with_reducible refine DW.ret ?_)
    | (with_reducible refine DW.reg ?_)
    | (simp (disch := omega) only [go_sem, Nat.reduceLT, Nat.reduceLeDiff, Nat.reduceAdd, Nat.reduceMul, Nat.reduceEqDiff, ↓reduceIte, reduceCtorEq, Nat.reduceBEq, Nat.reduceBNe, Nat.reducePow, Int.reduceLE, Int.reduceLT, Int.reduceNeg, Int.reduceToNat, Int.reduceEq, Int.reduceAdd, Int.reduceSub, Int.reduceMul, Int.reduceBEq, Int.reduceBNe, Blk.men, Blk.keysIn, hd])
    | (exact retS_of rfl rfl rfl)
    | (refine DW.cond_tt rfl ?_)
    | (refine call_c (hw) (by decide) ?_)
    | (refine DW.cond_ff rfl ?_)
    | (refine DW.cond rfl ?_ ?_ <;> intro hc <;> (try simp only [go_sem] at hc))
    | (refine g_split ?_ ?_ <;> intro hc <;> (try simp only [hc]) <;> (try simp only [go_sem] at hc)))
    refine ⟨⟨i + 1, hlt⟩, ?_, Ent.to ?_ ?_⟩ <;> first | (show _ < _; (try simp only); omega) | (simp (disch := omega) only [wkT_cons, wkX_cons, wkT_nil, wkX_nil, get, Nat.reduceEqDiff, ↓reduceIte, ex_some, wk_self, wk_top, wk_nil, wkB_self, and_self, dI, i64_in, and_true, true_and, Int.natCast_add, Int.natCast_one, Int.ofNat_zero, Int.natCast_zero,  hj1, hj2])
    all_goals exact .refl _
  · obtain rfl : i = k := by omega
    have hd : decide ((i : Int) < (i : Int)) = false := by rw [decide_eq_false_iff_not]; omega
    generalize s + (i : Int) * rest = si at *
    generalize badOf b rest r.low i = bi at *
    cases h1 : decide (tm ≤ si) <;> repeat' (first
    | (with_reducible refine DW.seq ?_)
    | (with_reducible refine DW.block ?_)
    | (with_reducible refine DW.skip ?_)
    | (with_reducible refine DW.exit ?_)
    | (with_reducible refine DW.ret ?_)
    | (with_reducible refine DW.reg ?_)
    | (simp (disch := omega) only [go_sem, Nat.reduceLT, Nat.reduceLeDiff, Nat.reduceAdd, Nat.reduceMul, Nat.reduceEqDiff, ↓reduceIte, reduceCtorEq, Nat.reduceBEq, Nat.reduceBNe, Nat.reducePow, Int.reduceLE, Int.reduceLT, Int.reduceNeg, Int.reduceToNat, Int.reduceEq, Int.reduceAdd, Int.reduceSub, Int.reduceMul, Int.reduceBEq, Int.reduceBNe, Blk.men, Blk.keysIn, hd, htm, h1, Bool.true_and, Bool.false_and])
    | (exact retS_of rfl rfl rfl)
    | (refine DW.cond_tt rfl ?_)
    | (refine DW.cond_ff rfl ?_)
    | (refine DW.cond rfl ?_ ?_ <;> intro hc <;> (try simp only [go_sem] at hc))
    | (refine g_split ?_ ?_ <;> intro hc <;> (try simp only [hc]) <;> (try simp only [go_sem] at hc)))
def stateI (r : CR) (l : CLot) : Int := if passI r l.made l.ws l.wb 0 then 1 else if passI r l.made l.bs l.bb 100000 then 3 else 2
theorem crState (r : CR) (l : CLot) (h : l.ok) (ht : 1 ≤ r.tests ∧ r.tests ≤ 20) (hm : 0 ≤ r.mean ∧ r.mean ≤ 100000) (hmade : l.made ≤ r.tests) : DCall Try.prog 43 [dLot r l] [] (dI (stateI r l)) [] := by
  have h3 := h.made
  have h4 := h.ws
  have h5 := h.wb
  have h6 := h.bs
  have h7 := h.bb
  have hw := crPasses r l l.ws l.wb 0 ht hm ⟨h3.1, hmade⟩ (by omega) (by omega) (by omega)
  have hb := crPasses r l l.bs l.bb 100000 ht hm ⟨h3.1, hmade⟩ (by omega) (by omega) (by omega)
  unfold stateI
  cases h1 : passI r l.made l.ws l.wb 0 with
  | true =>
    rw [h1] at hw
    refine DCall.of Try.func43 sf43 hb43 (Nat.le_of_ble_eq_true rfl) (okRes_nil fun _ => rfl) ?_; simp only [s43, idxs, Nat.reduceAdd]
    repeat' (first
    | (with_reducible refine DW.seq ?_)
    | (with_reducible refine DW.block ?_)
    | (with_reducible refine DW.skip ?_)
    | (with_reducible refine DW.exit ?_)
    | (with_reducible refine DW.ret ?_)
    | (with_reducible refine DW.reg ?_)
    | (simp (disch := omega) only [go_sem, Nat.reduceLT, Nat.reduceLeDiff, Nat.reduceAdd, Nat.reduceMul, Nat.reduceEqDiff, ↓reduceIte, reduceCtorEq, Nat.reduceBEq, Nat.reduceBNe, Nat.reducePow, Int.reduceLE, Int.reduceLT, Int.reduceNeg, Int.reduceToNat, Int.reduceEq, Int.reduceAdd, Int.reduceSub, Int.reduceMul, Int.reduceBEq, Int.reduceBNe, Blk.men, Blk.keysIn])
    | (exact retS_of rfl rfl rfl)
    | (refine DW.cond_tt rfl ?_)
    | (refine call_c (hw) (by decide) ?_)
    | (refine DW.cond_ff rfl ?_)
    | (refine DW.cond rfl ?_ ?_ <;> intro hc <;> (try simp only [go_sem] at hc))
    | (refine g_split ?_ ?_ <;> intro hc <;> (try simp only [hc]) <;> (try simp only [go_sem] at hc)))
  | false =>
    rw [h1] at hw
    cases h2 : passI r l.made l.bs l.bb 100000 with
    | true =>
      rw [h2] at hb
      refine DCall.of Try.func43 sf43 hb43 (Nat.le_of_ble_eq_true rfl) (okRes_nil fun _ => rfl) ?_; simp only [s43, idxs, Nat.reduceAdd]
      repeat' (first
    | (with_reducible refine DW.seq ?_)
    | (with_reducible refine DW.block ?_)
    | (with_reducible refine DW.skip ?_)
    | (with_reducible refine DW.exit ?_)
    | (with_reducible refine DW.ret ?_)
    | (with_reducible refine DW.reg ?_)
    | (simp (disch := omega) only [go_sem, Nat.reduceLT, Nat.reduceLeDiff, Nat.reduceAdd, Nat.reduceMul, Nat.reduceEqDiff, ↓reduceIte, reduceCtorEq, Nat.reduceBEq, Nat.reduceBNe, Nat.reducePow, Int.reduceLE, Int.reduceLT, Int.reduceNeg, Int.reduceToNat, Int.reduceEq, Int.reduceAdd, Int.reduceSub, Int.reduceMul, Int.reduceBEq, Int.reduceBNe, Blk.men, Blk.keysIn])
    | (exact retS_of rfl rfl rfl)
    | (refine DW.cond_tt rfl ?_)
    | (refine call_c (hw) (by decide) ?_)
    | (refine call_c (hb) (by decide) ?_)
    | (refine DW.cond_ff rfl ?_)
    | (refine DW.cond rfl ?_ ?_ <;> intro hc <;> (try simp only [go_sem] at hc))
    | (refine g_split ?_ ?_ <;> intro hc <;> (try simp only [hc]) <;> (try simp only [go_sem] at hc)))
    | false =>
      rw [h2] at hb
      refine DCall.of Try.func43 sf43 hb43 (Nat.le_of_ble_eq_true rfl) (okRes_nil fun _ => rfl) ?_; simp only [s43, idxs, Nat.reduceAdd]
      repeat' (first
    | (with_reducible refine DW.seq ?_)
    | (with_reducible refine DW.block ?_)
    | (with_reducible refine DW.skip ?_)
    | (with_reducible refine DW.exit ?_)
    | (with_reducible refine DW.ret ?_)
    | (with_reducible refine DW.reg ?_)
    | (simp (disch := omega) only [go_sem, Nat.reduceLT, Nat.reduceLeDiff, Nat.reduceAdd, Nat.reduceMul, Nat.reduceEqDiff, ↓reduceIte, reduceCtorEq, Nat.reduceBEq, Nat.reduceBNe, Nat.reducePow, Int.reduceLE, Int.reduceLT, Int.reduceNeg, Int.reduceToNat, Int.reduceEq, Int.reduceAdd, Int.reduceSub, Int.reduceMul, Int.reduceBEq, Int.reduceBNe, Blk.men, Blk.keysIn])
    | (exact retS_of rfl rfl rfl)
    | (refine DW.cond_tt rfl ?_)
    | (refine call_c (hw) (by decide) ?_)
    | (refine call_c (hb) (by decide) ?_)
    | (refine DW.cond_ff rfl ?_)
    | (refine DW.cond rfl ?_ ?_ <;> intro hc <;> (try simp only [go_sem] at hc))
    | (refine g_split ?_ ?_ <;> intro hc <;> (try simp only [hc]) <;> (try simp only [go_sem] at hc)))
theorem crDecide (b : Bool) (r : CR) (rs : List Int) (off : Int) (h : CRok r rs off) : DCall Try.prog 10 [dCR r, dIs b rs, dI off] [] (.tup [dI (stateI r (lotOf r off rs)), dI 0]) [] := by
  have hlen := h.len
  have ht := h.tests
  have hm := (lotOf_made r off rs).1
  have hok := lotOf_ok (r := r) h.off rs (by omega) h.rs
  have h1 := crRule b r rs off h
  have h2 := crNew b r rs off h
  have h3 := crState r (lotOf r off rs) hok h.tests h.mean (by omega)
  refine DCall.of Try.func10 sf10 hb10 (Nat.le_of_ble_eq_true rfl) (okRes_nil fun _ => rfl) ?_; simp only [s10, idxs, Nat.reduceAdd]
  repeat' (first
    | (with_reducible refine DW.seq ?_)
    | (with_reducible refine DW.block ?_)
    | (with_reducible refine DW.skip ?_)
    | (with_reducible refine DW.exit ?_)
    | (with_reducible refine DW.ret ?_)
    | (with_reducible refine DW.reg ?_)
    | (simp (disch := omega) only [go_sem, Nat.reduceLT, Nat.reduceLeDiff, Nat.reduceAdd, Nat.reduceMul, Nat.reduceEqDiff, ↓reduceIte, reduceCtorEq, Nat.reduceBEq, Nat.reduceBNe, Nat.reducePow, Int.reduceLE, Int.reduceLT, Int.reduceNeg, Int.reduceToNat, Int.reduceEq, Int.reduceAdd, Int.reduceSub, Int.reduceMul, Int.reduceBEq, Int.reduceBNe, Blk.men, Blk.keysIn])
    | (exact retS_of rfl rfl rfl)
    | (refine DW.cond_tt rfl ?_)
    | (refine call_c (h1) (by decide) ?_)
    | (refine call_c (h2) (by decide) ?_)
    | (refine call_c (h3) (by decide) ?_)
    | (refine DW.cond_ff rfl ?_)
    | (refine DW.cond rfl ?_ ?_ <;> intro hc <;> (try simp only [go_sem] at hc))
    | (refine g_split ?_ ?_ <;> intro hc <;> (try simp only [hc]) <;> (try simp only [go_sem] at hc)))
end Go.Dw.Seat
end
section
set_option linter.unusedSimpArgs false
set_option maxRecDepth 100000
namespace Go.Dw.Seat
open Go Go.Dw Go.Proofs Go.IntWalk
theorem prW1 (n lo hi : Int) (p q : Bool) : DCall Try.prog 80 [dI n, .c (.ro p [.v (.int .i64 lo)] 0), .c (.ro q [.v (.int .i64 hi)] 0)] [] (bD (decide (n < lo) || decide (hi < n))) [] := by
  refine DCall.of Try.func80 sf80 hb80 (Nat.le_of_ble_eq_true rfl) (okRes_nil fun _ => rfl) ?_; simp only [s80, idxs, Nat.reduceAdd]
  repeat' (first
    | (with_reducible refine DW.seq ?_)
    | (with_reducible refine DW.block ?_)
    | (with_reducible refine DW.skip ?_)
    | (with_reducible refine DW.exit ?_)
    | (with_reducible refine DW.ret ?_)
    | (with_reducible refine DW.reg ?_)
    | (simp (disch := omega) only [go_sem, Nat.reduceLT, Nat.reduceLeDiff, Nat.reduceAdd, Nat.reduceMul, Nat.reduceEqDiff, ↓reduceIte, reduceCtorEq, Nat.reduceBEq, Nat.reduceBNe, Nat.reducePow, Int.reduceLE, Int.reduceLT, Int.reduceNeg, Int.reduceToNat, Int.reduceEq, Int.reduceAdd, Int.reduceSub, Int.reduceMul, Int.reduceBEq, Int.reduceBNe, Blk.men, Blk.keysIn])
    | (exact retS_of rfl rfl rfl)
    | (refine DW.cond_tt rfl ?_)
    | (refine DW.cond_ff rfl ?_)
    | (refine DW.cond rfl ?_ ?_ <;> intro hc <;> (try simp only [go_sem] at hc))
    | (refine g_split ?_ ?_ <;> intro hc <;> (try simp only [hc]) <;> (try simp only [go_sem] at hc)))
theorem prWithin (b : Bool) (lo hi : Int) (l : List Int) (hl : l.length ≤ 2 ^ 36) : DCall Try.prog 45 [dI lo, dI hi, dIs b l] [] (bD (wthn lo hi l)) [] := by
  refine DCall.of Try.func45 sf45 hb45 (Nat.le_of_ble_eq_true rfl) (okRes_nil fun _ => rfl) ?_; simp only [s45, idxs, Nat.reduceAdd]
  repeat' (first
    | (with_reducible refine DW.seq ?_)
    | (with_reducible refine DW.block ?_)
    | (with_reducible refine DW.skip ?_)
    | (with_reducible refine DW.exit ?_)
    | (with_reducible refine DW.ret ?_)
    | (with_reducible refine DW.reg ?_)
    | (simp (disch := omega) only [go_sem, Nat.reduceLT, Nat.reduceLeDiff, Nat.reduceAdd, Nat.reduceMul, Nat.reduceEqDiff, ↓reduceIte, reduceCtorEq, Nat.reduceBEq, Nat.reduceBNe, Nat.reducePow, Int.reduceLE, Int.reduceLT, Int.reduceNeg, Int.reduceToNat, Int.reduceEq, Int.reduceAdd, Int.reduceSub, Int.reduceMul, Int.reduceBEq, Int.reduceBNe, Blk.men, Blk.keysIn])
    | (exact retS_of rfl rfl rfl)
    | (refine DW.cond_tt rfl ?_)
    | (refine DW.cond_ff rfl ?_)
    | (refine DW.cond rfl ?_ ?_ <;> intro hc <;> (try simp only [go_sem] at hc))
    | (refine g_split ?_ ?_ <;> intro hc <;> (try simp only [hc]) <;> (try simp only [go_sem] at hc)))
  (refine call_c (c110 b l hl 80 [] [.ro true [.v (.int .i64 lo)] 0, .ro true [.v (.int .i64 hi)] 0] (fun n => decide (n < lo) || decide (hi < n)) (fun x _ => prW1 x lo hi true true)) (by decide) ?_; simp (disch := omega) only [go_sem, Nat.reduceLT, Nat.reduceLeDiff, Nat.reduceAdd, Nat.reduceMul, Nat.reduceEqDiff, ↓reduceIte, reduceCtorEq, Nat.reduceBEq, Nat.reduceBNe, Nat.reducePow, Int.reduceLE, Int.reduceLT, Int.reduceNeg, Int.reduceToNat, Int.reduceEq, Int.reduceAdd, Int.reduceSub, Int.reduceMul, Int.reduceBEq, Int.reduceBNe, Blk.men, Blk.keysIn])
  repeat' (first
    | (with_reducible refine DW.seq ?_)
    | (with_reducible refine DW.block ?_)
    | (with_reducible refine DW.skip ?_)
    | (with_reducible refine DW.exit ?_)
    | (with_reducible refine DW.ret ?_)
    | (with_reducible refine DW.reg ?_)
    | (simp (disch := omega) only [go_sem, Nat.reduceLT, Nat.reduceLeDiff, Nat.reduceAdd, Nat.reduceMul, Nat.reduceEqDiff, ↓reduceIte, reduceCtorEq, Nat.reduceBEq, Nat.reduceBNe, Nat.reducePow, Int.reduceLE, Int.reduceLT, Int.reduceNeg, Int.reduceToNat, Int.reduceEq, Int.reduceAdd, Int.reduceSub, Int.reduceMul, Int.reduceBEq, Int.reduceBNe, Blk.men, Blk.keysIn])
    | (exact retS_of rfl rfl rfl)
    | (refine DW.cond_tt rfl ?_)
    | (refine DW.cond_ff rfl ?_)
    | (refine DW.cond rfl ?_ ?_ <;> intro hc <;> (try simp only [go_sem] at hc))
    | (refine g_split ?_ ?_ <;> intro hc <;> (try simp only [hc]) <;> (try simp only [go_sem] at hc)))
theorem prCount (b : Bool) (l : List Int) (hl : l.length ≤ 2 ^ 36) : DCall Try.prog 78 [dIs b l] [] (bD (wthn 1 100000 l)) [] := by
  refine DCall.of Try.func78 sf78 hb78 (Nat.le_of_ble_eq_true rfl) (okRes_nil fun _ => rfl) ?_; simp only [s78, idxs, Nat.reduceAdd]
  repeat' (first
    | (with_reducible refine DW.seq ?_)
    | (with_reducible refine DW.block ?_)
    | (with_reducible refine DW.skip ?_)
    | (with_reducible refine DW.exit ?_)
    | (with_reducible refine DW.ret ?_)
    | (with_reducible refine DW.reg ?_)
    | (simp (disch := omega) only [go_sem, Nat.reduceLT, Nat.reduceLeDiff, Nat.reduceAdd, Nat.reduceMul, Nat.reduceEqDiff, ↓reduceIte, reduceCtorEq, Nat.reduceBEq, Nat.reduceBNe, Nat.reducePow, Int.reduceLE, Int.reduceLT, Int.reduceNeg, Int.reduceToNat, Int.reduceEq, Int.reduceAdd, Int.reduceSub, Int.reduceMul, Int.reduceBEq, Int.reduceBNe, Blk.men, Blk.keysIn])
    | (exact retS_of rfl rfl rfl)
    | (refine DW.cond_tt rfl ?_)
    | (refine call_c (prWithin b 1 100000 l hl) (by decide) ?_)
    | (refine DW.cond_ff rfl ?_)
    | (refine DW.cond rfl ?_ ?_ <;> intro hc <;> (try simp only [go_sem] at hc))
    | (refine g_split ?_ ?_ <;> intro hc <;> (try simp only [hc]) <;> (try simp only [go_sem] at hc)))
theorem wthn_ok {lo hi : Int} {l : List Int} (h : ∀ v ∈ l, lo ≤ v ∧ v ≤ hi) : wthn lo hi l = true := by
  simp only [wthn, Bool.not_eq_true', List.any_eq_false, Bool.or_eq_true, decide_eq_true_eq]
  intro v hv
  have := h v hv
  omega
def eT (t : Int × Int) : List C := [.v (.int .i64 t.1), .v (.int .i64 t.2)]
theorem eT_nb (v : Int × Int) : C.nbs (eT v) = true := rfl
attribute [go_sem] eT
structure Quote where
  area : Int
  board : Int
  waste : Int
  tool : Int
  setup : Int
  run : Int
  work : Int
  pallet : Int
  freight : Int
  margin : Int
  steps : List (Int × Int)
abbrev dQ (b : Bool) (q : Quote) : D := .agg [dI q.area, dI q.board, dI q.waste, dI q.tool, dI q.setup, dI q.run, dI q.work, dI q.pallet, dI q.freight, dI q.margin, .c (.sl b 2 (rows eT q.steps))]
attribute [go_sem] dQ
structure Quote.ok (q : Quote) : Prop where
  area : 1 ≤ q.area ∧ q.area ≤ 100000
  board : 0 ≤ q.board ∧ q.board ≤ 100000
  waste : 0 ≤ q.waste ∧ q.waste ≤ 500
  tool : 0 ≤ q.tool ∧ q.tool ≤ 1000000
  setup : 0 ≤ q.setup ∧ q.setup ≤ 1000000
  run : 1 ≤ q.run ∧ q.run ≤ 100000
  work : 0 ≤ q.work ∧ q.work ≤ 1000000
  pallet : 1 ≤ q.pallet ∧ q.pallet ≤ 100000
  freight : 0 ≤ q.freight ∧ q.freight ≤ 1000000
  margin : 0 ≤ q.margin ∧ q.margin ≤ 1000
  len : q.steps.length ≤ 6
  steps : ∀ s ∈ q.steps, (1 ≤ s.1 ∧ s.1 ≤ 100000) ∧ (0 ≤ s.2 ∧ s.2 ≤ 900)
  asc : q.steps.Pairwise (fun a b => a.1 < b.1)
theorem prOpen1 (s : Int × Int) (h : (1 ≤ s.1 ∧ s.1 ≤ 100000) ∧ (0 ≤ s.2 ∧ s.2 ≤ 900)) : DCall Try.prog 119 [.agg ((eT s).map D.c)] [] (bD false) [] := by
  have h1 := prCount true [s.1] (by simp)
  have h2 := prWithin true 0 900 [s.2] (by simp)
  rw [wthn_ok (by simpa using h.1)] at h1
  rw [wthn_ok (by simpa using h.2)] at h2
  refine DCall.of Try.func119 sf119 hb119 (Nat.le_of_ble_eq_true rfl) (okRes_nil fun _ => rfl) ?_; simp only [s119, idxs, Nat.reduceAdd]
  repeat' (first
    | (with_reducible refine DW.seq ?_)
    | (with_reducible refine DW.block ?_)
    | (with_reducible refine DW.skip ?_)
    | (with_reducible refine DW.exit ?_)
    | (with_reducible refine DW.ret ?_)
    | (with_reducible refine DW.reg ?_)
    | (simp (disch := omega) only [go_sem, Nat.reduceLT, Nat.reduceLeDiff, Nat.reduceAdd, Nat.reduceMul, Nat.reduceEqDiff, ↓reduceIte, reduceCtorEq, Nat.reduceBEq, Nat.reduceBNe, Nat.reducePow, Int.reduceLE, Int.reduceLT, Int.reduceNeg, Int.reduceToNat, Int.reduceEq, Int.reduceAdd, Int.reduceSub, Int.reduceMul, Int.reduceBEq, Int.reduceBNe, Blk.men, Blk.keysIn, List.map_cons, List.map_nil])
    | (exact retS_of rfl rfl rfl)
    | (refine DW.cond_tt rfl ?_)
    | (refine call_c (h1) (by decide) ?_)
    | (refine call_c (h2) (by decide) ?_)
    | (refine DW.cond_ff rfl ?_)
    | (refine DW.cond rfl ?_ ?_ <;> intro hc <;> (try simp only [go_sem] at hc))
    | (refine g_split ?_ ?_ <;> intro hc <;> (try simp only [hc]) <;> (try simp only [go_sem] at hc)))
theorem prOpen2 (a b : Int × Int) : DCall Try.prog 121 [.agg ((eT a).map D.c), .agg ((eT b).map D.c)] [] (dI (if a.1 ≤ b.1 then -1 else 1)) [] := by
  by_cases h : a.1 ≤ b.1
  · have hd : decide (a.1 ≤ b.1) = true := decide_eq_true h
    rw [if_pos h]
    refine DCall.of Try.func121 sf121 hb121 (Nat.le_of_ble_eq_true rfl) (okRes_nil fun _ => rfl) ?_; simp only [s121, idxs, Nat.reduceAdd]
    repeat' (first
    | (with_reducible refine DW.seq ?_)
    | (with_reducible refine DW.block ?_)
    | (with_reducible refine DW.skip ?_)
    | (with_reducible refine DW.exit ?_)
    | (with_reducible refine DW.ret ?_)
    | (with_reducible refine DW.reg ?_)
    | (simp (disch := omega) only [go_sem, Nat.reduceLT, Nat.reduceLeDiff, Nat.reduceAdd, Nat.reduceMul, Nat.reduceEqDiff, ↓reduceIte, reduceCtorEq, Nat.reduceBEq, Nat.reduceBNe, Nat.reducePow, Int.reduceLE, Int.reduceLT, Int.reduceNeg, Int.reduceToNat, Int.reduceEq, Int.reduceAdd, Int.reduceSub, Int.reduceMul, Int.reduceBEq, Int.reduceBNe, Blk.men, Blk.keysIn, List.map_cons, List.map_nil, hd])
    | (exact retS_of rfl rfl rfl)
    | (refine DW.cond_tt rfl ?_)
    | (refine DW.cond_ff rfl ?_)
    | (refine DW.cond rfl ?_ ?_ <;> intro hc <;> (try simp only [go_sem] at hc))
    | (refine g_split ?_ ?_ <;> intro hc <;> (try simp only [hc]) <;> (try simp only [go_sem] at hc)))
  · have hd : decide (a.1 ≤ b.1) = false := decide_eq_false h
    rw [if_neg h]
    refine DCall.of Try.func121 sf121 hb121 (Nat.le_of_ble_eq_true rfl) (okRes_nil fun _ => rfl) ?_; simp only [s121, idxs, Nat.reduceAdd]
    repeat' (first
    | (with_reducible refine DW.seq ?_)
    | (with_reducible refine DW.block ?_)
    | (with_reducible refine DW.skip ?_)
    | (with_reducible refine DW.exit ?_)
    | (with_reducible refine DW.ret ?_)
    | (with_reducible refine DW.reg ?_)
    | (simp (disch := omega) only [go_sem, Nat.reduceLT, Nat.reduceLeDiff, Nat.reduceAdd, Nat.reduceMul, Nat.reduceEqDiff, ↓reduceIte, reduceCtorEq, Nat.reduceBEq, Nat.reduceBNe, Nat.reducePow, Int.reduceLE, Int.reduceLT, Int.reduceNeg, Int.reduceToNat, Int.reduceEq, Int.reduceAdd, Int.reduceSub, Int.reduceMul, Int.reduceBEq, Int.reduceBNe, Blk.men, Blk.keysIn, List.map_cons, List.map_nil, hd])
    | (exact retS_of rfl rfl rfl)
    | (refine DW.cond_tt rfl ?_)
    | (refine DW.cond_ff rfl ?_)
    | (refine DW.cond rfl ?_ ?_ <;> intro hc <;> (try simp only [go_sem] at hc))
    | (refine g_split ?_ ?_ <;> intro hc <;> (try simp only [hc]) <;> (try simp only [go_sem] at hc)))
theorem prIdx (b : Bool) (l : List (Int × Int)) (hl : l.length ≤ 2 ^ 36) (g : FuncId) (hp : ∀ x ∈ l, DCall Try.prog g [.agg ((eT x).map D.c)] [] (bD false) []) : DCall Try.prog 149 [.c (.sl b 2 (rows eT l)), .c (.fn (.func g) [] [])] [] (dI (-1)) [] := by
  refine DCall.of Try.func149 sf149 hb149 (Nat.le_of_ble_eq_true rfl) (okRes_nil fun _ => rfl) ?_; simp only [s149, idxs, Nat.reduceAdd]
  repeat' (first
    | (with_reducible refine DW.seq ?_)
    | (with_reducible refine DW.block ?_)
    | (with_reducible refine DW.skip ?_)
    | (with_reducible refine DW.exit ?_)
    | (with_reducible refine DW.ret ?_)
    | (with_reducible refine DW.reg ?_)
    | (simp (disch := omega) only [go_sem, Nat.reduceLT, Nat.reduceLeDiff, Nat.reduceAdd, Nat.reduceMul, Nat.reduceEqDiff, ↓reduceIte, reduceCtorEq, Nat.reduceBEq, Nat.reduceBNe, Nat.reducePow, Int.reduceLE, Int.reduceLT, Int.reduceNeg, Int.reduceToNat, Int.reduceEq, Int.reduceAdd, Int.reduceSub, Int.reduceMul, Int.reduceBEq, Int.reduceBNe, Blk.men, Blk.keysIn])
    | (exact retS_of rfl rfl rfl)
    | (refine DW.cond_tt rfl ?_)
    | (refine DW.cond_ff rfl ?_)
    | (refine DW.cond rfl ?_ ?_ <;> intro hc <;> (try simp only [go_sem] at hc))
    | (refine g_split ?_ ?_ <;> intro hc <;> (try simp only [hc]) <;> (try simp only [go_sem] at hc)))
  refine DW.loop (ι := { i : Nat // i ≤ l.length }) (fun i => ⟨19, [(8, dI i.1), (7, dI l.length), (1, .c (.fn (.func g) [] [])), (0, .c (.sl b 2 (rows eT l)))], []⟩) (fun i => l.length - i.1) ⟨0, Nat.zero_le _⟩ ?_ ?_
  · refine Ent.to ?_ ?_ <;> simp (disch := omega) only [wkT_cons, wkX_cons, wkT_nil, wkX_nil, get, Nat.reduceEqDiff, ↓reduceIte, ex_some, wk_self, wk_top, wk_nil, wkB_self, and_self, dI, i64_in, and_true, true_and, Int.natCast_add, Int.natCast_one, Int.ofNat_zero, Int.natCast_zero]
  rintro ⟨i, hi⟩
  rcases at_or l i hi with ⟨v, hv, hlt, hd⟩ | ⟨he, hd⟩
  · have hcall := hp v (List.mem_of_getElem? hv)
    repeat' (first
    | (with_reducible refine DW.seq ?_)
    | (with_reducible refine DW.block ?_)
    | (with_reducible refine DW.skip ?_)
    | (with_reducible refine DW.exit ?_)
    | (with_reducible refine DW.ret ?_)
    | (with_reducible refine DW.reg ?_)
    | (simp (disch := omega) only [go_sem, Nat.reduceLT, Nat.reduceLeDiff, Nat.reduceAdd, Nat.reduceMul, Nat.reduceEqDiff, ↓reduceIte, reduceCtorEq, Nat.reduceBEq, Nat.reduceBNe, Nat.reducePow, Int.reduceLE, Int.reduceLT, Int.reduceNeg, Int.reduceToNat, Int.reduceEq, Int.reduceAdd, Int.reduceSub, Int.reduceMul, Int.reduceBEq, Int.reduceBNe, Blk.men, Blk.keysIn, hd, hv, closeDs_fn, List.map_cons, List.map_nil])
    | (exact retS_of rfl rfl rfl)
    | (refine DW.cond_tt rfl ?_)
    | (refine DW.cond_ff rfl ?_)
    | (refine DW.cond rfl ?_ ?_ <;> intro hc <;> (try simp only [go_sem] at hc))
    | (refine g_split ?_ ?_ <;> intro hc <;> (try simp only [hc]) <;> (try simp only [go_sem] at hc)))
    refine call_c hcall (by decide) ?_
    simp (disch := omega) only [go_sem, Nat.reduceLT, Nat.reduceLeDiff, Nat.reduceAdd, Nat.reduceMul, Nat.reduceEqDiff, ↓reduceIte, reduceCtorEq, Nat.reduceBEq, Nat.reduceBNe, Nat.reducePow, Int.reduceLE, Int.reduceLT, Int.reduceNeg, Int.reduceToNat, Int.reduceEq, Int.reduceAdd, Int.reduceSub, Int.reduceMul, Int.reduceBEq, Int.reduceBNe, Blk.men, Blk.keysIn]
    repeat' (first
    | (with_reducible refine DW.seq ?_)
    | (with_reducible refine DW.block ?_)
    | (with_reducible refine DW.skip ?_)
    | (with_reducible refine DW.exit ?_)
    | (with_reducible refine DW.ret ?_)
    | (with_reducible refine DW.reg ?_)
    | (simp (disch := omega) only [go_sem, Nat.reduceLT, Nat.reduceLeDiff, Nat.reduceAdd, Nat.reduceMul, Nat.reduceEqDiff, ↓reduceIte, reduceCtorEq, Nat.reduceBEq, Nat.reduceBNe, Nat.reducePow, Int.reduceLE, Int.reduceLT, Int.reduceNeg, Int.reduceToNat, Int.reduceEq, Int.reduceAdd, Int.reduceSub, Int.reduceMul, Int.reduceBEq, Int.reduceBNe, Blk.men, Blk.keysIn])
    | (exact retS_of rfl rfl rfl)
    | (refine DW.cond_tt rfl ?_)
    | (refine DW.cond_ff rfl ?_)
    | (refine DW.cond rfl ?_ ?_ <;> intro hc <;> (try simp only [go_sem] at hc))
    | (refine g_split ?_ ?_ <;> intro hc <;> (try simp only [hc]) <;> (try simp only [go_sem] at hc)))
    refine ⟨⟨i + 1, hlt⟩, ?_, Ent.to ?_ ?_⟩ <;> first | (show _ < _; (try simp only); omega) | (simp (disch := omega) only [wkT_cons, wkX_cons, wkT_nil, wkX_nil, get, Nat.reduceEqDiff, ↓reduceIte, ex_some, wk_self, wk_top, wk_nil, wkB_self, and_self, dI, i64_in, and_true, true_and, Int.natCast_add, Int.natCast_one, Int.ofNat_zero, Int.natCast_zero])
  · repeat' (first
    | (with_reducible refine DW.seq ?_)
    | (with_reducible refine DW.block ?_)
    | (with_reducible refine DW.skip ?_)
    | (with_reducible refine DW.exit ?_)
    | (with_reducible refine DW.ret ?_)
    | (with_reducible refine DW.reg ?_)
    | (simp (disch := omega) only [go_sem, Nat.reduceLT, Nat.reduceLeDiff, Nat.reduceAdd, Nat.reduceMul, Nat.reduceEqDiff, ↓reduceIte, reduceCtorEq, Nat.reduceBEq, Nat.reduceBNe, Nat.reducePow, Int.reduceLE, Int.reduceLT, Int.reduceNeg, Int.reduceToNat, Int.reduceEq, Int.reduceAdd, Int.reduceSub, Int.reduceMul, Int.reduceBEq, Int.reduceBNe, Blk.men, Blk.keysIn, hd])
    | (exact retS_of rfl rfl rfl)
    | (refine DW.cond_tt rfl ?_)
    | (refine DW.cond_ff rfl ?_)
    | (refine DW.cond rfl ?_ ?_ <;> intro hc <;> (try simp only [go_sem] at hc))
    | (refine g_split ?_ ?_ <;> intro hc <;> (try simp only [hc]) <;> (try simp only [go_sem] at hc)))
theorem prContains (b : Bool) (l : List (Int × Int)) (hl : l.length ≤ 2 ^ 36) (g : FuncId) (hp : ∀ x ∈ l, DCall Try.prog g [.agg ((eT x).map D.c)] [] (bD false) []) : DCall Try.prog 122 [.c (.sl b 2 (rows eT l)), .c (.fn (.func g) [] [])] [] (bD false) [] := by
  refine DCall.of Try.func122 sf122 hb122 (Nat.le_of_ble_eq_true rfl) (okRes_nil fun _ => rfl) ?_; simp only [s122, idxs, Nat.reduceAdd]
  repeat' (first
    | (with_reducible refine DW.seq ?_)
    | (with_reducible refine DW.block ?_)
    | (with_reducible refine DW.skip ?_)
    | (with_reducible refine DW.exit ?_)
    | (with_reducible refine DW.ret ?_)
    | (with_reducible refine DW.reg ?_)
    | (simp (disch := omega) only [go_sem, Nat.reduceLT, Nat.reduceLeDiff, Nat.reduceAdd, Nat.reduceMul, Nat.reduceEqDiff, ↓reduceIte, reduceCtorEq, Nat.reduceBEq, Nat.reduceBNe, Nat.reducePow, Int.reduceLE, Int.reduceLT, Int.reduceNeg, Int.reduceToNat, Int.reduceEq, Int.reduceAdd, Int.reduceSub, Int.reduceMul, Int.reduceBEq, Int.reduceBNe, Blk.men, Blk.keysIn])
    | (exact retS_of rfl rfl rfl)
    | (refine DW.cond_tt rfl ?_)
    | (refine DW.cond_ff rfl ?_)
    | (refine DW.cond rfl ?_ ?_ <;> intro hc <;> (try simp only [go_sem] at hc))
    | (refine g_split ?_ ?_ <;> intro hc <;> (try simp only [hc]) <;> (try simp only [go_sem] at hc)))
  (refine call_c (prIdx b l hl g hp) (by decide) ?_; simp (disch := omega) only [go_sem, Nat.reduceLT, Nat.reduceLeDiff, Nat.reduceAdd, Nat.reduceMul, Nat.reduceEqDiff, ↓reduceIte, reduceCtorEq, Nat.reduceBEq, Nat.reduceBNe, Nat.reducePow, Int.reduceLE, Int.reduceLT, Int.reduceNeg, Int.reduceToNat, Int.reduceEq, Int.reduceAdd, Int.reduceSub, Int.reduceMul, Int.reduceBEq, Int.reduceBNe, Blk.men, Blk.keysIn])
  repeat' (first
    | (with_reducible refine DW.seq ?_)
    | (with_reducible refine DW.block ?_)
    | (with_reducible refine DW.skip ?_)
    | (with_reducible refine DW.exit ?_)
    | (with_reducible refine DW.ret ?_)
    | (with_reducible refine DW.reg ?_)
    | (simp (disch := omega) only [go_sem, Nat.reduceLT, Nat.reduceLeDiff, Nat.reduceAdd, Nat.reduceMul, Nat.reduceEqDiff, ↓reduceIte, reduceCtorEq, Nat.reduceBEq, Nat.reduceBNe, Nat.reducePow, Int.reduceLE, Int.reduceLT, Int.reduceNeg, Int.reduceToNat, Int.reduceEq, Int.reduceAdd, Int.reduceSub, Int.reduceMul, Int.reduceBEq, Int.reduceBNe, Blk.men, Blk.keysIn])
    | (exact retS_of rfl rfl rfl)
    | (refine DW.cond_tt rfl ?_)
    | (refine DW.cond_ff rfl ?_)
    | (refine DW.cond rfl ?_ ?_ <;> intro hc <;> (try simp only [go_sem] at hc))
    | (refine g_split ?_ ?_ <;> intro hc <;> (try simp only [hc]) <;> (try simp only [go_sem] at hc)))
theorem prSorted (b : Bool) (l : List (Int × Int)) (hl : l.length ≤ 2 ^ 36) (ha : l.Pairwise (fun a b => a.1 < b.1)) : DCall Try.prog 120 [.c (.sl b 2 (rows eT l)), .c (.fn (.func 121) [] [])] [] (bD true) [] := by
  refine DCall.of Try.func120 sf120 hb120 (Nat.le_of_ble_eq_true rfl) (okRes_nil fun _ => rfl) ?_; simp only [s120, idxs, Nat.reduceAdd]
  repeat' (first
    | (with_reducible refine DW.seq ?_)
    | (with_reducible refine DW.block ?_)
    | (with_reducible refine DW.skip ?_)
    | (with_reducible refine DW.exit ?_)
    | (with_reducible refine DW.ret ?_)
    | (with_reducible refine DW.reg ?_)
    | (refine DW.dreg rfl (WF.of (by first | rfl | simp (disch := omega) only [go_sem, Nat.reduceLT, Nat.reduceLeDiff, Nat.reduceAdd, Nat.reduceMul, Nat.reduceEqDiff, ↓reduceIte, reduceCtorEq, Nat.reduceBEq, Nat.reduceBNe, Nat.reducePow, Int.reduceLE, Int.reduceLT, Int.reduceNeg, Int.reduceToNat, Int.reduceEq, Int.reduceAdd, Int.reduceSub, Int.reduceMul, Int.reduceBEq, Int.reduceBNe, Blk.men, Blk.keysIn])) ?_)
    | (simp (disch := omega) only [go_sem, Nat.reduceLT, Nat.reduceLeDiff, Nat.reduceAdd, Nat.reduceMul, Nat.reduceEqDiff, ↓reduceIte, reduceCtorEq, Nat.reduceBEq, Nat.reduceBNe, Nat.reducePow, Int.reduceLE, Int.reduceLT, Int.reduceNeg, Int.reduceToNat, Int.reduceEq, Int.reduceAdd, Int.reduceSub, Int.reduceMul, Int.reduceBEq, Int.reduceBNe, Blk.men, Blk.keysIn])
    | (exact retS_of rfl rfl rfl)
    | (refine DW.cond_tt rfl ?_)
    | (refine DW.cond_ff rfl ?_)
    | (refine DW.cond rfl ?_ ?_ <;> intro hc <;> (try simp only [go_sem] at hc))
    | (refine g_split ?_ ?_ <;> intro hc <;> (try simp only [hc]) <;> (try simp only [go_sem] at hc)))
  refine DW.loop (ι := { i : Nat // i ≤ l.length }) (fun i => ⟨25, [(5, dI ((i.1 : Int) - 1)), (1, .c (.fn (.func 121) [] [])), (0, .c (.sl b 2 (rows eT l)))], []⟩) (fun i => i.1) ⟨l.length, Nat.le_refl _⟩ ?_ ?_
  · refine Ent.to ?_ ?_ <;> simp (disch := omega) only [wkT_cons, wkX_cons, wkT_nil, wkX_nil, get, Nat.reduceEqDiff, ↓reduceIte, ex_some, wk_self, wk_top, wk_nil, wkB_self, and_self, dI, i64_in, and_true, true_and, Int.natCast_add, Int.natCast_one, Int.ofNat_zero, Int.natCast_zero]
  rintro ⟨i, hi⟩
  dsimp only
  rcases Nat.lt_or_ge 1 i with h1 | h1
  · obtain ⟨j, rfl⟩ : ∃ j, i = j + 2 := ⟨i - 2, by omega⟩
    have hd : decide ((0 : Int) < ((j + 2 : Nat) : Int) - 1) = true := by rw [decide_eq_true_eq]; omega
    have e1 : ((j + 2 : Nat) : Int) - 1 = ((j + 1 : Nat) : Int) := by omega
    have e2 : ((j + 1 : Nat) : Int) - 1 = ((j : Nat) : Int) := by omega
    obtain ⟨v, hv⟩ := getE (l := l) (i := j + 1) (by omega)
    obtain ⟨u, hu⟩ := getE (l := l) (i := j) (by omega)
    have hlt : u.1 < v.1 := by
      have := List.pairwise_iff_getElem.1 ha j (j + 1) (by omega) (by omega) (by omega)
      rw [List.getElem?_eq_some_iff] at hu hv
      obtain ⟨_, rfl⟩ := hu
      obtain ⟨_, rfl⟩ := hv
      exact this
    have hcall := prOpen2 v u
    rw [if_neg (by omega)] at hcall
    have hd' : decide ((0 : Int) < ((j + 1 : Nat) : Int)) = true := by rw [decide_eq_true_eq]; omega
    rw [e1]
    repeat' (first
    | (with_reducible refine DW.seq ?_)
    | (with_reducible refine DW.block ?_)
    | (with_reducible refine DW.skip ?_)
    | (with_reducible refine DW.exit ?_)
    | (with_reducible refine DW.ret ?_)
    | (with_reducible refine DW.reg ?_)
    | (refine DW.dreg rfl (WF.of (by first | rfl | simp (disch := omega) only [go_sem, Nat.reduceLT, Nat.reduceLeDiff, Nat.reduceAdd, Nat.reduceMul, Nat.reduceEqDiff, ↓reduceIte, reduceCtorEq, Nat.reduceBEq, Nat.reduceBNe, Nat.reducePow, Int.reduceLE, Int.reduceLT, Int.reduceNeg, Int.reduceToNat, Int.reduceEq, Int.reduceAdd, Int.reduceSub, Int.reduceMul, Int.reduceBEq, Int.reduceBNe, Blk.men, Blk.keysIn, hd', e2, hv, hu, closeDs_fn, List.map_cons, List.map_nil])) ?_)
    | (simp (disch := omega) only [go_sem, Nat.reduceLT, Nat.reduceLeDiff, Nat.reduceAdd, Nat.reduceMul, Nat.reduceEqDiff, ↓reduceIte, reduceCtorEq, Nat.reduceBEq, Nat.reduceBNe, Nat.reducePow, Int.reduceLE, Int.reduceLT, Int.reduceNeg, Int.reduceToNat, Int.reduceEq, Int.reduceAdd, Int.reduceSub, Int.reduceMul, Int.reduceBEq, Int.reduceBNe, Blk.men, Blk.keysIn, hd', e2, hv, hu, closeDs_fn, List.map_cons, List.map_nil])
    | (exact retS_of rfl rfl rfl)
    | (refine DW.cond_tt rfl ?_)
    | (refine DW.cond_ff rfl ?_)
    | (refine DW.cond rfl ?_ ?_ <;> intro hc <;> (try simp only [go_sem] at hc))
    | (refine g_split ?_ ?_ <;> intro hc <;> (try simp only [hc]) <;> (try simp only [go_sem] at hc)))
    refine call_c hcall (by decide) ?_
    simp (disch := omega) only [go_sem, Nat.reduceLT, Nat.reduceLeDiff, Nat.reduceAdd, Nat.reduceMul, Nat.reduceEqDiff, ↓reduceIte, reduceCtorEq, Nat.reduceBEq, Nat.reduceBNe, Nat.reducePow, Int.reduceLE, Int.reduceLT, Int.reduceNeg, Int.reduceToNat, Int.reduceEq, Int.reduceAdd, Int.reduceSub, Int.reduceMul, Int.reduceBEq, Int.reduceBNe, Blk.men, Blk.keysIn]
    repeat' (first
    | (with_reducible refine DW.seq ?_)
    | (with_reducible refine DW.block ?_)
    | (with_reducible refine DW.skip ?_)
    | (with_reducible refine DW.exit ?_)
    | (with_reducible refine DW.ret ?_)
    | (with_reducible refine DW.reg ?_)
    | (refine DW.dreg rfl (WF.of (by first | rfl | simp (disch := omega) only [go_sem, Nat.reduceLT, Nat.reduceLeDiff, Nat.reduceAdd, Nat.reduceMul, Nat.reduceEqDiff, ↓reduceIte, reduceCtorEq, Nat.reduceBEq, Nat.reduceBNe, Nat.reducePow, Int.reduceLE, Int.reduceLT, Int.reduceNeg, Int.reduceToNat, Int.reduceEq, Int.reduceAdd, Int.reduceSub, Int.reduceMul, Int.reduceBEq, Int.reduceBNe, Blk.men, Blk.keysIn])) ?_)
    | (simp (disch := omega) only [go_sem, Nat.reduceLT, Nat.reduceLeDiff, Nat.reduceAdd, Nat.reduceMul, Nat.reduceEqDiff, ↓reduceIte, reduceCtorEq, Nat.reduceBEq, Nat.reduceBNe, Nat.reducePow, Int.reduceLE, Int.reduceLT, Int.reduceNeg, Int.reduceToNat, Int.reduceEq, Int.reduceAdd, Int.reduceSub, Int.reduceMul, Int.reduceBEq, Int.reduceBNe, Blk.men, Blk.keysIn])
    | (exact retS_of rfl rfl rfl)
    | (refine DW.cond_tt rfl ?_)
    | (refine DW.cond_ff rfl ?_)
    | (refine DW.cond rfl ?_ ?_ <;> intro hc <;> (try simp only [go_sem] at hc))
    | (refine g_split ?_ ?_ <;> intro hc <;> (try simp only [hc]) <;> (try simp only [go_sem] at hc)))
    refine ⟨⟨j + 1, by omega⟩, ?_, Ent.to ?_ ?_⟩ <;> first | (show _ < _; (try simp only); omega) | (simp (disch := omega) only [wkT_cons, wkX_cons, wkT_nil, wkX_nil, get, Nat.reduceEqDiff, ↓reduceIte, ex_some, wk_self, wk_top, wk_nil, wkB_self, and_self, dI, i64_in, and_true, true_and, Int.natCast_add, Int.natCast_one, Int.ofNat_zero, Int.natCast_zero])
  · have hd : decide ((0 : Int) < (i : Int) - 1) = false := by rw [decide_eq_false_iff_not]; omega
    repeat' (first
    | (with_reducible refine DW.seq ?_)
    | (with_reducible refine DW.block ?_)
    | (with_reducible refine DW.skip ?_)
    | (with_reducible refine DW.exit ?_)
    | (with_reducible refine DW.ret ?_)
    | (with_reducible refine DW.reg ?_)
    | (refine DW.dreg rfl (WF.of (by first | rfl | simp (disch := omega) only [go_sem, Nat.reduceLT, Nat.reduceLeDiff, Nat.reduceAdd, Nat.reduceMul, Nat.reduceEqDiff, ↓reduceIte, reduceCtorEq, Nat.reduceBEq, Nat.reduceBNe, Nat.reducePow, Int.reduceLE, Int.reduceLT, Int.reduceNeg, Int.reduceToNat, Int.reduceEq, Int.reduceAdd, Int.reduceSub, Int.reduceMul, Int.reduceBEq, Int.reduceBNe, Blk.men, Blk.keysIn, hd])) ?_)
    | (simp (disch := omega) only [go_sem, Nat.reduceLT, Nat.reduceLeDiff, Nat.reduceAdd, Nat.reduceMul, Nat.reduceEqDiff, ↓reduceIte, reduceCtorEq, Nat.reduceBEq, Nat.reduceBNe, Nat.reducePow, Int.reduceLE, Int.reduceLT, Int.reduceNeg, Int.reduceToNat, Int.reduceEq, Int.reduceAdd, Int.reduceSub, Int.reduceMul, Int.reduceBEq, Int.reduceBNe, Blk.men, Blk.keysIn, hd])
    | (exact retS_of rfl rfl rfl)
    | (refine DW.cond_tt rfl ?_)
    | (refine DW.cond_ff rfl ?_)
    | (refine DW.cond rfl ?_ ?_ <;> intro hc <;> (try simp only [go_sem] at hc))
    | (refine g_split ?_ ?_ <;> intro hc <;> (try simp only [hc]) <;> (try simp only [go_sem] at hc)))
theorem prOpen (q : Quote) (h : q.ok) : DCall Try.prog 77 [dQ false q] [] (.tup [dQ false q, dI 0]) [] := by
  have h1 := prContains false q.steps (by have := h.len; omega) 119 (fun s hs => prOpen1 s (h.steps s hs))
  have h2 := prSorted false q.steps (by have := h.len; omega) h.asc
  have h3 := prWithin true 1 100000 [q.area] (by simp)
  have h4 := prWithin true 0 100000 [q.board] (by simp)
  have h5 := prWithin true 0 500 [q.waste] (by simp)
  have h6 := prWithin true 0 1000000 [q.tool, q.setup, q.work, q.freight] (by simp)
  have h7 := prCount true [q.run, q.pallet] (by simp)
  have h8 := prWithin true 0 1000 [q.margin] (by simp)
  rw [wthn_ok (by simpa using h.area)] at h3
  rw [wthn_ok (by simpa using h.board)] at h4
  rw [wthn_ok (by simpa using h.waste)] at h5
  rw [wthn_ok (by have a := h.tool; have b := h.setup; have c := h.work; have d := h.freight; simp; omega)] at h6
  rw [wthn_ok (by have a := h.run; have b := h.pallet; simp; omega)] at h7
  rw [wthn_ok (by simpa using h.margin)] at h8
  have hd : decide ((6 : Int) < (q.steps.length : Int)) = false := by have := h.len; rw [decide_eq_false_iff_not]; omega
  refine DCall.of Try.func77 sf77 hb77 (Nat.le_of_ble_eq_true rfl) (okRes_nil fun _ => rfl) ?_; simp only [s77, idxs, Nat.reduceAdd]
  repeat' (first
    | (with_reducible refine DW.seq ?_)
    | (with_reducible refine DW.block ?_)
    | (with_reducible refine DW.skip ?_)
    | (with_reducible refine DW.exit ?_)
    | (with_reducible refine DW.ret ?_)
    | (with_reducible refine DW.reg ?_)
    | (simp (disch := omega) only [go_sem, Nat.reduceLT, Nat.reduceLeDiff, Nat.reduceAdd, Nat.reduceMul, Nat.reduceEqDiff, ↓reduceIte, reduceCtorEq, Nat.reduceBEq, Nat.reduceBNe, Nat.reducePow, Int.reduceLE, Int.reduceLT, Int.reduceNeg, Int.reduceToNat, Int.reduceEq, Int.reduceAdd, Int.reduceSub, Int.reduceMul, Int.reduceBEq, Int.reduceBNe, Blk.men, Blk.keysIn, hd])
    | (exact retS_of rfl rfl rfl)
    | (refine DW.cond_tt rfl ?_)
    | (refine call_c (h1) (by decide) ?_)
    | (refine call_c (h2) (by decide) ?_)
    | (refine call_c (h3) (by decide) ?_)
    | (refine call_c (h4) (by decide) ?_)
    | (refine call_c (h5) (by decide) ?_)
    | (refine call_c (h6) (by decide) ?_)
    | (refine call_c (h7) (by decide) ?_)
    | (refine call_c (h8) (by decide) ?_)
    | (refine DW.cond_ff rfl ?_)
    | (refine DW.cond rfl ?_ ?_ <;> intro hc <;> (try simp only [go_sem] at hc))
    | (refine g_split ?_ ?_ <;> intro hc <;> (try simp only [hc]) <;> (try simp only [go_sem] at hc)))
  refine retS_wk rfl ?_ (by simp only [Blk.nb, rowC_nb, D.nb, D.nbs, C.nb, C.nbs, C.nbss, rows_nb eI_nb, rows_nb eC_nb, rows_nb eL_nb, rows_nb eR_nb, rows_nb eS_nb, rows_nb eG_nb, Bool.and_true, Bool.not_false, Bool.and_self, bD, dI, iD, rows_nb eT_nb]); exact .tup (.cons (.refl _) (.cons (.refl _) .nil))
end Go.Dw.Seat
end
