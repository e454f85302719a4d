/- Helpers of a proof. -/
import Derived.Test.YtmbgogijhpommaaW37
import Derived.Test.YtmbgogijhpommaaProg
set_option linter.unusedVariables false
set_option linter.unusedSimpArgs false
section
namespace Go.Dw.Seat
open Go Go.Dw Go.Proofs
instance laysI : Lays := ⟨[]⟩
theorem laid0 (W : World) : LaidA (fun _ => False) W := fun _ hp => nomatch hp
theorem el0 : elemI Try.prog 0 = none := by kernel_rfl
theorem ty1 : tyI Try.prog 1 = some ⟨false, 1, [.nilFunc], 8⟩ := by kernel_rfl
theorem el1 : elemI Try.prog 1 = none := by kernel_rfl
theorem ty2 : tyI Try.prog 2 = some ⟨false, 1, [(.int .i64 0)], 8⟩ := by kernel_rfl
theorem el2 : elemI Try.prog 2 = none := by kernel_rfl
theorem it2 : intI Try.prog 2 = some .i64 := by kernel_rfl
theorem ty3 : tyI Try.prog 3 = some ⟨false, 1, [(.int .i64 0)], 8⟩ := by kernel_rfl
theorem el3 : elemI Try.prog 3 = none := by kernel_rfl
theorem it3 : intI Try.prog 3 = some .i64 := by kernel_rfl
theorem ty4 : tyI Try.prog 4 = some ⟨false, 1, [(.bool false)], 1⟩ := by kernel_rfl
theorem el4 : elemI Try.prog 4 = none := by kernel_rfl
theorem bl4 : blI Try.prog 4 = true := by kernel_rfl
theorem ty5 : tyI Try.prog 5 = some ⟨false, 1, [(.int .u8 0)], 1⟩ := by kernel_rfl
theorem el5 : elemI Try.prog 5 = none := by kernel_rfl
theorem it5 : intI Try.prog 5 = some .u8 := by kernel_rfl
theorem ty6 : tyI Try.prog 6 = some ⟨false, 1, [(.int .u8 0)], 1⟩ := by kernel_rfl
theorem el6 : elemI Try.prog 6 = none := by kernel_rfl
theorem it6 : intI Try.prog 6 = some .u8 := by kernel_rfl
theorem ty7 : tyI Try.prog 7 = some ⟨true, 4, [(.int .i64 0), (.int .i64 0), (.bool false), (.int .u8 0)], 24⟩ := by kernel_rfl
theorem el7 : elemI Try.prog 7 = none := by kernel_rfl
theorem eq7 : eqTy Try.prog 7 = some (.st [(0, 1, .it), (1, 1, .it), (2, 1, .bl), (3, 1, .it)]) := by kernel_rfl
theorem pl7 : placesI Try.prog 7 = some [(0, 1), (1, 1), (2, 1), (3, 1)] := by kernel_rfl
theorem fi7_0 : fieldI Try.prog 7 0 = some (0, 1, false) := by kernel_rfl
theorem fi7_1 : fieldI Try.prog 7 1 = some (1, 1, false) := by kernel_rfl
theorem fi7_2 : fieldI Try.prog 7 2 = some (2, 1, false) := by kernel_rfl
theorem fi7_3 : fieldI Try.prog 7 3 = some (3, 1, false) := by kernel_rfl
theorem ty8 : tyI Try.prog 8 = some ⟨true, 4, [(.int .i64 0), (.int .i64 0), (.bool false), (.int .u8 0)], 24⟩ := by kernel_rfl
theorem el8 : elemI Try.prog 8 = none := by kernel_rfl
theorem eq8 : eqTy Try.prog 8 = some (.st [(0, 1, .it), (1, 1, .it), (2, 1, .bl), (3, 1, .it)]) := by kernel_rfl
theorem pl8 : placesI Try.prog 8 = some [(0, 1), (1, 1), (2, 1), (3, 1)] := by kernel_rfl
theorem fi8_0 : fieldI Try.prog 8 0 = some (0, 1, false) := by kernel_rfl
theorem fi8_1 : fieldI Try.prog 8 1 = some (1, 1, false) := by kernel_rfl
theorem fi8_2 : fieldI Try.prog 8 2 = some (2, 1, false) := by kernel_rfl
theorem fi8_3 : fieldI Try.prog 8 3 = some (3, 1, false) := by kernel_rfl
theorem ty9 : tyI Try.prog 9 = some ⟨false, 1, [(.string ⟨#[]⟩)], 16⟩ := by kernel_rfl
theorem el9 : elemI Try.prog 9 = none := by kernel_rfl
theorem ty10 : tyI Try.prog 10 = some ⟨false, 1, [(.string ⟨#[]⟩)], 16⟩ := by kernel_rfl
theorem el10 : elemI Try.prog 10 = none := by kernel_rfl
theorem ty11 : tyI Try.prog 11 = some ⟨false, 1, [(.string ⟨#[]⟩)], 16⟩ := by kernel_rfl
theorem el11 : elemI Try.prog 11 = none := by kernel_rfl
theorem ty12 : tyI Try.prog 12 = some ⟨false, 1, [(.int .u64 0)], 8⟩ := by kernel_rfl
theorem el12 : elemI Try.prog 12 = none := by kernel_rfl
theorem it12 : intI Try.prog 12 = some .u64 := by kernel_rfl
theorem ty13 : tyI Try.prog 13 = some ⟨true, 2, [(.string ⟨#[]⟩), (.int .u64 0)], 24⟩ := by kernel_rfl
theorem el13 : elemI Try.prog 13 = none := by kernel_rfl
theorem pl13 : placesI Try.prog 13 = some [(0, 1), (1, 1)] := by kernel_rfl
theorem fi13_0 : fieldI Try.prog 13 0 = some (0, 1, false) := by kernel_rfl
theorem fi13_1 : fieldI Try.prog 13 1 = some (1, 1, false) := by kernel_rfl
theorem ty14 : tyI Try.prog 14 = some ⟨true, 2, [(.string ⟨#[]⟩), (.int .u64 0)], 24⟩ := by kernel_rfl
theorem el14 : elemI Try.prog 14 = none := by kernel_rfl
theorem pl14 : placesI Try.prog 14 = some [(0, 1), (1, 1)] := by kernel_rfl
theorem fi14_0 : fieldI Try.prog 14 0 = some (0, 1, false) := by kernel_rfl
theorem fi14_1 : fieldI Try.prog 14 1 = some (1, 1, false) := by kernel_rfl
theorem ty15 : tyI Try.prog 15 = some ⟨false, 1, [(.pointer none)], 8⟩ := by kernel_rfl
theorem el15 : elemI Try.prog 15 = none := by kernel_rfl
theorem ty16 : tyI Try.prog 16 = some ⟨false, 1, [(.pointer none)], 8⟩ := by kernel_rfl
theorem el16 : elemI Try.prog 16 = none := by kernel_rfl
theorem ty17 : tyI Try.prog 17 = some ⟨false, 1, [(.pointer none)], 8⟩ := by kernel_rfl
theorem el17 : elemI Try.prog 17 = none := by kernel_rfl
theorem ty18 : tyI Try.prog 18 = some ⟨true, 1, [(.pointer none)], 8⟩ := by kernel_rfl
theorem el18 : elemI Try.prog 18 = none := by kernel_rfl
theorem pl18 : placesI Try.prog 18 = some [(0, 1)] := by kernel_rfl
theorem fi18_0 : fieldI Try.prog 18 0 = some (0, 1, false) := by kernel_rfl
theorem ty19 : tyI Try.prog 19 = some ⟨true, 1, [(.pointer none)], 8⟩ := by kernel_rfl
theorem el19 : elemI Try.prog 19 = none := by kernel_rfl
theorem pl19 : placesI Try.prog 19 = some [(0, 1)] := by kernel_rfl
theorem fi19_0 : fieldI Try.prog 19 0 = some (0, 1, false) := by kernel_rfl
theorem ty20 : tyI Try.prog 20 = some ⟨false, 1, [.nilIface], 16⟩ := by kernel_rfl
theorem el20 : elemI Try.prog 20 = none := by kernel_rfl
theorem ty21 : tyI Try.prog 21 = some ⟨false, 1, [(.int .i32 0)], 4⟩ := by kernel_rfl
theorem el21 : elemI Try.prog 21 = none := by kernel_rfl
theorem it21 : intI Try.prog 21 = some .i32 := by kernel_rfl
theorem ty22 : tyI Try.prog 22 = some ⟨false, 1, [(.slice none 0 0)], 24⟩ := by kernel_rfl
theorem el22 : elemI Try.prog 22 = some 5 := by kernel_rfl
theorem ty23 : tyI Try.prog 23 = some ⟨true, 4, [(.int .u8 0), (.int .u8 0), (.int .u8 0), (.int .u8 0)], 4⟩ := by kernel_rfl
theorem el23 : elemI Try.prog 23 = none := by kernel_rfl
theorem ar23 : arrI Try.prog 23 = some (4, 5) := by kernel_rfl
theorem pl23 : placesI Try.prog 23 = some [(0, 1), (1, 1), (2, 1), (3, 1)] := by kernel_rfl
theorem ty24 : tyI Try.prog 24 = some ⟨true, 2, [(.int .u8 0), (.int .u8 0)], 2⟩ := by kernel_rfl
theorem el24 : elemI Try.prog 24 = none := by kernel_rfl
theorem ar24 : arrI Try.prog 24 = some (2, 5) := by kernel_rfl
theorem pl24 : placesI Try.prog 24 = some [(0, 1), (1, 1)] := by kernel_rfl
theorem ty25 : tyI Try.prog 25 = some ⟨false, 1, [(.slice none 0 0)], 24⟩ := by kernel_rfl
theorem el25 : elemI Try.prog 25 = some 110 := by kernel_rfl
theorem ty26 : tyI Try.prog 26 = some ⟨true, 11, [(.int .i64 0), (.int .i64 0), (.int .i64 0), (.int .i64 0), (.int .i64 0), (.int .i64 0), (.int .i64 0), (.int .i64 0), (.int .i64 0), (.int .i64 0), (.slice none 0 0)], 104⟩ := by kernel_rfl
theorem el26 : elemI Try.prog 26 = none := by kernel_rfl
theorem pl26 : placesI Try.prog 26 = some [(0, 1), (1, 1), (2, 1), (3, 1), (4, 1), (5, 1), (6, 1), (7, 1), (8, 1), (9, 1), (10, 1)] := by kernel_rfl
theorem fi26_0 : fieldI Try.prog 26 0 = some (0, 1, false) := by kernel_rfl
theorem fi26_1 : fieldI Try.prog 26 1 = some (1, 1, false) := by kernel_rfl
theorem fi26_2 : fieldI Try.prog 26 2 = some (2, 1, false) := by kernel_rfl
theorem fi26_3 : fieldI Try.prog 26 3 = some (3, 1, false) := by kernel_rfl
theorem fi26_4 : fieldI Try.prog 26 4 = some (4, 1, false) := by kernel_rfl
theorem fi26_5 : fieldI Try.prog 26 5 = some (5, 1, false) := by kernel_rfl
theorem fi26_6 : fieldI Try.prog 26 6 = some (6, 1, false) := by kernel_rfl
theorem fi26_7 : fieldI Try.prog 26 7 = some (7, 1, false) := by kernel_rfl
theorem fi26_8 : fieldI Try.prog 26 8 = some (8, 1, false) := by kernel_rfl
theorem fi26_9 : fieldI Try.prog 26 9 = some (9, 1, false) := by kernel_rfl
theorem fi26_10 : fieldI Try.prog 26 10 = some (10, 1, false) := by kernel_rfl
theorem ty27 : tyI Try.prog 27 = some ⟨true, 11, [(.int .i64 0), (.int .i64 0), (.int .i64 0), (.int .i64 0), (.int .i64 0), (.int .i64 0), (.int .i64 0), (.int .i64 0), (.int .i64 0), (.int .i64 0), (.slice none 0 0)], 104⟩ := by kernel_rfl
theorem el27 : elemI Try.prog 27 = none := by kernel_rfl
theorem pl27 : placesI Try.prog 27 = some [(0, 1), (1, 1), (2, 1), (3, 1), (4, 1), (5, 1), (6, 1), (7, 1), (8, 1), (9, 1), (10, 1)] := by kernel_rfl
theorem fi27_0 : fieldI Try.prog 27 0 = some (0, 1, false) := by kernel_rfl
theorem fi27_1 : fieldI Try.prog 27 1 = some (1, 1, false) := by kernel_rfl
theorem fi27_2 : fieldI Try.prog 27 2 = some (2, 1, false) := by kernel_rfl
theorem fi27_3 : fieldI Try.prog 27 3 = some (3, 1, false) := by kernel_rfl
theorem fi27_4 : fieldI Try.prog 27 4 = some (4, 1, false) := by kernel_rfl
theorem fi27_5 : fieldI Try.prog 27 5 = some (5, 1, false) := by kernel_rfl
theorem fi27_6 : fieldI Try.prog 27 6 = some (6, 1, false) := by kernel_rfl
theorem fi27_7 : fieldI Try.prog 27 7 = some (7, 1, false) := by kernel_rfl
theorem fi27_8 : fieldI Try.prog 27 8 = some (8, 1, false) := by kernel_rfl
theorem fi27_9 : fieldI Try.prog 27 9 = some (9, 1, false) := by kernel_rfl
theorem fi27_10 : fieldI Try.prog 27 10 = some (10, 1, false) := by kernel_rfl
theorem ty28 : tyI Try.prog 28 = some ⟨false, 1, [.nilFunc], 8⟩ := by kernel_rfl
theorem el28 : elemI Try.prog 28 = none := by kernel_rfl
theorem ty29 : tyI Try.prog 29 = some ⟨false, 1, [.nilFunc], 8⟩ := by kernel_rfl
theorem el29 : elemI Try.prog 29 = none := by kernel_rfl
theorem ty30 : tyI Try.prog 30 = some ⟨true, 4, [(.int .i64 0), (.int .i64 0), (.int .i64 0), (.int .i64 0)], 32⟩ := by kernel_rfl
theorem el30 : elemI Try.prog 30 = none := by kernel_rfl
theorem eq30 : eqTy Try.prog 30 = some (.st [(0, 1, .it), (1, 1, .it), (2, 1, .it), (3, 1, .it)]) := by kernel_rfl
theorem pl30 : placesI Try.prog 30 = some [(0, 1), (1, 1), (2, 1), (3, 1)] := by kernel_rfl
theorem fi30_0 : fieldI Try.prog 30 0 = some (0, 1, false) := by kernel_rfl
theorem fi30_1 : fieldI Try.prog 30 1 = some (1, 1, false) := by kernel_rfl
theorem fi30_2 : fieldI Try.prog 30 2 = some (2, 1, false) := by kernel_rfl
theorem fi30_3 : fieldI Try.prog 30 3 = some (3, 1, false) := by kernel_rfl
theorem ty31 : tyI Try.prog 31 = some ⟨true, 4, [(.int .i64 0), (.int .i64 0), (.int .i64 0), (.int .i64 0)], 32⟩ := by kernel_rfl
theorem el31 : elemI Try.prog 31 = none := by kernel_rfl
theorem eq31 : eqTy Try.prog 31 = some (.st [(0, 1, .it), (1, 1, .it), (2, 1, .it), (3, 1, .it)]) := by kernel_rfl
theorem pl31 : placesI Try.prog 31 = some [(0, 1), (1, 1), (2, 1), (3, 1)] := by kernel_rfl
theorem fi31_0 : fieldI Try.prog 31 0 = some (0, 1, false) := by kernel_rfl
theorem fi31_1 : fieldI Try.prog 31 1 = some (1, 1, false) := by kernel_rfl
theorem fi31_2 : fieldI Try.prog 31 2 = some (2, 1, false) := by kernel_rfl
theorem fi31_3 : fieldI Try.prog 31 3 = some (3, 1, false) := by kernel_rfl
theorem ty32 : tyI Try.prog 32 = some ⟨false, 1, [(.slice none 0 0)], 24⟩ := by kernel_rfl
theorem el32 : elemI Try.prog 32 = some 3 := by kernel_rfl
theorem ty33 : tyI Try.prog 33 = some ⟨false, 1, [(.int .i64 0)], 8⟩ := by kernel_rfl
theorem el33 : elemI Try.prog 33 = none := by kernel_rfl
theorem it33 : intI Try.prog 33 = some .i64 := by kernel_rfl
theorem ty34 : tyI Try.prog 34 = some ⟨false, 1, [(.int .i64 0)], 8⟩ := by kernel_rfl
theorem el34 : elemI Try.prog 34 = none := by kernel_rfl
theorem it34 : intI Try.prog 34 = some .i64 := by kernel_rfl
theorem el35 : elemI Try.prog 35 = none := by kernel_rfl
theorem ty36 : tyI Try.prog 36 = some ⟨false, 1, [.nilFunc], 8⟩ := by kernel_rfl
theorem el36 : elemI Try.prog 36 = none := by kernel_rfl
theorem ty37 : tyI Try.prog 37 = some ⟨false, 1, [.nilFunc], 8⟩ := by kernel_rfl
theorem el37 : elemI Try.prog 37 = none := by kernel_rfl
theorem el38 : elemI Try.prog 38 = none := by kernel_rfl
theorem ty39 : tyI Try.prog 39 = some ⟨false, 1, [.nilFunc], 8⟩ := by kernel_rfl
theorem el39 : elemI Try.prog 39 = none := by kernel_rfl
theorem ty40 : tyI Try.prog 40 = some ⟨false, 1, [.nilFunc], 8⟩ := by kernel_rfl
theorem el40 : elemI Try.prog 40 = none := by kernel_rfl
theorem ty41 : tyI Try.prog 41 = some ⟨true, 5, [(.int .i64 0), (.int .i64 0), (.int .i64 0), (.int .i64 0), (.int .i64 0)], 40⟩ := by kernel_rfl
theorem el41 : elemI Try.prog 41 = none := by kernel_rfl
theorem eq41 : eqTy Try.prog 41 = some (.st [(0, 1, .it), (1, 1, .it), (2, 1, .it), (3, 1, .it), (4, 1, .it)]) := by kernel_rfl
theorem pl41 : placesI Try.prog 41 = some [(0, 1), (1, 1), (2, 1), (3, 1), (4, 1)] := by kernel_rfl
theorem fi41_0 : fieldI Try.prog 41 0 = some (0, 1, false) := by kernel_rfl
theorem fi41_1 : fieldI Try.prog 41 1 = some (1, 1, false) := by kernel_rfl
theorem fi41_2 : fieldI Try.prog 41 2 = some (2, 1, false) := by kernel_rfl
theorem fi41_3 : fieldI Try.prog 41 3 = some (3, 1, false) := by kernel_rfl
theorem fi41_4 : fieldI Try.prog 41 4 = some (4, 1, false) := by kernel_rfl
theorem ty42 : tyI Try.prog 42 = some ⟨true, 5, [(.int .i64 0), (.int .i64 0), (.int .i64 0), (.int .i64 0), (.int .i64 0)], 40⟩ := by kernel_rfl
theorem el42 : elemI Try.prog 42 = none := by kernel_rfl
theorem eq42 : eqTy Try.prog 42 = some (.st [(0, 1, .it), (1, 1, .it), (2, 1, .it), (3, 1, .it), (4, 1, .it)]) := by kernel_rfl
theorem pl42 : placesI Try.prog 42 = some [(0, 1), (1, 1), (2, 1), (3, 1), (4, 1)] := by kernel_rfl
theorem fi42_0 : fieldI Try.prog 42 0 = some (0, 1, false) := by kernel_rfl
theorem fi42_1 : fieldI Try.prog 42 1 = some (1, 1, false) := by kernel_rfl
theorem fi42_2 : fieldI Try.prog 42 2 = some (2, 1, false) := by kernel_rfl
theorem fi42_3 : fieldI Try.prog 42 3 = some (3, 1, false) := by kernel_rfl
theorem fi42_4 : fieldI Try.prog 42 4 = some (4, 1, false) := by kernel_rfl
theorem el43 : elemI Try.prog 43 = none := by kernel_rfl
theorem ty44 : tyI Try.prog 44 = some ⟨false, 1, [.nilFunc], 8⟩ := by kernel_rfl
theorem el44 : elemI Try.prog 44 = none := by kernel_rfl
theorem ty45 : tyI Try.prog 45 = some ⟨false, 1, [.nilFunc], 8⟩ := by kernel_rfl
theorem el45 : elemI Try.prog 45 = none := by kernel_rfl
theorem ty46 : tyI Try.prog 46 = some ⟨false, 1, [(.slice none 0 0)], 24⟩ := by kernel_rfl
theorem el46 : elemI Try.prog 46 = some 127 := by kernel_rfl
theorem ty47 : tyI Try.prog 47 = some ⟨false, 1, [(.slice none 0 0)], 24⟩ := by kernel_rfl
theorem el47 : elemI Try.prog 47 = some 98 := by kernel_rfl
theorem ty48 : tyI Try.prog 48 = some ⟨true, 3, [(.slice none 0 0), (.slice none 0 0), (.slice none 0 0)], 72⟩ := by kernel_rfl
theorem el48 : elemI Try.prog 48 = none := by kernel_rfl
theorem pl48 : placesI Try.prog 48 = some [(0, 1), (1, 1), (2, 1)] := by kernel_rfl
theorem fi48_0 : fieldI Try.prog 48 0 = some (0, 1, false) := by kernel_rfl
theorem fi48_1 : fieldI Try.prog 48 1 = some (1, 1, false) := by kernel_rfl
theorem fi48_2 : fieldI Try.prog 48 2 = some (2, 1, false) := by kernel_rfl
theorem ty49 : tyI Try.prog 49 = some ⟨true, 3, [(.slice none 0 0), (.slice none 0 0), (.slice none 0 0)], 72⟩ := by kernel_rfl
theorem el49 : elemI Try.prog 49 = none := by kernel_rfl
theorem pl49 : placesI Try.prog 49 = some [(0, 1), (1, 1), (2, 1)] := by kernel_rfl
theorem fi49_0 : fieldI Try.prog 49 0 = some (0, 1, false) := by kernel_rfl
theorem fi49_1 : fieldI Try.prog 49 1 = some (1, 1, false) := by kernel_rfl
theorem fi49_2 : fieldI Try.prog 49 2 = some (2, 1, false) := by kernel_rfl
theorem ty50 : tyI Try.prog 50 = some ⟨false, 1, [(.int .u16 0)], 2⟩ := by kernel_rfl
theorem el50 : elemI Try.prog 50 = none := by kernel_rfl
theorem it50 : intI Try.prog 50 = some .u16 := by kernel_rfl
theorem ty51 : tyI Try.prog 51 = some ⟨false, 1, [(.slice none 0 0)], 24⟩ := by kernel_rfl
theorem el51 : elemI Try.prog 51 = some 89 := by kernel_rfl
theorem ty52 : tyI Try.prog 52 = some ⟨false, 1, [(.slice none 0 0)], 24⟩ := by kernel_rfl
theorem el52 : elemI Try.prog 52 = some 129 := by kernel_rfl
theorem ty53 : tyI Try.prog 53 = some ⟨true, 2, [(.slice none 0 0), (.slice none 0 0)], 48⟩ := by kernel_rfl
theorem el53 : elemI Try.prog 53 = none := by kernel_rfl
theorem pl53 : placesI Try.prog 53 = some [(0, 1), (1, 1)] := by kernel_rfl
theorem fi53_0 : fieldI Try.prog 53 0 = some (0, 1, false) := by kernel_rfl
theorem fi53_1 : fieldI Try.prog 53 1 = some (1, 1, false) := by kernel_rfl
theorem ty54 : tyI Try.prog 54 = some ⟨true, 2, [(.slice none 0 0), (.slice none 0 0)], 48⟩ := by kernel_rfl
theorem el54 : elemI Try.prog 54 = none := by kernel_rfl
theorem pl54 : placesI Try.prog 54 = some [(0, 1), (1, 1)] := by kernel_rfl
theorem fi54_0 : fieldI Try.prog 54 0 = some (0, 1, false) := by kernel_rfl
theorem fi54_1 : fieldI Try.prog 54 1 = some (1, 1, false) := by kernel_rfl
theorem ty55 : tyI Try.prog 55 = some ⟨false, 1, [.nilFunc], 8⟩ := by kernel_rfl
theorem el55 : elemI Try.prog 55 = none := by kernel_rfl
theorem ty56 : tyI Try.prog 56 = some ⟨true, 2, [(.slice none 0 0), (.slice none 0 0)], 48⟩ := by kernel_rfl
theorem el56 : elemI Try.prog 56 = none := by kernel_rfl
theorem pl56 : placesI Try.prog 56 = some [(0, 1), (1, 1)] := by kernel_rfl
theorem fi56_0 : fieldI Try.prog 56 0 = some (0, 1, false) := by kernel_rfl
theorem fi56_1 : fieldI Try.prog 56 1 = some (1, 1, false) := by kernel_rfl
theorem ty57 : tyI Try.prog 57 = some ⟨true, 2, [(.slice none 0 0), (.slice none 0 0)], 48⟩ := by kernel_rfl
theorem el57 : elemI Try.prog 57 = none := by kernel_rfl
theorem pl57 : placesI Try.prog 57 = some [(0, 1), (1, 1)] := by kernel_rfl
theorem fi57_0 : fieldI Try.prog 57 0 = some (0, 1, false) := by kernel_rfl
theorem fi57_1 : fieldI Try.prog 57 1 = some (1, 1, false) := by kernel_rfl
theorem ty58 : tyI Try.prog 58 = some ⟨false, 1, [.nilFunc], 8⟩ := by kernel_rfl
theorem el58 : elemI Try.prog 58 = none := by kernel_rfl
theorem ty59 : tyI Try.prog 59 = some ⟨true, 2, [(.int .i64 0), (.int .i64 0)], 16⟩ := by kernel_rfl
theorem el59 : elemI Try.prog 59 = none := by kernel_rfl
theorem eq59 : eqTy Try.prog 59 = some (.st [(0, 1, .it), (1, 1, .it)]) := by kernel_rfl
theorem pl59 : placesI Try.prog 59 = some [(0, 1), (1, 1)] := by kernel_rfl
theorem fi59_0 : fieldI Try.prog 59 0 = some (0, 1, false) := by kernel_rfl
theorem fi59_1 : fieldI Try.prog 59 1 = some (1, 1, false) := by kernel_rfl
theorem ty60 : tyI Try.prog 60 = some ⟨true, 2, [(.int .i64 0), (.int .i64 0)], 16⟩ := by kernel_rfl
theorem el60 : elemI Try.prog 60 = none := by kernel_rfl
theorem eq60 : eqTy Try.prog 60 = some (.st [(0, 1, .it), (1, 1, .it)]) := by kernel_rfl
theorem pl60 : placesI Try.prog 60 = some [(0, 1), (1, 1)] := by kernel_rfl
theorem fi60_0 : fieldI Try.prog 60 0 = some (0, 1, false) := by kernel_rfl
theorem fi60_1 : fieldI Try.prog 60 1 = some (1, 1, false) := by kernel_rfl
theorem el61 : elemI Try.prog 61 = none := by kernel_rfl
theorem ty62 : tyI Try.prog 62 = some ⟨false, 1, [.nilFunc], 8⟩ := by kernel_rfl
theorem el62 : elemI Try.prog 62 = none := by kernel_rfl
theorem ty63 : tyI Try.prog 63 = some ⟨false, 1, [.nilFunc], 8⟩ := by kernel_rfl
theorem el63 : elemI Try.prog 63 = none := by kernel_rfl
theorem ty64 : tyI Try.prog 64 = some ⟨false, 1, [.nilFunc], 8⟩ := by kernel_rfl
theorem el64 : elemI Try.prog 64 = none := by kernel_rfl
theorem el65 : elemI Try.prog 65 = none := by kernel_rfl
theorem ty66 : tyI Try.prog 66 = some ⟨false, 1, [.nilFunc], 8⟩ := by kernel_rfl
theorem el66 : elemI Try.prog 66 = none := by kernel_rfl
theorem ty67 : tyI Try.prog 67 = some ⟨false, 1, [.nilFunc], 8⟩ := by kernel_rfl
theorem el67 : elemI Try.prog 67 = none := by kernel_rfl
theorem ty68 : tyI Try.prog 68 = some ⟨true, 6, [(.int .i64 0), (.int .i64 0), (.int .i64 0), (.int .i64 0), (.int .i64 0), (.int .i64 0)], 48⟩ := by kernel_rfl
theorem el68 : elemI Try.prog 68 = none := by kernel_rfl
theorem eq68 : eqTy Try.prog 68 = some (.st [(0, 2, (.st [(0, 1, .it), (1, 1, .it)])), (2, 2, (.st [(0, 1, .it), (1, 1, .it)])), (4, 1, .it), (5, 1, .it)]) := by kernel_rfl
theorem pl68 : placesI Try.prog 68 = some [(0, 2), (2, 2), (4, 1), (5, 1)] := by kernel_rfl
theorem fi68_0 : fieldI Try.prog 68 0 = some (0, 2, true) := by kernel_rfl
theorem fi68_1 : fieldI Try.prog 68 1 = some (2, 2, true) := by kernel_rfl
theorem fi68_2 : fieldI Try.prog 68 2 = some (4, 1, false) := by kernel_rfl
theorem fi68_3 : fieldI Try.prog 68 3 = some (5, 1, false) := by kernel_rfl
theorem ty69 : tyI Try.prog 69 = some ⟨true, 6, [(.int .i64 0), (.int .i64 0), (.int .i64 0), (.int .i64 0), (.int .i64 0), (.int .i64 0)], 48⟩ := by kernel_rfl
theorem el69 : elemI Try.prog 69 = none := by kernel_rfl
theorem eq69 : eqTy Try.prog 69 = some (.st [(0, 2, (.st [(0, 1, .it), (1, 1, .it)])), (2, 2, (.st [(0, 1, .it), (1, 1, .it)])), (4, 1, .it), (5, 1, .it)]) := by kernel_rfl
theorem pl69 : placesI Try.prog 69 = some [(0, 2), (2, 2), (4, 1), (5, 1)] := by kernel_rfl
theorem fi69_0 : fieldI Try.prog 69 0 = some (0, 2, true) := by kernel_rfl
theorem fi69_1 : fieldI Try.prog 69 1 = some (2, 2, true) := by kernel_rfl
theorem fi69_2 : fieldI Try.prog 69 2 = some (4, 1, false) := by kernel_rfl
theorem fi69_3 : fieldI Try.prog 69 3 = some (5, 1, false) := by kernel_rfl
theorem el70 : elemI Try.prog 70 = none := by kernel_rfl
theorem ty71 : tyI Try.prog 71 = some ⟨false, 1, [.nilFunc], 8⟩ := by kernel_rfl
theorem el71 : elemI Try.prog 71 = none := by kernel_rfl
theorem ty72 : tyI Try.prog 72 = some ⟨false, 1, [.nilFunc], 8⟩ := by kernel_rfl
theorem el72 : elemI Try.prog 72 = none := by kernel_rfl
theorem ty73 : tyI Try.prog 73 = some ⟨false, 1, [.nilFunc], 8⟩ := by kernel_rfl
theorem el73 : elemI Try.prog 73 = none := by kernel_rfl
theorem ty74 : tyI Try.prog 74 = some ⟨true, 5, [(.int .u8 0), (.int .u8 0), (.int .u8 0), (.int .u8 0), (.slice none 0 0)], 32⟩ := by kernel_rfl
theorem el74 : elemI Try.prog 74 = none := by kernel_rfl
theorem pl74 : placesI Try.prog 74 = some [(0, 2), (2, 2), (4, 1)] := by kernel_rfl
theorem fi74_0 : fieldI Try.prog 74 0 = some (0, 2, true) := by kernel_rfl
theorem fi74_1 : fieldI Try.prog 74 1 = some (2, 2, true) := by kernel_rfl
theorem fi74_2 : fieldI Try.prog 74 2 = some (4, 1, false) := by kernel_rfl
theorem ty75 : tyI Try.prog 75 = some ⟨true, 5, [(.int .u8 0), (.int .u8 0), (.int .u8 0), (.int .u8 0), (.slice none 0 0)], 32⟩ := by kernel_rfl
theorem el75 : elemI Try.prog 75 = none := by kernel_rfl
theorem pl75 : placesI Try.prog 75 = some [(0, 2), (2, 2), (4, 1)] := by kernel_rfl
theorem fi75_0 : fieldI Try.prog 75 0 = some (0, 2, true) := by kernel_rfl
theorem fi75_1 : fieldI Try.prog 75 1 = some (2, 2, true) := by kernel_rfl
theorem fi75_2 : fieldI Try.prog 75 2 = some (4, 1, false) := by kernel_rfl
theorem ty76 : tyI Try.prog 76 = some ⟨true, 2, [(.int .i64 0), (.int .i64 0)], 16⟩ := by kernel_rfl
theorem el76 : elemI Try.prog 76 = none := by kernel_rfl
theorem eq76 : eqTy Try.prog 76 = some (.st [(0, 1, .it), (1, 1, .it)]) := by kernel_rfl
theorem pl76 : placesI Try.prog 76 = some [(0, 1), (1, 1)] := by kernel_rfl
theorem fi76_0 : fieldI Try.prog 76 0 = some (0, 1, false) := by kernel_rfl
theorem fi76_1 : fieldI Try.prog 76 1 = some (1, 1, false) := by kernel_rfl
theorem ty77 : tyI Try.prog 77 = some ⟨true, 2, [(.int .i64 0), (.int .i64 0)], 16⟩ := by kernel_rfl
theorem el77 : elemI Try.prog 77 = none := by kernel_rfl
theorem eq77 : eqTy Try.prog 77 = some (.st [(0, 1, .it), (1, 1, .it)]) := by kernel_rfl
theorem pl77 : placesI Try.prog 77 = some [(0, 1), (1, 1)] := by kernel_rfl
theorem fi77_0 : fieldI Try.prog 77 0 = some (0, 1, false) := by kernel_rfl
theorem fi77_1 : fieldI Try.prog 77 1 = some (1, 1, false) := by kernel_rfl
theorem ty78 : tyI Try.prog 78 = some ⟨false, 1, [(.slice none 0 0)], 24⟩ := by kernel_rfl
theorem el78 : elemI Try.prog 78 = some 148 := by kernel_rfl
theorem el79 : elemI Try.prog 79 = none := by kernel_rfl
theorem ty80 : tyI Try.prog 80 = some ⟨false, 1, [.nilFunc], 8⟩ := by kernel_rfl
theorem el80 : elemI Try.prog 80 = none := by kernel_rfl
theorem ty81 : tyI Try.prog 81 = some ⟨false, 1, [(.slice none 0 0)], 24⟩ := by kernel_rfl
theorem el81 : elemI Try.prog 81 = some 60 := by kernel_rfl
theorem el82 : elemI Try.prog 82 = none := by kernel_rfl
theorem ty83 : tyI Try.prog 83 = some ⟨false, 1, [.nilFunc], 8⟩ := by kernel_rfl
theorem el83 : elemI Try.prog 83 = none := by kernel_rfl
theorem ty84 : tyI Try.prog 84 = some ⟨false, 1, [.nilFunc], 8⟩ := by kernel_rfl
theorem el84 : elemI Try.prog 84 = none := by kernel_rfl
theorem ty85 : tyI Try.prog 85 = some ⟨false, 1, [.nilFunc], 8⟩ := by kernel_rfl
theorem el85 : elemI Try.prog 85 = none := by kernel_rfl
theorem ty86 : tyI Try.prog 86 = some ⟨false, 1, [.nilFunc], 8⟩ := by kernel_rfl
theorem el86 : elemI Try.prog 86 = none := by kernel_rfl
theorem ty87 : tyI Try.prog 87 = some ⟨false, 1, [(.int .i64 0)], 8⟩ := by kernel_rfl
theorem el87 : elemI Try.prog 87 = none := by kernel_rfl
theorem it87 : intI Try.prog 87 = some .i64 := by kernel_rfl
theorem ty88 : tyI Try.prog 88 = some ⟨true, 8, [(.int .i64 0), (.int .i64 0), (.int .i64 0), (.int .i64 0), (.int .i64 0), (.int .i64 0), (.int .i64 0), (.int .i64 0)], 64⟩ := by kernel_rfl
theorem el88 : elemI Try.prog 88 = none := by kernel_rfl
theorem eq88 : eqTy Try.prog 88 = some (.st [(0, 1, .it), (1, 1, .it), (2, 2, (.st [(0, 1, .it), (1, 1, .it)])), (4, 2, (.st [(0, 1, .it), (1, 1, .it)])), (6, 1, .it), (7, 1, .it)]) := by kernel_rfl
theorem pl88 : placesI Try.prog 88 = some [(0, 1), (1, 1), (2, 2), (4, 2), (6, 1), (7, 1)] := by kernel_rfl
theorem fi88_0 : fieldI Try.prog 88 0 = some (0, 1, false) := by kernel_rfl
theorem fi88_1 : fieldI Try.prog 88 1 = some (1, 1, false) := by kernel_rfl
theorem fi88_2 : fieldI Try.prog 88 2 = some (2, 2, true) := by kernel_rfl
theorem fi88_3 : fieldI Try.prog 88 3 = some (4, 2, true) := by kernel_rfl
theorem fi88_4 : fieldI Try.prog 88 4 = some (6, 1, false) := by kernel_rfl
theorem fi88_5 : fieldI Try.prog 88 5 = some (7, 1, false) := by kernel_rfl
theorem ty89 : tyI Try.prog 89 = some ⟨true, 8, [(.int .i64 0), (.int .i64 0), (.int .i64 0), (.int .i64 0), (.int .i64 0), (.int .i64 0), (.int .i64 0), (.int .i64 0)], 64⟩ := by kernel_rfl
theorem el89 : elemI Try.prog 89 = none := by kernel_rfl
theorem eq89 : eqTy Try.prog 89 = some (.st [(0, 1, .it), (1, 1, .it), (2, 2, (.st [(0, 1, .it), (1, 1, .it)])), (4, 2, (.st [(0, 1, .it), (1, 1, .it)])), (6, 1, .it), (7, 1, .it)]) := by kernel_rfl
theorem pl89 : placesI Try.prog 89 = some [(0, 1), (1, 1), (2, 2), (4, 2), (6, 1), (7, 1)] := by kernel_rfl
theorem fi89_0 : fieldI Try.prog 89 0 = some (0, 1, false) := by kernel_rfl
theorem fi89_1 : fieldI Try.prog 89 1 = some (1, 1, false) := by kernel_rfl
theorem fi89_2 : fieldI Try.prog 89 2 = some (2, 2, true) := by kernel_rfl
theorem fi89_3 : fieldI Try.prog 89 3 = some (4, 2, true) := by kernel_rfl
theorem fi89_4 : fieldI Try.prog 89 4 = some (6, 1, false) := by kernel_rfl
theorem fi89_5 : fieldI Try.prog 89 5 = some (7, 1, false) := by kernel_rfl
theorem ty90 : tyI Try.prog 90 = some ⟨true, 2, [(.int .i64 0), (.int .i64 0)], 16⟩ := by kernel_rfl
theorem el90 : elemI Try.prog 90 = none := by kernel_rfl
theorem eq90 : eqTy Try.prog 90 = some (.st [(0, 1, .it), (1, 1, .it)]) := by kernel_rfl
theorem pl90 : placesI Try.prog 90 = some [(0, 1), (1, 1)] := by kernel_rfl
theorem fi90_0 : fieldI Try.prog 90 0 = some (0, 1, false) := by kernel_rfl
theorem fi90_1 : fieldI Try.prog 90 1 = some (1, 1, false) := by kernel_rfl
theorem ty91 : tyI Try.prog 91 = some ⟨true, 2, [(.int .i64 0), (.int .i64 0)], 16⟩ := by kernel_rfl
theorem el91 : elemI Try.prog 91 = none := by kernel_rfl
theorem eq91 : eqTy Try.prog 91 = some (.st [(0, 1, .it), (1, 1, .it)]) := by kernel_rfl
theorem pl91 : placesI Try.prog 91 = some [(0, 1), (1, 1)] := by kernel_rfl
theorem fi91_0 : fieldI Try.prog 91 0 = some (0, 1, false) := by kernel_rfl
theorem fi91_1 : fieldI Try.prog 91 1 = some (1, 1, false) := by kernel_rfl
theorem el92 : elemI Try.prog 92 = none := by kernel_rfl
theorem ty93 : tyI Try.prog 93 = some ⟨false, 1, [.nilFunc], 8⟩ := by kernel_rfl
theorem el93 : elemI Try.prog 93 = none := by kernel_rfl
theorem ty94 : tyI Try.prog 94 = some ⟨false, 1, [.nilFunc], 8⟩ := by kernel_rfl
theorem el94 : elemI Try.prog 94 = none := by kernel_rfl
theorem ty95 : tyI Try.prog 95 = some ⟨false, 1, [.nilFunc], 8⟩ := by kernel_rfl
theorem el95 : elemI Try.prog 95 = none := by kernel_rfl
theorem ty96 : tyI Try.prog 96 = some ⟨false, 1, [.nilFunc], 8⟩ := by kernel_rfl
theorem el96 : elemI Try.prog 96 = none := by kernel_rfl
theorem ty97 : tyI Try.prog 97 = some ⟨false, 1, [.nilFunc], 8⟩ := by kernel_rfl
theorem el97 : elemI Try.prog 97 = none := by kernel_rfl
theorem ty98 : tyI Try.prog 98 = some ⟨true, 3, [(.int .u8 0), (.int .u8 0), (.int .u8 0)], 3⟩ := by kernel_rfl
theorem el98 : elemI Try.prog 98 = none := by kernel_rfl
theorem ar98 : arrI Try.prog 98 = some (3, 5) := by kernel_rfl
theorem pl98 : placesI Try.prog 98 = some [(0, 1), (1, 1), (2, 1)] := by kernel_rfl
theorem ty99 : tyI Try.prog 99 = some ⟨false, 1, [(.slice none 0 0)], 24⟩ := by kernel_rfl
theorem el99 : elemI Try.prog 99 = some 24 := by kernel_rfl
theorem ty100 : tyI Try.prog 100 = some ⟨true, 3, [(.int .i64 0), (.int .i64 0), (.int .i64 0)], 24⟩ := by kernel_rfl
theorem el100 : elemI Try.prog 100 = none := by kernel_rfl
theorem eq100 : eqTy Try.prog 100 = some (.st [(0, 1, .it), (1, 1, .it), (2, 1, .it)]) := by kernel_rfl
theorem pl100 : placesI Try.prog 100 = some [(0, 1), (1, 1), (2, 1)] := by kernel_rfl
theorem fi100_0 : fieldI Try.prog 100 0 = some (0, 1, false) := by kernel_rfl
theorem fi100_1 : fieldI Try.prog 100 1 = some (1, 1, false) := by kernel_rfl
theorem fi100_2 : fieldI Try.prog 100 2 = some (2, 1, false) := by kernel_rfl
theorem ty101 : tyI Try.prog 101 = some ⟨true, 3, [(.int .i64 0), (.int .i64 0), (.int .i64 0)], 24⟩ := by kernel_rfl
theorem el101 : elemI Try.prog 101 = none := by kernel_rfl
theorem eq101 : eqTy Try.prog 101 = some (.st [(0, 1, .it), (1, 1, .it), (2, 1, .it)]) := by kernel_rfl
theorem pl101 : placesI Try.prog 101 = some [(0, 1), (1, 1), (2, 1)] := by kernel_rfl
theorem fi101_0 : fieldI Try.prog 101 0 = some (0, 1, false) := by kernel_rfl
theorem fi101_1 : fieldI Try.prog 101 1 = some (1, 1, false) := by kernel_rfl
theorem fi101_2 : fieldI Try.prog 101 2 = some (2, 1, false) := by kernel_rfl
theorem ty102 : tyI Try.prog 102 = some ⟨true, 4, [(.int .i64 0), (.int .i64 0), (.int .i64 0), (.int .i64 0)], 32⟩ := by kernel_rfl
theorem el102 : elemI Try.prog 102 = none := by kernel_rfl
theorem eq102 : eqTy Try.prog 102 = some (.st [(0, 2, (.st [(0, 1, .it), (1, 1, .it)])), (2, 2, (.st [(0, 1, .it), (1, 1, .it)]))]) := by kernel_rfl
theorem pl102 : placesI Try.prog 102 = some [(0, 2), (2, 2)] := by kernel_rfl
theorem fi102_0 : fieldI Try.prog 102 0 = some (0, 2, true) := by kernel_rfl
theorem fi102_1 : fieldI Try.prog 102 1 = some (2, 2, true) := by kernel_rfl
theorem ty103 : tyI Try.prog 103 = some ⟨true, 4, [(.int .i64 0), (.int .i64 0), (.int .i64 0), (.int .i64 0)], 32⟩ := by kernel_rfl
theorem el103 : elemI Try.prog 103 = none := by kernel_rfl
theorem eq103 : eqTy Try.prog 103 = some (.st [(0, 2, (.st [(0, 1, .it), (1, 1, .it)])), (2, 2, (.st [(0, 1, .it), (1, 1, .it)]))]) := by kernel_rfl
theorem pl103 : placesI Try.prog 103 = some [(0, 2), (2, 2)] := by kernel_rfl
theorem fi103_0 : fieldI Try.prog 103 0 = some (0, 2, true) := by kernel_rfl
theorem fi103_1 : fieldI Try.prog 103 1 = some (2, 2, true) := by kernel_rfl
theorem ty104 : tyI Try.prog 104 = some ⟨false, 1, [.nilFunc], 8⟩ := by kernel_rfl
theorem el104 : elemI Try.prog 104 = none := by kernel_rfl
theorem ty105 : tyI Try.prog 105 = some ⟨false, 1, [(.slice none 0 0)], 24⟩ := by kernel_rfl
theorem el105 : elemI Try.prog 105 = some 103 := by kernel_rfl
theorem el106 : elemI Try.prog 106 = none := by kernel_rfl
theorem ty107 : tyI Try.prog 107 = some ⟨false, 1, [.nilFunc], 8⟩ := by kernel_rfl
theorem el107 : elemI Try.prog 107 = none := by kernel_rfl
theorem ty108 : tyI Try.prog 108 = some ⟨false, 1, [.nilFunc], 8⟩ := by kernel_rfl
theorem el108 : elemI Try.prog 108 = none := by kernel_rfl
theorem ty109 : tyI Try.prog 109 = some ⟨true, 2, [(.int .i64 0), (.int .i64 0)], 16⟩ := by kernel_rfl
theorem el109 : elemI Try.prog 109 = none := by kernel_rfl
theorem eq109 : eqTy Try.prog 109 = some (.st [(0, 1, .it), (1, 1, .it)]) := by kernel_rfl
theorem pl109 : placesI Try.prog 109 = some [(0, 1), (1, 1)] := by kernel_rfl
theorem fi109_0 : fieldI Try.prog 109 0 = some (0, 1, false) := by kernel_rfl
theorem fi109_1 : fieldI Try.prog 109 1 = some (1, 1, false) := by kernel_rfl
theorem ty110 : tyI Try.prog 110 = some ⟨true, 2, [(.int .i64 0), (.int .i64 0)], 16⟩ := by kernel_rfl
theorem el110 : elemI Try.prog 110 = none := by kernel_rfl
theorem eq110 : eqTy Try.prog 110 = some (.st [(0, 1, .it), (1, 1, .it)]) := by kernel_rfl
theorem pl110 : placesI Try.prog 110 = some [(0, 1), (1, 1)] := by kernel_rfl
theorem fi110_0 : fieldI Try.prog 110 0 = some (0, 1, false) := by kernel_rfl
theorem fi110_1 : fieldI Try.prog 110 1 = some (1, 1, false) := by kernel_rfl
theorem ty111 : tyI Try.prog 111 = some ⟨false, 1, [.nilFunc], 8⟩ := by kernel_rfl
theorem el111 : elemI Try.prog 111 = none := by kernel_rfl
theorem ty112 : tyI Try.prog 112 = some ⟨false, 1, [.nilFunc], 8⟩ := by kernel_rfl
theorem el112 : elemI Try.prog 112 = none := by kernel_rfl
theorem ty113 : tyI Try.prog 113 = some ⟨false, 1, [(.int .i64 0)], 8⟩ := by kernel_rfl
theorem el113 : elemI Try.prog 113 = none := by kernel_rfl
theorem it113 : intI Try.prog 113 = some .i64 := by kernel_rfl
theorem ty114 : tyI Try.prog 114 = some ⟨true, 2, [(.int .i64 0), (.int .i64 0)], 16⟩ := by kernel_rfl
theorem el114 : elemI Try.prog 114 = none := by kernel_rfl
theorem eq114 : eqTy Try.prog 114 = some (.st [(0, 1, .it), (1, 1, .it)]) := by kernel_rfl
theorem pl114 : placesI Try.prog 114 = some [(0, 1), (1, 1)] := by kernel_rfl
theorem fi114_0 : fieldI Try.prog 114 0 = some (0, 1, false) := by kernel_rfl
theorem fi114_1 : fieldI Try.prog 114 1 = some (1, 1, false) := by kernel_rfl
theorem ty115 : tyI Try.prog 115 = some ⟨true, 2, [(.int .i64 0), (.int .i64 0)], 16⟩ := by kernel_rfl
theorem el115 : elemI Try.prog 115 = none := by kernel_rfl
theorem eq115 : eqTy Try.prog 115 = some (.st [(0, 1, .it), (1, 1, .it)]) := by kernel_rfl
theorem pl115 : placesI Try.prog 115 = some [(0, 1), (1, 1)] := by kernel_rfl
theorem fi115_0 : fieldI Try.prog 115 0 = some (0, 1, false) := by kernel_rfl
theorem fi115_1 : fieldI Try.prog 115 1 = some (1, 1, false) := by kernel_rfl
theorem ty116 : tyI Try.prog 116 = some ⟨true, 10, [(.int .i64 0), (.int .i64 0), (.int .i64 0), (.int .i64 0), (.int .i64 0), (.int .i64 0), (.int .i64 0), (.int .i64 0), (.int .i64 0), (.int .i64 0)], 80⟩ := by kernel_rfl
theorem el116 : elemI Try.prog 116 = none := by kernel_rfl
theorem eq116 : eqTy Try.prog 116 = some (.st [(0, 4, (.st [(0, 1, .it), (1, 1, .it), (2, 1, .it), (3, 1, .it)])), (4, 1, .it), (5, 1, .it), (6, 2, (.st [(0, 1, .it), (1, 1, .it)])), (8, 2, (.st [(0, 1, .it), (1, 1, .it)]))]) := by kernel_rfl
theorem pl116 : placesI Try.prog 116 = some [(0, 4), (4, 1), (5, 1), (6, 2), (8, 2)] := by kernel_rfl
theorem fi116_0 : fieldI Try.prog 116 0 = some (0, 4, true) := by kernel_rfl
theorem fi116_1 : fieldI Try.prog 116 1 = some (4, 1, false) := by kernel_rfl
theorem fi116_2 : fieldI Try.prog 116 2 = some (5, 1, false) := by kernel_rfl
theorem fi116_3 : fieldI Try.prog 116 3 = some (6, 2, true) := by kernel_rfl
theorem fi116_4 : fieldI Try.prog 116 4 = some (8, 2, true) := by kernel_rfl
theorem ty117 : tyI Try.prog 117 = some ⟨true, 10, [(.int .i64 0), (.int .i64 0), (.int .i64 0), (.int .i64 0), (.int .i64 0), (.int .i64 0), (.int .i64 0), (.int .i64 0), (.int .i64 0), (.int .i64 0)], 80⟩ := by kernel_rfl
theorem el117 : elemI Try.prog 117 = none := by kernel_rfl
theorem eq117 : eqTy Try.prog 117 = some (.st [(0, 4, (.st [(0, 1, .it), (1, 1, .it), (2, 1, .it), (3, 1, .it)])), (4, 1, .it), (5, 1, .it), (6, 2, (.st [(0, 1, .it), (1, 1, .it)])), (8, 2, (.st [(0, 1, .it), (1, 1, .it)]))]) := by kernel_rfl
theorem pl117 : placesI Try.prog 117 = some [(0, 4), (4, 1), (5, 1), (6, 2), (8, 2)] := by kernel_rfl
theorem fi117_0 : fieldI Try.prog 117 0 = some (0, 4, true) := by kernel_rfl
theorem fi117_1 : fieldI Try.prog 117 1 = some (4, 1, false) := by kernel_rfl
theorem fi117_2 : fieldI Try.prog 117 2 = some (5, 1, false) := by kernel_rfl
theorem fi117_3 : fieldI Try.prog 117 3 = some (6, 2, true) := by kernel_rfl
theorem fi117_4 : fieldI Try.prog 117 4 = some (8, 2, true) := by kernel_rfl
theorem ty118 : tyI Try.prog 118 = some ⟨false, 1, [.nilFunc], 8⟩ := by kernel_rfl
theorem el118 : elemI Try.prog 118 = none := by kernel_rfl
theorem ty119 : tyI Try.prog 119 = some ⟨false, 1, [.nilFunc], 8⟩ := by kernel_rfl
theorem el119 : elemI Try.prog 119 = none := by kernel_rfl
theorem ty120 : tyI Try.prog 120 = some ⟨true, 11, [(.int .i64 0), (.int .i64 0), (.int .i64 0), (.int .i64 0), (.int .i64 0), (.int .i64 0), (.int .i64 0), (.int .i64 0), (.int .i64 0), (.int .i64 0), (.slice none 0 0)], 104⟩ := by kernel_rfl
theorem el120 : elemI Try.prog 120 = none := by kernel_rfl
theorem pl120 : placesI Try.prog 120 = some [(0, 11)] := by kernel_rfl
theorem fi120_0 : fieldI Try.prog 120 0 = some (0, 11, true) := by kernel_rfl
theorem ty121 : tyI Try.prog 121 = some ⟨true, 11, [(.int .i64 0), (.int .i64 0), (.int .i64 0), (.int .i64 0), (.int .i64 0), (.int .i64 0), (.int .i64 0), (.int .i64 0), (.int .i64 0), (.int .i64 0), (.slice none 0 0)], 104⟩ := by kernel_rfl
theorem el121 : elemI Try.prog 121 = none := by kernel_rfl
theorem pl121 : placesI Try.prog 121 = some [(0, 11)] := by kernel_rfl
theorem fi121_0 : fieldI Try.prog 121 0 = some (0, 11, true) := by kernel_rfl
theorem el122 : elemI Try.prog 122 = none := by kernel_rfl
theorem ty123 : tyI Try.prog 123 = some ⟨false, 1, [.nilFunc], 8⟩ := by kernel_rfl
theorem el123 : elemI Try.prog 123 = none := by kernel_rfl
theorem ty124 : tyI Try.prog 124 = some ⟨false, 1, [.nilFunc], 8⟩ := by kernel_rfl
theorem el124 : elemI Try.prog 124 = none := by kernel_rfl
theorem ty125 : tyI Try.prog 125 = some ⟨false, 1, [.nilFunc], 8⟩ := by kernel_rfl
theorem el125 : elemI Try.prog 125 = none := by kernel_rfl
theorem ty126 : tyI Try.prog 126 = some ⟨false, 1, [.nilFunc], 8⟩ := by kernel_rfl
theorem el126 : elemI Try.prog 126 = none := by kernel_rfl
theorem ty127 : tyI Try.prog 127 = some ⟨true, 6, [(.int .u8 0), (.int .u8 0), (.int .u8 0), (.int .u8 0), (.int .u8 0), (.int .u8 0)], 6⟩ := by kernel_rfl
theorem el127 : elemI Try.prog 127 = none := by kernel_rfl
theorem ar127 : arrI Try.prog 127 = some (6, 5) := by kernel_rfl
theorem pl127 : placesI Try.prog 127 = some [(0, 1), (1, 1), (2, 1), (3, 1), (4, 1), (5, 1)] := by kernel_rfl
theorem ty128 : tyI Try.prog 128 = some ⟨true, 4, [(.int .i64 0), (.int .i64 0), (.int .i64 0), (.int .i64 0)], 32⟩ := by kernel_rfl
theorem el128 : elemI Try.prog 128 = none := by kernel_rfl
theorem eq128 : eqTy Try.prog 128 = some (.st [(0, 1, .it), (1, 1, .it), (2, 2, (.st [(0, 1, .it), (1, 1, .it)]))]) := by kernel_rfl
theorem pl128 : placesI Try.prog 128 = some [(0, 1), (1, 1), (2, 2)] := by kernel_rfl
theorem fi128_0 : fieldI Try.prog 128 0 = some (0, 1, false) := by kernel_rfl
theorem fi128_1 : fieldI Try.prog 128 1 = some (1, 1, false) := by kernel_rfl
theorem fi128_2 : fieldI Try.prog 128 2 = some (2, 2, true) := by kernel_rfl
theorem ty129 : tyI Try.prog 129 = some ⟨true, 4, [(.int .i64 0), (.int .i64 0), (.int .i64 0), (.int .i64 0)], 32⟩ := by kernel_rfl
theorem el129 : elemI Try.prog 129 = none := by kernel_rfl
theorem eq129 : eqTy Try.prog 129 = some (.st [(0, 1, .it), (1, 1, .it), (2, 2, (.st [(0, 1, .it), (1, 1, .it)]))]) := by kernel_rfl
theorem pl129 : placesI Try.prog 129 = some [(0, 1), (1, 1), (2, 2)] := by kernel_rfl
theorem fi129_0 : fieldI Try.prog 129 0 = some (0, 1, false) := by kernel_rfl
theorem fi129_1 : fieldI Try.prog 129 1 = some (1, 1, false) := by kernel_rfl
theorem fi129_2 : fieldI Try.prog 129 2 = some (2, 2, true) := by kernel_rfl
theorem ty130 : tyI Try.prog 130 = some ⟨true, 2, [(.slice none 0 0), (.slice none 0 0)], 48⟩ := by kernel_rfl
theorem el130 : elemI Try.prog 130 = none := by kernel_rfl
theorem ar130 : arrI Try.prog 130 = some (2, 32) := by kernel_rfl
theorem pl130 : placesI Try.prog 130 = some [(0, 1), (1, 1)] := by kernel_rfl
theorem ty131 : tyI Try.prog 131 = some ⟨true, 5, [(.slice none 0 0), (.slice none 0 0), (.slice none 0 0), (.slice none 0 0), (.int .i64 0)], 104⟩ := by kernel_rfl
theorem el131 : elemI Try.prog 131 = none := by kernel_rfl
theorem pl131 : placesI Try.prog 131 = some [(0, 2), (2, 2), (4, 1)] := by kernel_rfl
theorem fi131_0 : fieldI Try.prog 131 0 = some (0, 2, true) := by kernel_rfl
theorem fi131_1 : fieldI Try.prog 131 1 = some (2, 2, true) := by kernel_rfl
theorem fi131_2 : fieldI Try.prog 131 2 = some (4, 1, false) := by kernel_rfl
theorem ty132 : tyI Try.prog 132 = some ⟨true, 5, [(.slice none 0 0), (.slice none 0 0), (.slice none 0 0), (.slice none 0 0), (.int .i64 0)], 104⟩ := by kernel_rfl
theorem el132 : elemI Try.prog 132 = none := by kernel_rfl
theorem pl132 : placesI Try.prog 132 = some [(0, 2), (2, 2), (4, 1)] := by kernel_rfl
theorem fi132_0 : fieldI Try.prog 132 0 = some (0, 2, true) := by kernel_rfl
theorem fi132_1 : fieldI Try.prog 132 1 = some (2, 2, true) := by kernel_rfl
theorem fi132_2 : fieldI Try.prog 132 2 = some (4, 1, false) := by kernel_rfl
theorem el133 : elemI Try.prog 133 = none := by kernel_rfl
theorem ty134 : tyI Try.prog 134 = some ⟨false, 1, [.nilFunc], 8⟩ := by kernel_rfl
theorem el134 : elemI Try.prog 134 = none := by kernel_rfl
theorem el135 : elemI Try.prog 135 = none := by kernel_rfl
theorem ty136 : tyI Try.prog 136 = some ⟨false, 1, [.nilFunc], 8⟩ := by kernel_rfl
theorem el136 : elemI Try.prog 136 = none := by kernel_rfl
theorem ty137 : tyI Try.prog 137 = some ⟨false, 1, [.nilFunc], 8⟩ := by kernel_rfl
theorem el137 : elemI Try.prog 137 = none := by kernel_rfl
theorem ty138 : tyI Try.prog 138 = some ⟨false, 1, [.nilFunc], 8⟩ := by kernel_rfl
theorem el138 : elemI Try.prog 138 = none := by kernel_rfl
theorem ty139 : tyI Try.prog 139 = some ⟨false, 1, [.nilFunc], 8⟩ := by kernel_rfl
theorem el139 : elemI Try.prog 139 = none := by kernel_rfl
theorem ty140 : tyI Try.prog 140 = some ⟨false, 1, [.nilFunc], 8⟩ := by kernel_rfl
theorem el140 : elemI Try.prog 140 = none := by kernel_rfl
theorem ty141 : tyI Try.prog 141 = some ⟨false, 1, [.nilFunc], 8⟩ := by kernel_rfl
theorem el141 : elemI Try.prog 141 = none := by kernel_rfl
theorem ty142 : tyI Try.prog 142 = some ⟨true, 4, [(.int .i64 0), (.int .i64 0), (.int .i64 0), (.int .i64 0)], 32⟩ := by kernel_rfl
theorem el142 : elemI Try.prog 142 = none := by kernel_rfl
theorem eq142 : eqTy Try.prog 142 = some (.st [(0, 2, (.st [(0, 1, .it), (1, 1, .it)])), (2, 2, (.st [(0, 1, .it), (1, 1, .it)]))]) := by kernel_rfl
theorem pl142 : placesI Try.prog 142 = some [(0, 2), (2, 2)] := by kernel_rfl
theorem fi142_0 : fieldI Try.prog 142 0 = some (0, 2, true) := by kernel_rfl
theorem fi142_1 : fieldI Try.prog 142 1 = some (2, 2, true) := by kernel_rfl
theorem ty143 : tyI Try.prog 143 = some ⟨true, 4, [(.int .i64 0), (.int .i64 0), (.int .i64 0), (.int .i64 0)], 32⟩ := by kernel_rfl
theorem el143 : elemI Try.prog 143 = none := by kernel_rfl
theorem eq143 : eqTy Try.prog 143 = some (.st [(0, 2, (.st [(0, 1, .it), (1, 1, .it)])), (2, 2, (.st [(0, 1, .it), (1, 1, .it)]))]) := by kernel_rfl
theorem pl143 : placesI Try.prog 143 = some [(0, 2), (2, 2)] := by kernel_rfl
theorem fi143_0 : fieldI Try.prog 143 0 = some (0, 2, true) := by kernel_rfl
theorem fi143_1 : fieldI Try.prog 143 1 = some (2, 2, true) := by kernel_rfl
theorem ty144 : tyI Try.prog 144 = some ⟨true, 2, [(.int .i64 0), (.int .i64 0)], 16⟩ := by kernel_rfl
theorem el144 : elemI Try.prog 144 = none := by kernel_rfl
theorem eq144 : eqTy Try.prog 144 = some (.st [(0, 1, .it), (1, 1, .it)]) := by kernel_rfl
theorem pl144 : placesI Try.prog 144 = some [(0, 1), (1, 1)] := by kernel_rfl
theorem fi144_0 : fieldI Try.prog 144 0 = some (0, 1, false) := by kernel_rfl
theorem fi144_1 : fieldI Try.prog 144 1 = some (1, 1, false) := by kernel_rfl
theorem ty145 : tyI Try.prog 145 = some ⟨true, 2, [(.int .i64 0), (.int .i64 0)], 16⟩ := by kernel_rfl
theorem el145 : elemI Try.prog 145 = none := by kernel_rfl
theorem eq145 : eqTy Try.prog 145 = some (.st [(0, 1, .it), (1, 1, .it)]) := by kernel_rfl
theorem pl145 : placesI Try.prog 145 = some [(0, 1), (1, 1)] := by kernel_rfl
theorem fi145_0 : fieldI Try.prog 145 0 = some (0, 1, false) := by kernel_rfl
theorem fi145_1 : fieldI Try.prog 145 1 = some (1, 1, false) := by kernel_rfl
theorem ty146 : tyI Try.prog 146 = some ⟨false, 1, [(.slice none 0 0)], 24⟩ := by kernel_rfl
theorem el146 : elemI Try.prog 146 = some 145 := by kernel_rfl
theorem ty147 : tyI Try.prog 147 = some ⟨true, 3, [(.int .i64 0), (.int .i64 0), (.int .i64 0)], 24⟩ := by kernel_rfl
theorem el147 : elemI Try.prog 147 = none := by kernel_rfl
theorem eq147 : eqTy Try.prog 147 = some (.st [(0, 2, (.st [(0, 1, .it), (1, 1, .it)])), (2, 1, .it)]) := by kernel_rfl
theorem pl147 : placesI Try.prog 147 = some [(0, 2), (2, 1)] := by kernel_rfl
theorem fi147_0 : fieldI Try.prog 147 0 = some (0, 2, true) := by kernel_rfl
theorem fi147_1 : fieldI Try.prog 147 1 = some (2, 1, false) := by kernel_rfl
theorem ty148 : tyI Try.prog 148 = some ⟨true, 3, [(.int .i64 0), (.int .i64 0), (.int .i64 0)], 24⟩ := by kernel_rfl
theorem el148 : elemI Try.prog 148 = none := by kernel_rfl
theorem eq148 : eqTy Try.prog 148 = some (.st [(0, 2, (.st [(0, 1, .it), (1, 1, .it)])), (2, 1, .it)]) := by kernel_rfl
theorem pl148 : placesI Try.prog 148 = some [(0, 2), (2, 1)] := by kernel_rfl
theorem fi148_0 : fieldI Try.prog 148 0 = some (0, 2, true) := by kernel_rfl
theorem fi148_1 : fieldI Try.prog 148 1 = some (2, 1, false) := by kernel_rfl
theorem ty149 : tyI Try.prog 149 = some ⟨false, 1, [.nilFunc], 8⟩ := by kernel_rfl
theorem el149 : elemI Try.prog 149 = none := by kernel_rfl
theorem ty150 : tyI Try.prog 150 = some ⟨false, 1, [.nilFunc], 8⟩ := by kernel_rfl
theorem el150 : elemI Try.prog 150 = none := by kernel_rfl
theorem ty151 : tyI Try.prog 151 = some ⟨true, 2, [(.int .i64 0), (.int .i64 0)], 16⟩ := by kernel_rfl
theorem el151 : elemI Try.prog 151 = none := by kernel_rfl
theorem eq151 : eqTy Try.prog 151 = some (.st [(0, 2, (.st [(0, 1, .it), (1, 1, .it)]))]) := by kernel_rfl
theorem pl151 : placesI Try.prog 151 = some [(0, 2)] := by kernel_rfl
theorem fi151_0 : fieldI Try.prog 151 0 = some (0, 2, true) := by kernel_rfl
theorem ty152 : tyI Try.prog 152 = some ⟨true, 2, [(.int .i64 0), (.int .i64 0)], 16⟩ := by kernel_rfl
theorem el152 : elemI Try.prog 152 = none := by kernel_rfl
theorem eq152 : eqTy Try.prog 152 = some (.st [(0, 2, (.st [(0, 1, .it), (1, 1, .it)]))]) := by kernel_rfl
theorem pl152 : placesI Try.prog 152 = some [(0, 2)] := by kernel_rfl
theorem fi152_0 : fieldI Try.prog 152 0 = some (0, 2, true) := by kernel_rfl
theorem ty153 : tyI Try.prog 153 = some ⟨false, 1, [.nilFunc], 8⟩ := by kernel_rfl
theorem el153 : elemI Try.prog 153 = none := by kernel_rfl
theorem ty154 : tyI Try.prog 154 = some ⟨false, 1, [.nilFunc], 8⟩ := by kernel_rfl
theorem el154 : elemI Try.prog 154 = none := by kernel_rfl
theorem ty155 : tyI Try.prog 155 = some ⟨false, 1, [.nilFunc], 8⟩ := by kernel_rfl
theorem el155 : elemI Try.prog 155 = none := by kernel_rfl
theorem ty156 : tyI Try.prog 156 = some ⟨false, 1, [.nilFunc], 8⟩ := by kernel_rfl
theorem el156 : elemI Try.prog 156 = none := by kernel_rfl
theorem ty157 : tyI Try.prog 157 = some ⟨false, 1, [.nilFunc], 8⟩ := by kernel_rfl
theorem el157 : elemI Try.prog 157 = none := by kernel_rfl
theorem ty158 : tyI Try.prog 158 = some ⟨false, 1, [.nilFunc], 8⟩ := by kernel_rfl
theorem el158 : elemI Try.prog 158 = none := by kernel_rfl
theorem ty159 : tyI Try.prog 159 = some ⟨false, 1, [.nilFunc], 8⟩ := by kernel_rfl
theorem el159 : elemI Try.prog 159 = none := by kernel_rfl
theorem ty160 : tyI Try.prog 160 = some ⟨false, 1, [.nilFunc], 8⟩ := by kernel_rfl
theorem el160 : elemI Try.prog 160 = none := by kernel_rfl
theorem ty161 : tyI Try.prog 161 = some ⟨true, 3, [(.int .i64 0), (.int .i64 0), (.int .i64 0)], 24⟩ := by kernel_rfl
theorem el161 : elemI Try.prog 161 = none := by kernel_rfl
theorem eq161 : eqTy Try.prog 161 = some (.st [(0, 3, (.st [(0, 1, .it), (1, 1, .it), (2, 1, .it)]))]) := by kernel_rfl
theorem pl161 : placesI Try.prog 161 = some [(0, 3)] := by kernel_rfl
theorem fi161_0 : fieldI Try.prog 161 0 = some (0, 3, true) := by kernel_rfl
theorem ty162 : tyI Try.prog 162 = some ⟨true, 3, [(.int .i64 0), (.int .i64 0), (.int .i64 0)], 24⟩ := by kernel_rfl
theorem el162 : elemI Try.prog 162 = none := by kernel_rfl
theorem eq162 : eqTy Try.prog 162 = some (.st [(0, 3, (.st [(0, 1, .it), (1, 1, .it), (2, 1, .it)]))]) := by kernel_rfl
theorem pl162 : placesI Try.prog 162 = some [(0, 3)] := by kernel_rfl
theorem fi162_0 : fieldI Try.prog 162 0 = some (0, 3, true) := by kernel_rfl
theorem ty163 : tyI Try.prog 163 = some ⟨false, 1, [.nilFunc], 8⟩ := by kernel_rfl
theorem el163 : elemI Try.prog 163 = none := by kernel_rfl
theorem ty164 : tyI Try.prog 164 = some ⟨true, 2, [(.int .i64 0), (.slice none 0 0)], 32⟩ := by kernel_rfl
theorem el164 : elemI Try.prog 164 = none := by kernel_rfl
theorem pl164 : placesI Try.prog 164 = some [(0, 1), (1, 1)] := by kernel_rfl
theorem fi164_0 : fieldI Try.prog 164 0 = some (0, 1, false) := by kernel_rfl
theorem fi164_1 : fieldI Try.prog 164 1 = some (1, 1, false) := by kernel_rfl
theorem ty165 : tyI Try.prog 165 = some ⟨true, 2, [(.int .i64 0), (.slice none 0 0)], 32⟩ := by kernel_rfl
theorem el165 : elemI Try.prog 165 = none := by kernel_rfl
theorem pl165 : placesI Try.prog 165 = some [(0, 1), (1, 1)] := by kernel_rfl
theorem fi165_0 : fieldI Try.prog 165 0 = some (0, 1, false) := by kernel_rfl
theorem fi165_1 : fieldI Try.prog 165 1 = some (1, 1, false) := by kernel_rfl
theorem el166 : elemI Try.prog 166 = none := by kernel_rfl
theorem ty167 : tyI Try.prog 167 = some ⟨false, 1, [.nilFunc], 8⟩ := by kernel_rfl
theorem el167 : elemI Try.prog 167 = none := by kernel_rfl
theorem ty168 : tyI Try.prog 168 = some ⟨false, 1, [(.int .i64 0)], 8⟩ := by kernel_rfl
theorem el168 : elemI Try.prog 168 = none := by kernel_rfl
theorem it168 : intI Try.prog 168 = some .i64 := by kernel_rfl
theorem ty169 : tyI Try.prog 169 = some ⟨true, 3, [(.int .i64 0), (.int .i64 0), (.int .i64 0)], 24⟩ := by kernel_rfl
theorem el169 : elemI Try.prog 169 = none := by kernel_rfl
theorem eq169 : eqTy Try.prog 169 = some (.st [(0, 1, .it), (1, 1, .it), (2, 1, .it)]) := by kernel_rfl
theorem pl169 : placesI Try.prog 169 = some [(0, 1), (1, 1), (2, 1)] := by kernel_rfl
theorem fi169_0 : fieldI Try.prog 169 0 = some (0, 1, false) := by kernel_rfl
theorem fi169_1 : fieldI Try.prog 169 1 = some (1, 1, false) := by kernel_rfl
theorem fi169_2 : fieldI Try.prog 169 2 = some (2, 1, false) := by kernel_rfl
theorem ty170 : tyI Try.prog 170 = some ⟨true, 3, [(.int .i64 0), (.int .i64 0), (.int .i64 0)], 24⟩ := by kernel_rfl
theorem el170 : elemI Try.prog 170 = none := by kernel_rfl
theorem eq170 : eqTy Try.prog 170 = some (.st [(0, 1, .it), (1, 1, .it), (2, 1, .it)]) := by kernel_rfl
theorem pl170 : placesI Try.prog 170 = some [(0, 1), (1, 1), (2, 1)] := by kernel_rfl
theorem fi170_0 : fieldI Try.prog 170 0 = some (0, 1, false) := by kernel_rfl
theorem fi170_1 : fieldI Try.prog 170 1 = some (1, 1, false) := by kernel_rfl
theorem fi170_2 : fieldI Try.prog 170 2 = some (2, 1, false) := by kernel_rfl
theorem ty171 : tyI Try.prog 171 = some ⟨false, 1, [(.slice none 0 0)], 24⟩ := by kernel_rfl
theorem el171 : elemI Try.prog 171 = some 170 := by kernel_rfl
theorem el172 : elemI Try.prog 172 = none := by kernel_rfl
theorem ty173 : tyI Try.prog 173 = some ⟨false, 1, [.nilFunc], 8⟩ := by kernel_rfl
theorem el173 : elemI Try.prog 173 = none := by kernel_rfl
theorem ty174 : tyI Try.prog 174 = some ⟨false, 1, [.nilFunc], 8⟩ := by kernel_rfl
theorem el174 : elemI Try.prog 174 = none := by kernel_rfl
theorem ty175 : tyI Try.prog 175 = some ⟨false, 1, [.nilFunc], 8⟩ := by kernel_rfl
theorem el175 : elemI Try.prog 175 = none := by kernel_rfl
theorem ty176 : tyI Try.prog 176 = some ⟨false, 1, [.nilFunc], 8⟩ := by kernel_rfl
theorem el176 : elemI Try.prog 176 = none := by kernel_rfl
theorem ty177 : tyI Try.prog 177 = some ⟨false, 1, [.nilFunc], 8⟩ := by kernel_rfl
theorem el177 : elemI Try.prog 177 = none := by kernel_rfl
theorem ty178 : tyI Try.prog 178 = some ⟨false, 1, [.nilFunc], 8⟩ := by kernel_rfl
theorem el178 : elemI Try.prog 178 = none := by kernel_rfl
theorem ty179 : tyI Try.prog 179 = some ⟨false, 1, [.nilFunc], 8⟩ := by kernel_rfl
theorem el179 : elemI Try.prog 179 = none := by kernel_rfl
theorem ty180 : tyI Try.prog 180 = some ⟨false, 1, [.nilFunc], 8⟩ := by kernel_rfl
theorem el180 : elemI Try.prog 180 = none := by kernel_rfl
theorem ty181 : tyI Try.prog 181 = some ⟨false, 1, [.nilFunc], 8⟩ := by kernel_rfl
theorem el181 : elemI Try.prog 181 = none := by kernel_rfl
theorem ty182 : tyI Try.prog 182 = some ⟨false, 1, [.nilFunc], 8⟩ := by kernel_rfl
theorem el182 : elemI Try.prog 182 = none := by kernel_rfl
theorem ty183 : tyI Try.prog 183 = some ⟨false, 1, [.nilFunc], 8⟩ := by kernel_rfl
theorem el183 : elemI Try.prog 183 = none := by kernel_rfl
theorem ty184 : tyI Try.prog 184 = some ⟨false, 1, [.nilFunc], 8⟩ := by kernel_rfl
theorem el184 : elemI Try.prog 184 = none := by kernel_rfl
theorem ty185 : tyI Try.prog 185 = some ⟨false, 1, [.nilFunc], 8⟩ := by kernel_rfl
theorem el185 : elemI Try.prog 185 = none := by kernel_rfl
theorem ty186 : tyI Try.prog 186 = some ⟨false, 1, [.nilFunc], 8⟩ := by kernel_rfl
theorem el186 : elemI Try.prog 186 = none := by kernel_rfl
theorem ty187 : tyI Try.prog 187 = some ⟨false, 1, [.nilFunc], 8⟩ := by kernel_rfl
theorem el187 : elemI Try.prog 187 = none := by kernel_rfl
theorem ty188 : tyI Try.prog 188 = some ⟨false, 1, [.nilFunc], 8⟩ := by kernel_rfl
theorem el188 : elemI Try.prog 188 = none := by kernel_rfl
theorem ty189 : tyI Try.prog 189 = some ⟨false, 1, [.nilFunc], 8⟩ := by kernel_rfl
theorem el189 : elemI Try.prog 189 = none := by kernel_rfl
theorem ty190 : tyI Try.prog 190 = some ⟨false, 1, [(.slice none 0 0)], 24⟩ := by kernel_rfl
theorem el190 : elemI Try.prog 190 = some 143 := by kernel_rfl
theorem ty191 : tyI Try.prog 191 = some ⟨true, 2, [(.slice none 0 0), (.int .i64 0)], 32⟩ := by kernel_rfl
theorem el191 : elemI Try.prog 191 = none := by kernel_rfl
theorem pl191 : placesI Try.prog 191 = some [(0, 1), (1, 1)] := by kernel_rfl
theorem fi191_0 : fieldI Try.prog 191 0 = some (0, 1, false) := by kernel_rfl
theorem fi191_1 : fieldI Try.prog 191 1 = some (1, 1, false) := by kernel_rfl
theorem ty192 : tyI Try.prog 192 = some ⟨true, 2, [(.slice none 0 0), (.int .i64 0)], 32⟩ := by kernel_rfl
theorem el192 : elemI Try.prog 192 = none := by kernel_rfl
theorem pl192 : placesI Try.prog 192 = some [(0, 1), (1, 1)] := by kernel_rfl
theorem fi192_0 : fieldI Try.prog 192 0 = some (0, 1, false) := by kernel_rfl
theorem fi192_1 : fieldI Try.prog 192 1 = some (1, 1, false) := by kernel_rfl
theorem el193 : elemI Try.prog 193 = none := by kernel_rfl
theorem ty194 : tyI Try.prog 194 = some ⟨false, 1, [.nilFunc], 8⟩ := by kernel_rfl
theorem el194 : elemI Try.prog 194 = none := by kernel_rfl
theorem ty195 : tyI Try.prog 195 = some ⟨false, 1, [.nilFunc], 8⟩ := by kernel_rfl
theorem el195 : elemI Try.prog 195 = none := by kernel_rfl
theorem ty196 : tyI Try.prog 196 = some ⟨false, 1, [.nilFunc], 8⟩ := by kernel_rfl
theorem el196 : elemI Try.prog 196 = none := by kernel_rfl
theorem ty197 : tyI Try.prog 197 = some ⟨false, 1, [.nilFunc], 8⟩ := by kernel_rfl
theorem el197 : elemI Try.prog 197 = none := by kernel_rfl
theorem ty198 : tyI Try.prog 198 = some ⟨false, 1, [.nilFunc], 8⟩ := by kernel_rfl
theorem el198 : elemI Try.prog 198 = none := by kernel_rfl
theorem ty199 : tyI Try.prog 199 = some ⟨false, 1, [.nilFunc], 8⟩ := by kernel_rfl
theorem el199 : elemI Try.prog 199 = none := by kernel_rfl
theorem ty200 : tyI Try.prog 200 = some ⟨false, 1, [.nilFunc], 8⟩ := by kernel_rfl
theorem el200 : elemI Try.prog 200 = none := by kernel_rfl
theorem ty201 : tyI Try.prog 201 = some ⟨false, 1, [.nilFunc], 8⟩ := by kernel_rfl
theorem el201 : elemI Try.prog 201 = none := by kernel_rfl
theorem ty202 : tyI Try.prog 202 = some ⟨false, 1, [.nilFunc], 8⟩ := by kernel_rfl
theorem el202 : elemI Try.prog 202 = none := by kernel_rfl
theorem ty203 : tyI Try.prog 203 = some ⟨false, 1, [.nilFunc], 8⟩ := by kernel_rfl
theorem el203 : elemI Try.prog 203 = none := by kernel_rfl
theorem ty204 : tyI Try.prog 204 = some ⟨true, 2, [(.int .i64 0), (.slice none 0 0)], 32⟩ := by kernel_rfl
theorem el204 : elemI Try.prog 204 = none := by kernel_rfl
theorem pl204 : placesI Try.prog 204 = some [(0, 2)] := by kernel_rfl
theorem fi204_0 : fieldI Try.prog 204 0 = some (0, 2, true) := by kernel_rfl
theorem ty205 : tyI Try.prog 205 = some ⟨true, 2, [(.int .i64 0), (.slice none 0 0)], 32⟩ := by kernel_rfl
theorem el205 : elemI Try.prog 205 = none := by kernel_rfl
theorem pl205 : placesI Try.prog 205 = some [(0, 2)] := by kernel_rfl
theorem fi205_0 : fieldI Try.prog 205 0 = some (0, 2, true) := by kernel_rfl
theorem el206 : elemI Try.prog 206 = none := by kernel_rfl
theorem ty207 : tyI Try.prog 207 = some ⟨false, 1, [.nilFunc], 8⟩ := by kernel_rfl
theorem el207 : elemI Try.prog 207 = none := by kernel_rfl
theorem ty208 : tyI Try.prog 208 = some ⟨false, 1, [.nilFunc], 8⟩ := by kernel_rfl
theorem el208 : elemI Try.prog 208 = none := by kernel_rfl
theorem ty209 : tyI Try.prog 209 = some ⟨false, 1, [(.slice none 0 0)], 24⟩ := by kernel_rfl
theorem el209 : elemI Try.prog 209 = some 240 := by kernel_rfl
theorem ty210 : tyI Try.prog 210 = some ⟨false, 1, [(.slice none 0 0)], 24⟩ := by kernel_rfl
theorem el210 : elemI Try.prog 210 = some 171 := by kernel_rfl
theorem el211 : elemI Try.prog 211 = none := by kernel_rfl
theorem ty212 : tyI Try.prog 212 = some ⟨false, 1, [.nilFunc], 8⟩ := by kernel_rfl
theorem el212 : elemI Try.prog 212 = none := by kernel_rfl
theorem ty213 : tyI Try.prog 213 = some ⟨false, 1, [.nilFunc], 8⟩ := by kernel_rfl
theorem el213 : elemI Try.prog 213 = none := by kernel_rfl
theorem ty214 : tyI Try.prog 214 = some ⟨false, 1, [.nilFunc], 8⟩ := by kernel_rfl
theorem el214 : elemI Try.prog 214 = none := by kernel_rfl
theorem ty215 : tyI Try.prog 215 = some ⟨false, 1, [.nilFunc], 8⟩ := by kernel_rfl
theorem el215 : elemI Try.prog 215 = none := by kernel_rfl
theorem ty216 : tyI Try.prog 216 = some ⟨false, 1, [.nilFunc], 8⟩ := by kernel_rfl
theorem el216 : elemI Try.prog 216 = none := by kernel_rfl
theorem ty217 : tyI Try.prog 217 = some ⟨false, 1, [.nilFunc], 8⟩ := by kernel_rfl
theorem el217 : elemI Try.prog 217 = none := by kernel_rfl
theorem ty218 : tyI Try.prog 218 = some ⟨false, 1, [.nilFunc], 8⟩ := by kernel_rfl
theorem el218 : elemI Try.prog 218 = none := by kernel_rfl
theorem ty219 : tyI Try.prog 219 = some ⟨false, 1, [.nilFunc], 8⟩ := by kernel_rfl
theorem el219 : elemI Try.prog 219 = none := by kernel_rfl
theorem ty220 : tyI Try.prog 220 = some ⟨false, 1, [.nilFunc], 8⟩ := by kernel_rfl
theorem el220 : elemI Try.prog 220 = none := by kernel_rfl
theorem ty221 : tyI Try.prog 221 = some ⟨false, 1, [.nilFunc], 8⟩ := by kernel_rfl
theorem el221 : elemI Try.prog 221 = none := by kernel_rfl
theorem ty222 : tyI Try.prog 222 = some ⟨false, 1, [.nilFunc], 8⟩ := by kernel_rfl
theorem el222 : elemI Try.prog 222 = none := by kernel_rfl
theorem ty223 : tyI Try.prog 223 = some ⟨false, 1, [.nilFunc], 8⟩ := by kernel_rfl
theorem el223 : elemI Try.prog 223 = none := by kernel_rfl
theorem ty224 : tyI Try.prog 224 = some ⟨false, 1, [(.slice none 0 0)], 24⟩ := by kernel_rfl
theorem el224 : elemI Try.prog 224 = some 87 := by kernel_rfl
theorem ty225 : tyI Try.prog 225 = some ⟨false, 1, [.nilFunc], 8⟩ := by kernel_rfl
theorem el225 : elemI Try.prog 225 = none := by kernel_rfl
theorem ty226 : tyI Try.prog 226 = some ⟨false, 1, [(.int .u64 0)], 8⟩ := by kernel_rfl
theorem el226 : elemI Try.prog 226 = none := by kernel_rfl
theorem it226 : intI Try.prog 226 = some .u64 := by kernel_rfl
theorem ty227 : tyI Try.prog 227 = some ⟨false, 1, [.nilFunc], 8⟩ := by kernel_rfl
theorem el227 : elemI Try.prog 227 = none := by kernel_rfl
theorem ty228 : tyI Try.prog 228 = some ⟨false, 1, [.nilFunc], 8⟩ := by kernel_rfl
theorem el228 : elemI Try.prog 228 = none := by kernel_rfl
theorem ty229 : tyI Try.prog 229 = some ⟨false, 1, [.nilFunc], 8⟩ := by kernel_rfl
theorem el229 : elemI Try.prog 229 = none := by kernel_rfl
theorem ty230 : tyI Try.prog 230 = some ⟨false, 1, [.nilFunc], 8⟩ := by kernel_rfl
theorem el230 : elemI Try.prog 230 = none := by kernel_rfl
theorem ty231 : tyI Try.prog 231 = some ⟨false, 1, [.nilFunc], 8⟩ := by kernel_rfl
theorem el231 : elemI Try.prog 231 = none := by kernel_rfl
theorem ty232 : tyI Try.prog 232 = some ⟨false, 1, [.nilFunc], 8⟩ := by kernel_rfl
theorem el232 : elemI Try.prog 232 = none := by kernel_rfl
theorem ty233 : tyI Try.prog 233 = some ⟨false, 1, [.nilFunc], 8⟩ := by kernel_rfl
theorem el233 : elemI Try.prog 233 = none := by kernel_rfl
theorem ty234 : tyI Try.prog 234 = some ⟨false, 1, [.nilFunc], 8⟩ := by kernel_rfl
theorem el234 : elemI Try.prog 234 = none := by kernel_rfl
theorem ty235 : tyI Try.prog 235 = some ⟨false, 1, [.nilFunc], 8⟩ := by kernel_rfl
theorem el235 : elemI Try.prog 235 = none := by kernel_rfl
theorem ty236 : tyI Try.prog 236 = some ⟨false, 1, [.nilFunc], 8⟩ := by kernel_rfl
theorem el236 : elemI Try.prog 236 = none := by kernel_rfl
theorem ty237 : tyI Try.prog 237 = some ⟨false, 1, [.nilFunc], 8⟩ := by kernel_rfl
theorem el237 : elemI Try.prog 237 = none := by kernel_rfl
theorem ty238 : tyI Try.prog 238 = some ⟨false, 1, [.nilFunc], 8⟩ := by kernel_rfl
theorem el238 : elemI Try.prog 238 = none := by kernel_rfl
theorem ty239 : tyI Try.prog 239 = some ⟨true, 4, [(.int .i64 0), (.int .i64 0), (.int .i64 0), (.bool false)], 32⟩ := by kernel_rfl
theorem el239 : elemI Try.prog 239 = none := by kernel_rfl
theorem eq239 : eqTy Try.prog 239 = some (.st [(0, 1, .it), (1, 1, .it), (2, 1, .it), (3, 1, .bl)]) := by kernel_rfl
theorem pl239 : placesI Try.prog 239 = some [(0, 1), (1, 1), (2, 1), (3, 1)] := by kernel_rfl
theorem fi239_0 : fieldI Try.prog 239 0 = some (0, 1, false) := by kernel_rfl
theorem fi239_1 : fieldI Try.prog 239 1 = some (1, 1, false) := by kernel_rfl
theorem fi239_2 : fieldI Try.prog 239 2 = some (2, 1, false) := by kernel_rfl
theorem fi239_3 : fieldI Try.prog 239 3 = some (3, 1, false) := by kernel_rfl
theorem ty240 : tyI Try.prog 240 = some ⟨true, 4, [(.int .i64 0), (.int .i64 0), (.int .i64 0), (.bool false)], 32⟩ := by kernel_rfl
theorem el240 : elemI Try.prog 240 = none := by kernel_rfl
theorem eq240 : eqTy Try.prog 240 = some (.st [(0, 1, .it), (1, 1, .it), (2, 1, .it), (3, 1, .bl)]) := by kernel_rfl
theorem pl240 : placesI Try.prog 240 = some [(0, 1), (1, 1), (2, 1), (3, 1)] := by kernel_rfl
theorem fi240_0 : fieldI Try.prog 240 0 = some (0, 1, false) := by kernel_rfl
theorem fi240_1 : fieldI Try.prog 240 1 = some (1, 1, false) := by kernel_rfl
theorem fi240_2 : fieldI Try.prog 240 2 = some (2, 1, false) := by kernel_rfl
theorem fi240_3 : fieldI Try.prog 240 3 = some (3, 1, false) := by kernel_rfl
theorem ty241 : tyI Try.prog 241 = some ⟨false, 1, [.nilFunc], 8⟩ := by kernel_rfl
theorem el241 : elemI Try.prog 241 = none := by kernel_rfl
theorem ty242 : tyI Try.prog 242 = some ⟨true, 3, [(.int .i64 0), (.int .i64 0), (.int .i64 0)], 24⟩ := by kernel_rfl
theorem el242 : elemI Try.prog 242 = none := by kernel_rfl
theorem eq242 : eqTy Try.prog 242 = some (.st [(0, 1, .it), (1, 1, .it), (2, 1, .it)]) := by kernel_rfl
theorem pl242 : placesI Try.prog 242 = some [(0, 1), (1, 1), (2, 1)] := by kernel_rfl
theorem fi242_0 : fieldI Try.prog 242 0 = some (0, 1, false) := by kernel_rfl
theorem fi242_1 : fieldI Try.prog 242 1 = some (1, 1, false) := by kernel_rfl
theorem fi242_2 : fieldI Try.prog 242 2 = some (2, 1, false) := by kernel_rfl
theorem ty243 : tyI Try.prog 243 = some ⟨true, 3, [(.int .i64 0), (.int .i64 0), (.int .i64 0)], 24⟩ := by kernel_rfl
theorem el243 : elemI Try.prog 243 = none := by kernel_rfl
theorem eq243 : eqTy Try.prog 243 = some (.st [(0, 1, .it), (1, 1, .it), (2, 1, .it)]) := by kernel_rfl
theorem pl243 : placesI Try.prog 243 = some [(0, 1), (1, 1), (2, 1)] := by kernel_rfl
theorem fi243_0 : fieldI Try.prog 243 0 = some (0, 1, false) := by kernel_rfl
theorem fi243_1 : fieldI Try.prog 243 1 = some (1, 1, false) := by kernel_rfl
theorem fi243_2 : fieldI Try.prog 243 2 = some (2, 1, false) := by kernel_rfl
theorem ty244 : tyI Try.prog 244 = some ⟨false, 1, [.nilFunc], 8⟩ := by kernel_rfl
theorem el244 : elemI Try.prog 244 = none := by kernel_rfl
theorem ty245 : tyI Try.prog 245 = some ⟨false, 1, [.nilFunc], 8⟩ := by kernel_rfl
theorem el245 : elemI Try.prog 245 = none := by kernel_rfl
theorem ty246 : tyI Try.prog 246 = some ⟨false, 1, [.nilFunc], 8⟩ := by kernel_rfl
theorem el246 : elemI Try.prog 246 = none := by kernel_rfl
theorem ty247 : tyI Try.prog 247 = some ⟨false, 1, [.nilFunc], 8⟩ := by kernel_rfl
theorem el247 : elemI Try.prog 247 = none := by kernel_rfl
theorem ty248 : tyI Try.prog 248 = some ⟨false, 1, [.nilFunc], 8⟩ := by kernel_rfl
theorem el248 : elemI Try.prog 248 = none := by kernel_rfl
theorem ty249 : tyI Try.prog 249 = some ⟨false, 1, [.nilFunc], 8⟩ := by kernel_rfl
theorem el249 : elemI Try.prog 249 = none := by kernel_rfl
theorem ty250 : tyI Try.prog 250 = some ⟨false, 1, [.nilFunc], 8⟩ := by kernel_rfl
theorem el250 : elemI Try.prog 250 = none := by kernel_rfl
theorem ty251 : tyI Try.prog 251 = some ⟨false, 1, [.nilFunc], 8⟩ := by kernel_rfl
theorem el251 : elemI Try.prog 251 = none := by kernel_rfl
theorem ty252 : tyI Try.prog 252 = some ⟨false, 1, [.nilFunc], 8⟩ := by kernel_rfl
theorem el252 : elemI Try.prog 252 = none := by kernel_rfl
theorem ty253 : tyI Try.prog 253 = some ⟨false, 1, [.nilFunc], 8⟩ := by kernel_rfl
theorem el253 : elemI Try.prog 253 = none := by kernel_rfl
theorem ty254 : tyI Try.prog 254 = some ⟨false, 1, [.nilFunc], 8⟩ := by kernel_rfl
theorem el254 : elemI Try.prog 254 = none := by kernel_rfl
theorem ty255 : tyI Try.prog 255 = some ⟨false, 1, [.nilFunc], 8⟩ := by kernel_rfl
theorem el255 : elemI Try.prog 255 = none := by kernel_rfl
theorem ty256 : tyI Try.prog 256 = some ⟨false, 1, [.nilFunc], 8⟩ := by kernel_rfl
theorem el256 : elemI Try.prog 256 = none := by kernel_rfl
theorem ty257 : tyI Try.prog 257 = some ⟨false, 1, [.nilFunc], 8⟩ := by kernel_rfl
theorem el257 : elemI Try.prog 257 = none := by kernel_rfl
theorem ty258 : tyI Try.prog 258 = some ⟨false, 1, [.nilFunc], 8⟩ := by kernel_rfl
theorem el258 : elemI Try.prog 258 = none := by kernel_rfl
theorem ty259 : tyI Try.prog 259 = some ⟨false, 1, [.nilFunc], 8⟩ := by kernel_rfl
theorem el259 : elemI Try.prog 259 = none := by kernel_rfl
theorem ty260 : tyI Try.prog 260 = some ⟨false, 1, [.nilFunc], 8⟩ := by kernel_rfl
theorem el260 : elemI Try.prog 260 = none := by kernel_rfl
theorem ty261 : tyI Try.prog 261 = some ⟨false, 1, [.nilFunc], 8⟩ := by kernel_rfl
theorem el261 : elemI Try.prog 261 = none := by kernel_rfl
theorem ty262 : tyI Try.prog 262 = some ⟨false, 1, [.nilFunc], 8⟩ := by kernel_rfl
theorem el262 : elemI Try.prog 262 = none := by kernel_rfl
theorem ty263 : tyI Try.prog 263 = some ⟨false, 1, [.nilFunc], 8⟩ := by kernel_rfl
theorem el263 : elemI Try.prog 263 = none := by kernel_rfl
theorem ty264 : tyI Try.prog 264 = some ⟨false, 1, [.nilFunc], 8⟩ := by kernel_rfl
theorem el264 : elemI Try.prog 264 = none := by kernel_rfl
theorem ty265 : tyI Try.prog 265 = some ⟨false, 1, [.nilFunc], 8⟩ := by kernel_rfl
theorem el265 : elemI Try.prog 265 = none := by kernel_rfl
theorem ty266 : tyI Try.prog 266 = some ⟨false, 1, [.nilFunc], 8⟩ := by kernel_rfl
theorem el266 : elemI Try.prog 266 = none := by kernel_rfl
theorem ty267 : tyI Try.prog 267 = some ⟨true, 4, [(.pointer none), (.pointer none), (.pointer none), (.string ⟨#[]⟩)], 40⟩ := by kernel_rfl
theorem el267 : elemI Try.prog 267 = none := by kernel_rfl
theorem pl267 : placesI Try.prog 267 = some [(0, 1), (1, 1), (2, 1), (3, 1)] := by kernel_rfl
theorem fi267_0 : fieldI Try.prog 267 0 = some (0, 1, false) := by kernel_rfl
theorem fi267_1 : fieldI Try.prog 267 1 = some (1, 1, false) := by kernel_rfl
theorem fi267_2 : fieldI Try.prog 267 2 = some (2, 1, false) := by kernel_rfl
theorem fi267_3 : fieldI Try.prog 267 3 = some (3, 1, false) := by kernel_rfl
theorem ty268 : tyI Try.prog 268 = some ⟨true, 4, [(.pointer none), (.pointer none), (.pointer none), (.string ⟨#[]⟩)], 40⟩ := by kernel_rfl
theorem el268 : elemI Try.prog 268 = none := by kernel_rfl
theorem pl268 : placesI Try.prog 268 = some [(0, 1), (1, 1), (2, 1), (3, 1)] := by kernel_rfl
theorem fi268_0 : fieldI Try.prog 268 0 = some (0, 1, false) := by kernel_rfl
theorem fi268_1 : fieldI Try.prog 268 1 = some (1, 1, false) := by kernel_rfl
theorem fi268_2 : fieldI Try.prog 268 2 = some (2, 1, false) := by kernel_rfl
theorem fi268_3 : fieldI Try.prog 268 3 = some (3, 1, false) := by kernel_rfl
theorem ty269 : tyI Try.prog 269 = some ⟨true, 0, [], 0⟩ := by kernel_rfl
theorem el269 : elemI Try.prog 269 = none := by kernel_rfl
theorem ar269 : arrI Try.prog 269 = some (0, 16) := by kernel_rfl
theorem pl269 : placesI Try.prog 269 = some [] := by kernel_rfl
theorem ty270 : tyI Try.prog 270 = some ⟨true, 0, [], 0⟩ := by kernel_rfl
theorem el270 : elemI Try.prog 270 = none := by kernel_rfl
theorem pl270 : placesI Try.prog 270 = some [(0, 0)] := by kernel_rfl
theorem ty271 : tyI Try.prog 271 = some ⟨true, 0, [], 0⟩ := by kernel_rfl
theorem el271 : elemI Try.prog 271 = none := by kernel_rfl
theorem pl271 : placesI Try.prog 271 = some [(0, 0)] := by kernel_rfl
theorem ty272 : tyI Try.prog 272 = some ⟨false, 1, [(.int .u32 0)], 4⟩ := by kernel_rfl
theorem el272 : elemI Try.prog 272 = none := by kernel_rfl
theorem it272 : intI Try.prog 272 = some .u32 := by kernel_rfl
theorem ty273 : tyI Try.prog 273 = some ⟨false, 1, [(.int .u8 0)], 1⟩ := by kernel_rfl
theorem el273 : elemI Try.prog 273 = none := by kernel_rfl
theorem it273 : intI Try.prog 273 = some .u8 := by kernel_rfl
theorem ty274 : tyI Try.prog 274 = some ⟨false, 1, [(.int .u8 0)], 1⟩ := by kernel_rfl
theorem el274 : elemI Try.prog 274 = none := by kernel_rfl
theorem it274 : intI Try.prog 274 = some .u8 := by kernel_rfl
theorem ty275 : tyI Try.prog 275 = some ⟨false, 1, [.nilFunc], 8⟩ := by kernel_rfl
theorem el275 : elemI Try.prog 275 = none := by kernel_rfl
theorem ty276 : tyI Try.prog 276 = some ⟨false, 1, [(.pointer none)], 8⟩ := by kernel_rfl
theorem el276 : elemI Try.prog 276 = none := by kernel_rfl
theorem ty277 : tyI Try.prog 277 = some ⟨false, 1, [(.int .i32 0)], 4⟩ := by kernel_rfl
theorem el277 : elemI Try.prog 277 = none := by kernel_rfl
theorem it277 : intI Try.prog 277 = some .i32 := by kernel_rfl
theorem ty278 : tyI Try.prog 278 = some ⟨false, 1, [(.int .i32 0)], 4⟩ := by kernel_rfl
theorem el278 : elemI Try.prog 278 = none := by kernel_rfl
theorem it278 : intI Try.prog 278 = some .i32 := by kernel_rfl
theorem ty279 : tyI Try.prog 279 = some ⟨true, 11, [(.int .u64 0), (.int .u64 0), (.int .u32 0), (.int .u8 0), (.int .u8 0), (.int .u8 0), (.int .u8 0), .nilFunc, (.pointer none), (.int .i32 0), (.int .i32 0)], 48⟩ := by kernel_rfl
theorem el279 : elemI Try.prog 279 = none := by kernel_rfl
theorem pl279 : placesI Try.prog 279 = some [(0, 1), (1, 1), (2, 1), (3, 1), (4, 1), (5, 1), (6, 1), (7, 1), (8, 1), (9, 1), (10, 1)] := by kernel_rfl
theorem fi279_0 : fieldI Try.prog 279 0 = some (0, 1, false) := by kernel_rfl
theorem fi279_1 : fieldI Try.prog 279 1 = some (1, 1, false) := by kernel_rfl
theorem fi279_2 : fieldI Try.prog 279 2 = some (2, 1, false) := by kernel_rfl
theorem fi279_3 : fieldI Try.prog 279 3 = some (3, 1, false) := by kernel_rfl
theorem fi279_4 : fieldI Try.prog 279 4 = some (4, 1, false) := by kernel_rfl
theorem fi279_5 : fieldI Try.prog 279 5 = some (5, 1, false) := by kernel_rfl
theorem fi279_6 : fieldI Try.prog 279 6 = some (6, 1, false) := by kernel_rfl
theorem fi279_7 : fieldI Try.prog 279 7 = some (7, 1, false) := by kernel_rfl
theorem fi279_8 : fieldI Try.prog 279 8 = some (8, 1, false) := by kernel_rfl
theorem fi279_9 : fieldI Try.prog 279 9 = some (9, 1, false) := by kernel_rfl
theorem fi279_10 : fieldI Try.prog 279 10 = some (10, 1, false) := by kernel_rfl
theorem ty280 : tyI Try.prog 280 = some ⟨true, 11, [(.int .u64 0), (.int .u64 0), (.int .u32 0), (.int .u8 0), (.int .u8 0), (.int .u8 0), (.int .u8 0), .nilFunc, (.pointer none), (.int .i32 0), (.int .i32 0)], 48⟩ := by kernel_rfl
theorem el280 : elemI Try.prog 280 = none := by kernel_rfl
theorem pl280 : placesI Try.prog 280 = some [(0, 1), (1, 1), (2, 1), (3, 1), (4, 1), (5, 1), (6, 1), (7, 1), (8, 1), (9, 1), (10, 1)] := by kernel_rfl
theorem fi280_0 : fieldI Try.prog 280 0 = some (0, 1, false) := by kernel_rfl
theorem fi280_1 : fieldI Try.prog 280 1 = some (1, 1, false) := by kernel_rfl
theorem fi280_2 : fieldI Try.prog 280 2 = some (2, 1, false) := by kernel_rfl
theorem fi280_3 : fieldI Try.prog 280 3 = some (3, 1, false) := by kernel_rfl
theorem fi280_4 : fieldI Try.prog 280 4 = some (4, 1, false) := by kernel_rfl
theorem fi280_5 : fieldI Try.prog 280 5 = some (5, 1, false) := by kernel_rfl
theorem fi280_6 : fieldI Try.prog 280 6 = some (6, 1, false) := by kernel_rfl
theorem fi280_7 : fieldI Try.prog 280 7 = some (7, 1, false) := by kernel_rfl
theorem fi280_8 : fieldI Try.prog 280 8 = some (8, 1, false) := by kernel_rfl
theorem fi280_9 : fieldI Try.prog 280 9 = some (9, 1, false) := by kernel_rfl
theorem fi280_10 : fieldI Try.prog 280 10 = some (10, 1, false) := by kernel_rfl
theorem ty281 : tyI Try.prog 281 = some ⟨false, 1, [(.pointer none)], 8⟩ := by kernel_rfl
theorem el281 : elemI Try.prog 281 = none := by kernel_rfl
attribute [go_sem] el0 ty1 el1 ty2 el2 it2 ty3 el3 it3 ty4 el4 bl4 ty5 el5 it5 ty6 el6 it6 ty7 el7 eq7 pl7 fi7_0 fi7_1 fi7_2 fi7_3 ty8 el8 eq8 pl8 fi8_0 fi8_1 fi8_2 fi8_3 ty9 el9 ty10 el10 ty11 el11 ty12 el12 it12 ty13 el13 pl13 fi13_0 fi13_1 ty14 el14 pl14 fi14_0 fi14_1 ty15 el15 ty16 el16 ty17 el17 ty18 el18 pl18 fi18_0 ty19 el19 pl19 fi19_0 ty20 el20 ty21 el21 it21 ty22 el22 ty23 el23 ar23 pl23 ty24 el24 ar24 pl24 ty25 el25 ty26 el26 pl26 fi26_0 fi26_1 fi26_2 fi26_3 fi26_4 fi26_5 fi26_6 fi26_7 fi26_8 fi26_9 fi26_10 ty27 el27 pl27 fi27_0 fi27_1 fi27_2 fi27_3 fi27_4 fi27_5 fi27_6 fi27_7 fi27_8 fi27_9 fi27_10 ty28 el28 ty29 el29 ty30 el30 eq30 pl30 fi30_0 fi30_1 fi30_2 fi30_3 ty31 el31 eq31 pl31 fi31_0 fi31_1 fi31_2 fi31_3 ty32 el32 ty33 el33 it33 ty34 el34 it34 el35 ty36 el36 ty37 el37 el38 ty39 el39 ty40 el40 ty41 el41 eq41 pl41 fi41_0 fi41_1 fi41_2 fi41_3 fi41_4 ty42 el42 eq42 pl42 fi42_0 fi42_1 fi42_2 fi42_3 fi42_4 el43 ty44 el44 ty45 el45 ty46 el46 ty47 el47 ty48 el48 pl48 fi48_0 fi48_1 fi48_2 ty49 el49 pl49 fi49_0 fi49_1 fi49_2 ty50 el50 it50 ty51 el51 ty52 el52 ty53 el53 pl53 fi53_0 fi53_1 ty54 el54 pl54 fi54_0 fi54_1 ty55 el55 ty56 el56 pl56 fi56_0 fi56_1 ty57 el57 pl57 fi57_0 fi57_1 ty58 el58 ty59 el59 eq59 pl59 fi59_0 fi59_1 ty60 el60 eq60 pl60 fi60_0 fi60_1 el61 ty62 el62 ty63 el63 ty64 el64 el65 ty66 el66 ty67 el67 ty68 el68 eq68 pl68 fi68_0 fi68_1 fi68_2 fi68_3 ty69 el69 eq69 pl69 fi69_0 fi69_1 fi69_2 fi69_3 el70 ty71 el71 ty72 el72 ty73 el73 ty74 el74 pl74 fi74_0 fi74_1 fi74_2 ty75 el75 pl75 fi75_0 fi75_1 fi75_2 ty76 el76 eq76 pl76 fi76_0 fi76_1 ty77 el77 eq77 pl77 fi77_0 fi77_1 ty78 el78 el79 ty80 el80 ty81 el81 el82 ty83 el83 ty84 el84 ty85 el85 ty86 el86 ty87 el87 it87 ty88 el88 eq88 pl88 fi88_0 fi88_1 fi88_2 fi88_3 fi88_4 fi88_5 ty89 el89 eq89 pl89 fi89_0 fi89_1 fi89_2 fi89_3 fi89_4 fi89_5 ty90 el90 eq90 pl90 fi90_0 fi90_1 ty91 el91 eq91 pl91 fi91_0 fi91_1 el92 ty93 el93 ty94 el94 ty95 el95 ty96 el96 ty97 el97 ty98 el98 ar98 pl98 ty99 el99 ty100 el100 eq100 pl100 fi100_0 fi100_1 fi100_2 ty101 el101 eq101 pl101 fi101_0 fi101_1 fi101_2 ty102 el102 eq102 pl102 fi102_0 fi102_1 ty103 el103 eq103 pl103 fi103_0 fi103_1 ty104 el104 ty105 el105 el106 ty107 el107 ty108 el108 ty109 el109 eq109 pl109 fi109_0 fi109_1 ty110 el110 eq110 pl110 fi110_0 fi110_1 ty111 el111 ty112 el112 ty113 el113 it113 ty114 el114 eq114 pl114 fi114_0 fi114_1 ty115 el115 eq115 pl115 fi115_0 fi115_1 ty116 el116 eq116 pl116 fi116_0 fi116_1 fi116_2 fi116_3 fi116_4 ty117 el117 eq117 pl117 fi117_0 fi117_1 fi117_2 fi117_3 fi117_4 ty118 el118 ty119 el119 ty120 el120 pl120 fi120_0 ty121 el121 pl121 fi121_0 el122 ty123 el123 ty124 el124 ty125 el125 ty126 el126 ty127 el127 ar127 pl127 ty128 el128 eq128 pl128 fi128_0 fi128_1 fi128_2 ty129 el129 eq129 pl129 fi129_0 fi129_1 fi129_2 ty130 el130 ar130 pl130 ty131 el131 pl131 fi131_0 fi131_1 fi131_2 ty132 el132 pl132 fi132_0 fi132_1 fi132_2 el133 ty134 el134 el135 ty136 el136 ty137 el137 ty138 el138 ty139 el139 ty140 el140 ty141 el141 ty142 el142 eq142 pl142 fi142_0 fi142_1 ty143 el143 eq143 pl143 fi143_0 fi143_1 ty144 el144 eq144 pl144 fi144_0 fi144_1 ty145 el145 eq145 pl145 fi145_0 fi145_1 ty146 el146 ty147 el147 eq147 pl147 fi147_0 fi147_1 ty148 el148 eq148 pl148 fi148_0 fi148_1 ty149 el149 ty150 el150 ty151 el151 eq151 pl151 fi151_0 ty152 el152 eq152 pl152 fi152_0 ty153 el153 ty154 el154 ty155 el155 ty156 el156 ty157 el157 ty158 el158 ty159 el159 ty160 el160 ty161 el161 eq161 pl161 fi161_0 ty162 el162 eq162 pl162 fi162_0 ty163 el163 ty164 el164 pl164 fi164_0 fi164_1 ty165 el165 pl165 fi165_0 fi165_1 el166 ty167 el167 ty168 el168 it168 ty169 el169 eq169 pl169 fi169_0 fi169_1 fi169_2 ty170 el170 eq170 pl170 fi170_0 fi170_1 fi170_2 ty171 el171 el172 ty173 el173 ty174 el174 ty175 el175 ty176 el176 ty177 el177 ty178 el178 ty179 el179 ty180 el180 ty181 el181 ty182 el182 ty183 el183 ty184 el184 ty185 el185 ty186 el186 ty187 el187 ty188 el188 ty189 el189 ty190 el190 ty191 el191 pl191 fi191_0 fi191_1 ty192 el192 pl192 fi192_0 fi192_1 el193 ty194 el194 ty195 el195 ty196 el196 ty197 el197 ty198 el198 ty199 el199 ty200 el200 ty201 el201 ty202 el202 ty203 el203 ty204 el204 pl204 fi204_0 ty205 el205 pl205 fi205_0 el206 ty207 el207 ty208 el208 ty209 el209 ty210 el210 el211 ty212 el212 ty213 el213 ty214 el214 ty215 el215 ty216 el216 ty217 el217 ty218 el218 ty219 el219 ty220 el220 ty221 el221 ty222 el222 ty223 el223 ty224 el224 ty225 el225 ty226 el226 it226 ty227 el227 ty228 el228 ty229 el229 ty230 el230 ty231 el231 ty232 el232 ty233 el233 ty234 el234 ty235 el235 ty236 el236 ty237 el237 ty238 el238 ty239 el239 eq239 pl239 fi239_0 fi239_1 fi239_2 fi239_3 ty240 el240 eq240 pl240 fi240_0 fi240_1 fi240_2 fi240_3 ty241 el241 ty242 el242 eq242 pl242 fi242_0 fi242_1 fi242_2 ty243 el243 eq243 pl243 fi243_0 fi243_1 fi243_2 ty244 el244 ty245 el245 ty246 el246 ty247 el247 ty248 el248 ty249 el249 ty250 el250 ty251 el251 ty252 el252 ty253 el253 ty254 el254 ty255 el255 ty256 el256 ty257 el257 ty258 el258 ty259 el259 ty260 el260 ty261 el261 ty262 el262 ty263 el263 ty264 el264 ty265 el265 ty266 el266 ty267 el267 pl267 fi267_0 fi267_1 fi267_2 fi267_3 ty268 el268 pl268 fi268_0 fi268_1 fi268_2 fi268_3 ty269 el269 ar269 pl269 ty270 el270 pl270 ty271 el271 pl271 ty272 el272 it272 ty273 el273 it273 ty274 el274 it274 ty275 el275 ty276 el276 ty277 el277 it277 ty278 el278 it278 ty279 el279 pl279 fi279_0 fi279_1 fi279_2 fi279_3 fi279_4 fi279_5 fi279_6 fi279_7 fi279_8 fi279_9 fi279_10 ty280 el280 pl280 fi280_0 fi280_1 fi280_2 fi280_3 fi280_4 fi280_5 fi280_6 fi280_7 fi280_8 fi280_9 fi280_10 ty281 el281
end Go.Dw.Seat
end
section
namespace Go.Dw.Seat
open Go Go.Dw Go.Proofs
def s3 : SF := ⟨171, [.tmp 6],
 (.seq (.reg false [⟨some 4, .box 23 (.tmp 1), none⟩,
    ⟨some 5, .box 24 (.tmp 2), none⟩,
    ⟨some 6, .assign (.const (.bool false)), none⟩])
 (.seq (.reg false [⟨some 27, .load 23 (.tmp 4), none⟩,
    ⟨some 28, .call { callee := .value (.func 8), args := #[.tmp 27], argTypes := #[23] }, none⟩,
    ⟨some 29, .move (.tmp 0), none⟩,
    ⟨some 30, .call { callee := .builtin .len, args := #[.tmp 29], argTypes := #[22] }, none⟩,
    ⟨some 31, .call { callee := .builtin .min, args := #[.const (.int .i64 15), .tmp 30], argTypes := #[3, 3] }, none⟩,
    ⟨some 7, .alloc 27, none⟩,
    ⟨none, .store 27 (.tmp 7) (.tmp 28), none⟩,
    ⟨some 8, .assign (.tmp 31), none⟩])
 (.seq (.seq (.reg false [⟨some 32, .move (.tmp 8), none⟩,
     ⟨some 33, .binOp .eql 3 (.tmp 32) (.const (.int .i64 0)) 3, none⟩])
  (.cond (.tmp 33)
   (.seq (.reg false [⟨some 34, .call { callee := .value (.func 9), args := #[], argTypes := #[] }, none⟩,
       ⟨some 6, .assign (.tmp 34), none⟩])
    .ret)
   .skip))
 (.seq (.ord (.op ⟨some 35, .move (.tmp 8), none⟩ (.op ⟨some 36, .indexAddr 24 (.tmp 5) (.const (.int .i64 0)), none⟩ (.op ⟨some 37, .load 5 (.tmp 36), none⟩ (.op ⟨some 38, .convert 5 3 (.tmp 37), none⟩ (.op ⟨some 39, .indexAddr 24 (.tmp 5) (.const (.int .i64 1)), none⟩ (.op ⟨some 40, .load 5 (.tmp 39), none⟩ (.op ⟨some 41, .convert 5 3 (.tmp 40), none⟩ (.op ⟨some 42, .move (.tmp 8), none⟩ (.op ⟨some 43, .binOp .add 3 (.tmp 42) (.const (.int .i64 1)) 3, none⟩ (.op ⟨some 44, .binOp .rem 3 (.tmp 41) (.tmp 43) 3, none⟩ (.op ⟨some 45, .build 31 #[(0, (.tmp 35)), (2, (.tmp 38)), (3, (.tmp 44))], none⟩ (.op ⟨some 9, .alloc 31, none⟩ (.alt (.op ⟨some 46, .buildSlice 32 0 #[], none⟩ (.op ⟨none, .store 31 (.tmp 9) (.tmp 45), none⟩ (.op ⟨some 10, .assign (.tmp 46), none⟩ (.op ⟨some 11, .assign (.const (.int .i64 0)), none⟩ .done))))
 (.op ⟨none, .store 31 (.tmp 9) (.tmp 45), none⟩ (.op ⟨some 46, .buildSlice 32 0 #[], none⟩ (.op ⟨some 10, .assign (.tmp 46), none⟩ (.op ⟨some 11, .assign (.const (.int .i64 0)), none⟩ .done))))))))))))))))))
 (.seq (.seq (.reg false [⟨some 12, .assign (.const (.int .i64 0)), none⟩])
  (.block 0 (.loop (.seq (.seq (.reg false [⟨some 47, .move (.tmp 12), none⟩,
        ⟨some 48, .move (.tmp 8), none⟩,
        ⟨some 49, .binOp .lss 3 (.tmp 47) (.tmp 48) 3, none⟩])
     (.cond (.tmp 49)
      .skip
      (.exit 0)))
    (.seq (.block 1 (.seq (.reg false [⟨some 52, .move (.tmp 10), none⟩,
         ⟨some 53, .move (.tmp 0), none⟩,
         ⟨some 54, .move (.tmp 12), none⟩,
         ⟨some 55, .indexAddr 22 (.tmp 53) (.tmp 54), none⟩,
         ⟨some 56, .load 5 (.tmp 55), none⟩,
         ⟨some 57, .convert 5 3 (.tmp 56), none⟩,
         ⟨some 58, .buildSlice 32 1 #[(0, (.tmp 57))], none⟩,
         ⟨some 59, .call { callee := .builtin .append, args := #[.tmp 52, .tmp 58], argTypes := #[32, 32] }, none⟩,
         ⟨some 10, .assign (.tmp 59), none⟩])
      (.seq (.reg true [⟨some 60, .move (.tmp 0), none⟩,
         ⟨some 61, .move (.tmp 12), none⟩,
         ⟨some 62, .indexAddr 22 (.tmp 60) (.tmp 61), none⟩,
         ⟨some 63, .load 5 (.tmp 62), none⟩,
         ⟨some 64, .convert 5 3 (.tmp 63), none⟩,
         ⟨some 65, .fieldAddr 31 (.tmp 9) 2, none⟩,
         ⟨some 66, .load 3 (.tmp 65), none⟩,
         ⟨some 67, .binOp .lss 3 (.tmp 64) (.tmp 66) 3, none⟩])
      (.cond (.tmp 67)
       (.reg false [⟨some 68, .move (.tmp 11), none⟩,
          ⟨some 69, .binOp .add 3 (.tmp 68) (.const (.int .i64 1)) 3, none⟩,
          ⟨some 11, .assign (.tmp 69), none⟩])
       .skip))))
    (.reg false [⟨some 50, .move (.tmp 12), none⟩,
      ⟨some 51, .binOp .add 3 (.tmp 50) (.const (.int .i64 1)) 3, none⟩,
      ⟨some 12, .assign (.tmp 51), none⟩]))))))
 (.seq (.reg true [⟨some 71, .load 31 (.tmp 9), none⟩,
    ⟨some 72, .move (.tmp 10), none⟩,
    ⟨some 73, .call { callee := .value (.func 11), args := #[.tmp 72], argTypes := #[32] }, none⟩,
    ⟨some 74, .call { callee := .value (.func 10), args := #[.tmp 71, .tmp 73, .const (.int .i64 0)], argTypes := #[31, 32, 3] }, none⟩,
    ⟨some 70, .move (.tmp 74), none⟩,
    ⟨some 75, .extract (.tmp 70) 0, none⟩,
    ⟨some 76, .extract (.tmp 70) 1, none⟩,
    ⟨some 13, .assign (.tmp 75), none⟩,
    ⟨some 14, .assign (.tmp 76), none⟩])
 (.seq (.reg false [⟨some 78, .load 27 (.tmp 7), none⟩,
    ⟨some 79, .call { callee := .value (.func 13), args := #[.tmp 78], argTypes := #[27] }, none⟩,
    ⟨some 80, .move (.tmp 8), none⟩,
    ⟨some 81, .move (.tmp 11), none⟩,
    ⟨some 82, .call { callee := .value (.func 12), args := #[.tmp 79, .tmp 80, .tmp 81], argTypes := #[27, 3, 3] }, none⟩,
    ⟨some 77, .move (.tmp 82), none⟩,
    ⟨some 83, .extract (.tmp 77) 0, none⟩,
    ⟨some 84, .extract (.tmp 77) 1, none⟩,
    ⟨some 85, .extract (.tmp 77) 2, none⟩,
    ⟨some 15, .assign (.tmp 83), none⟩,
    ⟨some 16, .assign (.tmp 84), none⟩,
    ⟨some 17, .assign (.tmp 85), none⟩])
 (.seq (.reg true [⟨some 87, .load 27 (.tmp 7), none⟩,
    ⟨some 88, .call { callee := .value (.func 13), args := #[.tmp 87], argTypes := #[27] }, none⟩,
    ⟨some 89, .move (.tmp 8), none⟩,
    ⟨some 90, .fieldAddr 31 (.tmp 9) 3, none⟩,
    ⟨some 91, .load 3 (.tmp 90), none⟩,
    ⟨some 92, .call { callee := .value (.func 12), args := #[.tmp 88, .tmp 89, .tmp 91], argTypes := #[27, 3, 3] }, none⟩,
    ⟨some 86, .move (.tmp 92), none⟩,
    ⟨some 93, .extract (.tmp 86) 0, none⟩,
    ⟨some 94, .extract (.tmp 86) 1, none⟩,
    ⟨some 95, .extract (.tmp 86) 2, none⟩,
    ⟨some 18, .assign (.tmp 93), none⟩,
    ⟨some 19, .assign (.tmp 94), none⟩,
    ⟨some 20, .assign (.tmp 95), none⟩])
 (.seq (.reg false [⟨some 97, .load 27 (.tmp 7), none⟩,
    ⟨some 98, .call { callee := .value (.func 13), args := #[.tmp 97], argTypes := #[27] }, none⟩,
    ⟨some 99, .move (.tmp 8), none⟩,
    ⟨some 100, .call { callee := .value (.func 14), args := #[.tmp 98, .tmp 99], argTypes := #[27, 3] }, none⟩,
    ⟨some 96, .move (.tmp 100), none⟩,
    ⟨some 101, .extract (.tmp 96) 0, none⟩,
    ⟨some 102, .extract (.tmp 96) 1, none⟩,
    ⟨some 103, .extract (.tmp 96) 2, none⟩,
    ⟨some 21, .alloc 42, none⟩,
    ⟨none, .store 42 (.tmp 21) (.tmp 101), none⟩,
    ⟨some 22, .assign (.tmp 102), none⟩,
    ⟨some 23, .assign (.tmp 103), none⟩])
 (.seq (.seq (.reg false [⟨some 104, .move (.tmp 14), none⟩,
     ⟨some 105, .binOp .neq 34 (.tmp 104) (.const (.int .i64 0)) 34, none⟩,
     ⟨some 106, .move (.tmp 105), none⟩,
     ⟨some 107, .move (.tmp 17), some (106, false)⟩,
     ⟨some 108, .binOp .neq 34 (.tmp 107) (.const (.int .i64 0)) 34, some (106, false)⟩,
     ⟨some 109, .pick (.tmp 106) (.const (.bool true)) (.tmp 108), none⟩,
     ⟨some 110, .move (.tmp 109), none⟩,
     ⟨some 111, .move (.tmp 20), some (110, false)⟩,
     ⟨some 112, .binOp .neq 34 (.tmp 111) (.const (.int .i64 0)) 34, some (110, false)⟩,
     ⟨some 113, .pick (.tmp 110) (.const (.bool true)) (.tmp 112), none⟩,
     ⟨some 114, .move (.tmp 113), none⟩,
     ⟨some 115, .move (.tmp 23), some (114, false)⟩,
     ⟨some 116, .binOp .neq 34 (.tmp 115) (.const (.int .i64 0)) 34, some (114, false)⟩,
     ⟨some 117, .pick (.tmp 114) (.const (.bool true)) (.tmp 116), none⟩,
     ⟨some 118, .move (.tmp 117), none⟩,
     ⟨some 119, .move (.tmp 15), some (118, false)⟩,
     ⟨some 120, .move (.tmp 16), some (118, false)⟩,
     ⟨some 121, .binOp .add 3 (.tmp 119) (.tmp 120) 3, some (118, false)⟩,
     ⟨some 122, .move (.tmp 22), some (118, false)⟩,
     ⟨some 123, .binOp .neq 3 (.tmp 121) (.tmp 122) 3, some (118, false)⟩,
     ⟨some 124, .pick (.tmp 118) (.const (.bool true)) (.tmp 123), none⟩,
     ⟨some 125, .move (.tmp 124), none⟩,
     ⟨some 126, .move (.tmp 13), some (125, false)⟩,
     ⟨some 127, .binOp .eql 33 (.tmp 126) (.const (.int .i64 1)) 33, some (125, false)⟩,
     ⟨some 128, .move (.tmp 11), some (125, false)⟩,
     ⟨some 129, .fieldAddr 31 (.tmp 9) 3, some (125, false)⟩,
     ⟨some 130, .load 3 (.tmp 129), some (125, false)⟩,
     ⟨some 131, .binOp .leq 3 (.tmp 128) (.tmp 130) 3, some (125, false)⟩,
     ⟨some 132, .binOp .neq 4 (.tmp 127) (.tmp 131) 4, some (125, false)⟩,
     ⟨some 133, .pick (.tmp 125) (.const (.bool true)) (.tmp 132), none⟩,
     ⟨some 134, .move (.tmp 133), none⟩,
     ⟨some 135, .move (.tmp 13), some (134, false)⟩,
     ⟨some 136, .binOp .eql 33 (.tmp 135) (.const (.int .i64 1)) 33, some (134, false)⟩,
     ⟨some 137, .move (.tmp 136), some (134, false)⟩,
     ⟨some 138, .move (.tmp 15), some (137, true)⟩,
     ⟨some 139, .move (.tmp 18), some (137, true)⟩,
     ⟨some 140, .binOp .gtr 3 (.tmp 138) (.tmp 139) 3, some (137, true)⟩,
     ⟨some 141, .pick (.tmp 137) (.tmp 140) (.const (.bool false)), some (134, false)⟩,
     ⟨some 142, .pick (.tmp 134) (.const (.bool true)) (.tmp 141), none⟩])
  (.cond (.tmp 142)
   (.seq (.reg false [⟨some 6, .assign (.const (.bool false)), none⟩])
    .ret)
   .skip))
 (.seq (.seq (.reg false [⟨some 143, .move (.tmp 11), none⟩,
     ⟨some 144, .move (.tmp 8), none⟩,
     ⟨some 145, .binOp .eql 3 (.tmp 143) (.tmp 144) 3, none⟩])
  (.cond (.tmp 145)
   (.seq (.reg false [⟨some 146, .move (.tmp 15), none⟩,
       ⟨some 147, .move (.tmp 22), none⟩,
       ⟨some 148, .binOp .eql 3 (.tmp 146) (.tmp 147) 3, none⟩,
       ⟨some 149, .move (.tmp 148), none⟩,
       ⟨some 150, .call { callee := .value (.func 9), args := #[], argTypes := #[] }, some (149, true)⟩,
       ⟨some 151, .pick (.tmp 149) (.tmp 150) (.const (.bool false)), none⟩,
       ⟨some 6, .assign (.tmp 151), none⟩])
    .ret)
   .skip))
 (.seq (.reg false [⟨some 153, .load 27 (.tmp 7), none⟩,
    ⟨some 154, .move (.tmp 8), none⟩,
    ⟨some 155, .move (.tmp 11), none⟩,
    ⟨some 156, .binOp .add 3 (.tmp 155) (.const (.int .i64 1)) 3, none⟩,
    ⟨some 157, .call { callee := .value (.func 12), args := #[.tmp 153, .tmp 154, .tmp 156], argTypes := #[27, 3, 3] }, none⟩,
    ⟨some 152, .move (.tmp 157), none⟩,
    ⟨some 158, .extract (.tmp 152) 0, none⟩,
    ⟨some 159, .extract (.tmp 152) 1, none⟩,
    ⟨some 160, .extract (.tmp 152) 2, none⟩,
    ⟨some 24, .assign (.tmp 158), none⟩,
    ⟨some 25, .assign (.tmp 159), none⟩,
    ⟨some 26, .assign (.tmp 160), none⟩])
 (.seq (.reg false [⟨some 161, .move (.tmp 26), none⟩,
    ⟨some 162, .binOp .eql 34 (.tmp 161) (.const (.int .i64 0)) 34, none⟩,
    ⟨some 163, .move (.tmp 162), none⟩,
    ⟨some 164, .move (.tmp 24), some (163, true)⟩,
    ⟨some 165, .move (.tmp 15), some (163, true)⟩,
    ⟨some 166, .binOp .geq 3 (.tmp 164) (.tmp 165) 3, some (163, true)⟩,
    ⟨some 167, .pick (.tmp 163) (.tmp 166) (.const (.bool false)), none⟩,
    ⟨some 168, .move (.tmp 167), none⟩,
    ⟨some 169, .call { callee := .value (.func 9), args := #[], argTypes := #[] }, some (168, true)⟩,
    ⟨some 170, .pick (.tmp 168) (.tmp 169) (.const (.bool false)), none⟩,
    ⟨some 6, .assign (.tmp 170), none⟩])
 .ret)))))))))))))⟩
theorem hb3 : hasBody Try.prog 3 = true := by kernel_rfl
def s4 : SF := ⟨219, [.tmp 6],
 (.seq (.reg false [⟨some 3, .box 49 (.tmp 0), none⟩,
    ⟨some 6, .assign (.const (.bool false)), none⟩])
 (.seq (.reg true [⟨some 29, .load 49 (.tmp 3), none⟩,
    ⟨some 30, .call { callee := .value (.func 15), args := #[.tmp 29], argTypes := #[49] }, none⟩,
    ⟨some 31, .load 49 (.tmp 3), none⟩,
    ⟨some 32, .call { callee := .value (.func 16), args := #[.tmp 31], argTypes := #[49] }, none⟩,
    ⟨some 7, .alloc 54, none⟩,
    ⟨some 8, .alloc 57, none⟩,
    ⟨none, .store 54 (.tmp 7) (.tmp 30), none⟩,
    ⟨none, .store 57 (.tmp 8) (.tmp 32), none⟩])
 (.seq (.ord (.op ⟨some 34, .load 54 (.tmp 7), none⟩ (.op ⟨some 35, .call { callee := .value (.func 18), args := #[.tmp 34], argTypes := #[54] }, none⟩ (.op ⟨some 36, .load 57 (.tmp 8), none⟩ (.op ⟨some 37, .call { callee := .value (.func 19), args := #[.tmp 36], argTypes := #[57] }, none⟩ (.op ⟨some 38, .call { callee := .value (.func 17), args := #[.tmp 35, .tmp 37], argTypes := #[54, 57] }, none⟩ (.op ⟨some 33, .move (.tmp 38), none⟩ (.op ⟨some 39, .extract (.tmp 33) 0, none⟩ (.op ⟨some 9, .alloc 60, none⟩ (.op ⟨some 10, .alloc 60, none⟩ (.alt (.op ⟨some 40, .extract (.tmp 33) 1, none⟩ (.alt (.op ⟨some 41, .extract (.tmp 33) 2, none⟩ (.op ⟨none, .store 60 (.tmp 9) (.tmp 39), none⟩ (.op ⟨none, .store 60 (.tmp 10) (.tmp 40), none⟩ (.op ⟨some 11, .assign (.tmp 41), none⟩ .done))))
 (.op ⟨none, .store 60 (.tmp 9) (.tmp 39), none⟩ (.alt (.op ⟨some 41, .extract (.tmp 33) 2, none⟩ (.op ⟨none, .store 60 (.tmp 10) (.tmp 40), none⟩ (.op ⟨some 11, .assign (.tmp 41), none⟩ .done)))
 (.op ⟨none, .store 60 (.tmp 10) (.tmp 40), none⟩ (.op ⟨some 41, .extract (.tmp 33) 2, none⟩ (.op ⟨some 11, .assign (.tmp 41), none⟩ .done)))))))
 (.alt (.op ⟨some 41, .extract (.tmp 33) 2, none⟩ (.alt (.op ⟨some 40, .extract (.tmp 33) 1, none⟩ (.op ⟨none, .store 60 (.tmp 9) (.tmp 39), none⟩ (.op ⟨none, .store 60 (.tmp 10) (.tmp 40), none⟩ (.op ⟨some 11, .assign (.tmp 41), none⟩ .done))))
 (.op ⟨none, .store 60 (.tmp 9) (.tmp 39), none⟩ (.op ⟨some 40, .extract (.tmp 33) 1, none⟩ (.op ⟨none, .store 60 (.tmp 10) (.tmp 40), none⟩ (.op ⟨some 11, .assign (.tmp 41), none⟩ .done))))))
 (.op ⟨none, .store 60 (.tmp 9) (.tmp 39), none⟩ (.op ⟨some 40, .extract (.tmp 33) 1, none⟩ (.alt (.op ⟨some 41, .extract (.tmp 33) 2, none⟩ (.op ⟨none, .store 60 (.tmp 10) (.tmp 40), none⟩ (.op ⟨some 11, .assign (.tmp 41), none⟩ .done)))
 (.op ⟨none, .store 60 (.tmp 10) (.tmp 40), none⟩ (.op ⟨some 41, .extract (.tmp 33) 2, none⟩ (.op ⟨some 11, .assign (.tmp 41), none⟩ .done))))))))))))))))))
 (.seq (.reg true [⟨some 43, .load 54 (.tmp 7), none⟩,
    ⟨some 44, .call { callee := .value (.func 18), args := #[.tmp 43], argTypes := #[54] }, none⟩,
    ⟨some 45, .load 57 (.tmp 8), none⟩,
    ⟨some 46, .call { callee := .value (.func 19), args := #[.tmp 45], argTypes := #[57] }, none⟩,
    ⟨some 47, .call { callee := .value (.func 20), args := #[.tmp 44, .tmp 46], argTypes := #[54, 57] }, none⟩,
    ⟨some 42, .move (.tmp 47), none⟩,
    ⟨some 48, .extract (.tmp 42) 0, none⟩,
    ⟨some 49, .extract (.tmp 42) 1, none⟩,
    ⟨some 12, .assign (.tmp 48), none⟩,
    ⟨some 13, .assign (.tmp 49), none⟩])
 (.seq (.seq (.reg false [⟨some 50, .move (.tmp 11), none⟩,
     ⟨some 51, .binOp .neq 34 (.tmp 50) (.const (.int .i64 0)) 34, none⟩,
     ⟨some 52, .move (.tmp 51), none⟩,
     ⟨some 53, .move (.tmp 13), some (52, false)⟩,
     ⟨some 54, .binOp .neq 34 (.tmp 53) (.const (.int .i64 0)) 34, some (52, false)⟩,
     ⟨some 55, .pick (.tmp 52) (.const (.bool true)) (.tmp 54), none⟩,
     ⟨some 56, .move (.tmp 55), none⟩,
     ⟨some 57, .fieldAddr 60 (.tmp 10) 0, some (56, false)⟩,
     ⟨some 58, .load 3 (.tmp 57), some (56, false)⟩,
     ⟨some 59, .binOp .lss 3 (.tmp 58) (.const (.int .i64 1)) 3, some (56, false)⟩,
     ⟨some 60, .pick (.tmp 56) (.const (.bool true)) (.tmp 59), none⟩,
     ⟨some 61, .move (.tmp 60), none⟩,
     ⟨some 62, .fieldAddr 60 (.tmp 10) 1, some (61, false)⟩,
     ⟨some 63, .load 3 (.tmp 62), some (61, false)⟩,
     ⟨some 64, .binOp .gtr 3 (.tmp 63) (.const (.int .i64 10000)) 3, some (61, false)⟩,
     ⟨some 65, .pick (.tmp 61) (.const (.bool true)) (.tmp 64), none⟩,
     ⟨some 66, .move (.tmp 65), none⟩,
     ⟨some 67, .move (.tmp 12), some (66, false)⟩,
     ⟨some 68, .binOp .lss 3 (.tmp 67) (.const (.int .i64 0)) 3, some (66, false)⟩,
     ⟨some 69, .pick (.tmp 66) (.const (.bool true)) (.tmp 68), none⟩,
     ⟨some 70, .move (.tmp 69), none⟩,
     ⟨some 71, .move (.tmp 12), some (70, false)⟩,
     ⟨some 72, .binOp .gtr 3 (.tmp 71) (.const (.int .i64 100000)) 3, some (70, false)⟩,
     ⟨some 73, .pick (.tmp 70) (.const (.bool true)) (.tmp 72), none⟩])
  (.cond (.tmp 73)
   (.seq (.reg false [⟨some 74, .move (.tmp 11), none⟩,
       ⟨some 75, .binOp .eql 34 (.tmp 74) (.const (.int .i64 0)) 34, none⟩,
       ⟨some 76, .move (.tmp 75), none⟩,
       ⟨some 77, .move (.tmp 13), some (76, true)⟩,
       ⟨some 78, .binOp .eql 34 (.tmp 77) (.const (.int .i64 0)) 34, some (76, true)⟩,
       ⟨some 79, .pick (.tmp 76) (.tmp 78) (.const (.bool false)), none⟩,
       ⟨some 80, .move (.tmp 79), none⟩,
       ⟨some 81, .fieldAddr 60 (.tmp 10) 1, some (80, true)⟩,
       ⟨some 82, .load 3 (.tmp 81), some (80, true)⟩,
       ⟨some 83, .binOp .gtr 3 (.tmp 82) (.const (.int .i64 10000)) 3, some (80, true)⟩,
       ⟨some 84, .pick (.tmp 80) (.tmp 83) (.const (.bool false)), none⟩,
       ⟨some 85, .move (.tmp 84), none⟩,
       ⟨some 86, .call { callee := .value (.func 21), args := #[], argTypes := #[] }, some (85, true)⟩,
       ⟨some 87, .pick (.tmp 85) (.tmp 86) (.const (.bool false)), none⟩,
       ⟨some 6, .assign (.tmp 87), none⟩])
    .ret)
   .skip))
 (.seq (.reg true [⟨some 88, .move (.tmp 12), none⟩,
    ⟨some 89, .move (.tmp 12), none⟩,
    ⟨some 90, .call { callee := .value (.func 22), args := #[.tmp 88, .tmp 89], argTypes := #[3, 3] }, none⟩,
    ⟨some 91, .load 60 (.tmp 10), none⟩,
    ⟨some 92, .move (.tmp 2), none⟩,
    ⟨some 93, .convert 50 3 (.tmp 92), none⟩,
    ⟨some 94, .binOp .rem 3 (.tmp 93) (.const (.int .i64 20000)) 3, none⟩,
    ⟨some 95, .binOp .add 3 (.const (.int .i64 1)) (.tmp 94) 3, none⟩,
    ⟨some 96, .build 69 #[(0, (.tmp 90)), (1, (.tmp 91)), (2, (.tmp 95)), (3, (.const (.int .i64 587)))], none⟩,
    ⟨some 14, .alloc 69, none⟩,
    ⟨none, .store 69 (.tmp 14) (.tmp 96), none⟩])
 (.seq (.reg false [⟨some 98, .load 69 (.tmp 14), none⟩,
    ⟨some 99, .call { callee := .value (.func 23), args := #[.tmp 98], argTypes := #[69] }, none⟩,
    ⟨some 97, .move (.tmp 99), none⟩,
    ⟨some 100, .extract (.tmp 97) 0, none⟩,
    ⟨some 101, .extract (.tmp 97) 1, none⟩,
    ⟨some 15, .alloc 60, none⟩,
    ⟨none, .store 60 (.tmp 15) (.tmp 100), none⟩,
    ⟨some 16, .assign (.tmp 101), none⟩])
 (.seq (.reg false [⟨some 102, .load 69 (.tmp 14), none⟩,
    ⟨some 17, .alloc 69, none⟩,
    ⟨none, .store 69 (.tmp 17) (.tmp 102), none⟩])
 (.seq (.reg false [⟨some 103, .load 54 (.tmp 7), none⟩,
    ⟨some 104, .load 57 (.tmp 8), none⟩,
    ⟨some 105, .move (.tmp 1), none⟩,
    ⟨some 106, .call { callee := .value (.func 24), args := #[.tmp 103, .tmp 104, .tmp 105], argTypes := #[54, 57, 22] }, none⟩,
    ⟨some 18, .assign (.tmp 106), none⟩])
 (.seq (.reg false [⟨some 107, .move (.tmp 18), none⟩,
    ⟨some 108, .move (.tmp 18), none⟩,
    ⟨some 109, .call { callee := .value (.func 22), args := #[.tmp 107, .tmp 108], argTypes := #[3, 3] }, none⟩,
    ⟨some 110, .fieldAddr 69 (.tmp 17) 1, none⟩,
    ⟨none, .store 60 (.tmp 110) (.tmp 109), none⟩])
 (.seq (.reg false [⟨some 112, .load 69 (.tmp 17), none⟩,
    ⟨some 113, .call { callee := .value (.func 23), args := #[.tmp 112], argTypes := #[69] }, none⟩,
    ⟨some 111, .move (.tmp 113), none⟩,
    ⟨some 114, .extract (.tmp 111) 0, none⟩,
    ⟨some 115, .extract (.tmp 111) 1, none⟩,
    ⟨some 19, .alloc 60, none⟩,
    ⟨none, .store 60 (.tmp 19) (.tmp 114), none⟩,
    ⟨some 20, .assign (.tmp 115), none⟩])
 (.seq (.reg false [⟨some 116, .build 57 #[], none⟩,
    ⟨some 21, .alloc 57, none⟩,
    ⟨none, .store 57 (.tmp 21) (.tmp 116), none⟩])
 (.seq (.seq (.reg false [⟨some 117, .fieldAddr 57 (.tmp 8) 0, none⟩,
     ⟨some 118, .load 32 (.tmp 117), none⟩,
     ⟨some 119, .call { callee := .builtin .len, args := #[.tmp 118], argTypes := #[32] }, none⟩,
     ⟨some 120, .binOp .sub 3 (.tmp 119) (.const (.int .i64 1)) 3, none⟩,
     ⟨some 22, .assign (.tmp 120), none⟩])
  (.block 0 (.loop (.seq (.seq (.reg false [⟨some 121, .move (.tmp 22), none⟩,
        ⟨some 122, .binOp .geq 3 (.tmp 121) (.const (.int .i64 0)) 3, none⟩])
     (.cond (.tmp 122)
      .skip
      (.exit 0)))
    (.seq (.block 1 (.reg true [⟨some 125, .fieldAddr 57 (.tmp 21) 0, none⟩,
        ⟨some 126, .load 32 (.tmp 125), none⟩,
        ⟨some 127, .fieldAddr 57 (.tmp 8) 0, none⟩,
        ⟨some 128, .load 32 (.tmp 127), none⟩,
        ⟨some 129, .move (.tmp 22), none⟩,
        ⟨some 130, .indexAddr 32 (.tmp 128) (.tmp 129), none⟩,
        ⟨some 131, .load 3 (.tmp 130), none⟩,
        ⟨some 132, .buildSlice 32 1 #[(0, (.tmp 131))], none⟩,
        ⟨some 133, .call { callee := .builtin .append, args := #[.tmp 126, .tmp 132], argTypes := #[32, 32] }, none⟩,
        ⟨some 134, .fieldAddr 57 (.tmp 21) 0, none⟩,
        ⟨none, .store 32 (.tmp 134) (.tmp 133), none⟩]))
    (.reg false [⟨some 123, .move (.tmp 22), none⟩,
      ⟨some 124, .binOp .sub 3 (.tmp 123) (.const (.int .i64 1)) 3, none⟩,
      ⟨some 22, .assign (.tmp 124), none⟩]))))))
 (.seq (.seq (.reg false [⟨some 135, .fieldAddr 57 (.tmp 8) 1, none⟩,
     ⟨some 136, .load 32 (.tmp 135), none⟩,
     ⟨some 137, .call { callee := .builtin .len, args := #[.tmp 136], argTypes := #[32] }, none⟩,
     ⟨some 138, .binOp .sub 3 (.tmp 137) (.const (.int .i64 1)) 3, none⟩,
     ⟨some 23, .assign (.tmp 138), none⟩])
  (.block 2 (.loop (.seq (.seq (.reg false [⟨some 139, .move (.tmp 23), none⟩,
        ⟨some 140, .binOp .geq 3 (.tmp 139) (.const (.int .i64 0)) 3, none⟩])
     (.cond (.tmp 140)
      .skip
      (.exit 2)))
    (.seq (.block 3 (.reg true [⟨some 143, .fieldAddr 57 (.tmp 21) 1, none⟩,
        ⟨some 144, .load 32 (.tmp 143), none⟩,
        ⟨some 145, .fieldAddr 57 (.tmp 8) 1, none⟩,
        ⟨some 146, .load 32 (.tmp 145), none⟩,
        ⟨some 147, .move (.tmp 23), none⟩,
        ⟨some 148, .indexAddr 32 (.tmp 146) (.tmp 147), none⟩,
        ⟨some 149, .load 3 (.tmp 148), none⟩,
        ⟨some 150, .buildSlice 32 1 #[(0, (.tmp 149))], none⟩,
        ⟨some 151, .call { callee := .builtin .append, args := #[.tmp 144, .tmp 150], argTypes := #[32, 32] }, none⟩,
        ⟨some 152, .fieldAddr 57 (.tmp 21) 1, none⟩,
        ⟨none, .store 32 (.tmp 152) (.tmp 151), none⟩]))
    (.reg false [⟨some 141, .move (.tmp 23), none⟩,
      ⟨some 142, .binOp .sub 3 (.tmp 141) (.const (.int .i64 1)) 3, none⟩,
      ⟨some 23, .assign (.tmp 142), none⟩]))))))
 (.seq (.ord (.op ⟨some 154, .load 54 (.tmp 7), none⟩ (.op ⟨some 155, .call { callee := .value (.func 18), args := #[.tmp 154], argTypes := #[54] }, none⟩ (.op ⟨some 156, .load 57 (.tmp 21), none⟩ (.op ⟨some 157, .call { callee := .value (.func 19), args := #[.tmp 156], argTypes := #[57] }, none⟩ (.op ⟨some 158, .call { callee := .value (.func 17), args := #[.tmp 155, .tmp 157], argTypes := #[54, 57] }, none⟩ (.op ⟨some 153, .move (.tmp 158), none⟩ (.op ⟨some 159, .extract (.tmp 153) 0, none⟩ (.op ⟨some 24, .alloc 60, none⟩ (.op ⟨some 25, .alloc 60, none⟩ (.alt (.op ⟨some 160, .extract (.tmp 153) 1, none⟩ (.alt (.op ⟨some 161, .extract (.tmp 153) 2, none⟩ (.op ⟨none, .store 60 (.tmp 24) (.tmp 159), none⟩ (.op ⟨none, .store 60 (.tmp 25) (.tmp 160), none⟩ (.op ⟨some 26, .assign (.tmp 161), none⟩ .done))))
 (.op ⟨none, .store 60 (.tmp 24) (.tmp 159), none⟩ (.alt (.op ⟨some 161, .extract (.tmp 153) 2, none⟩ (.op ⟨none, .store 60 (.tmp 25) (.tmp 160), none⟩ (.op ⟨some 26, .assign (.tmp 161), none⟩ .done)))
 (.op ⟨none, .store 60 (.tmp 25) (.tmp 160), none⟩ (.op ⟨some 161, .extract (.tmp 153) 2, none⟩ (.op ⟨some 26, .assign (.tmp 161), none⟩ .done)))))))
 (.alt (.op ⟨some 161, .extract (.tmp 153) 2, none⟩ (.alt (.op ⟨some 160, .extract (.tmp 153) 1, none⟩ (.op ⟨none, .store 60 (.tmp 24) (.tmp 159), none⟩ (.op ⟨none, .store 60 (.tmp 25) (.tmp 160), none⟩ (.op ⟨some 26, .assign (.tmp 161), none⟩ .done))))
 (.op ⟨none, .store 60 (.tmp 24) (.tmp 159), none⟩ (.op ⟨some 160, .extract (.tmp 153) 1, none⟩ (.op ⟨none, .store 60 (.tmp 25) (.tmp 160), none⟩ (.op ⟨some 26, .assign (.tmp 161), none⟩ .done))))))
 (.op ⟨none, .store 60 (.tmp 24) (.tmp 159), none⟩ (.op ⟨some 160, .extract (.tmp 153) 1, none⟩ (.alt (.op ⟨some 161, .extract (.tmp 153) 2, none⟩ (.op ⟨none, .store 60 (.tmp 25) (.tmp 160), none⟩ (.op ⟨some 26, .assign (.tmp 161), none⟩ .done)))
 (.op ⟨none, .store 60 (.tmp 25) (.tmp 160), none⟩ (.op ⟨some 161, .extract (.tmp 153) 2, none⟩ (.op ⟨some 26, .assign (.tmp 161), none⟩ .done))))))))))))))))))
 (.seq (.reg false [⟨some 163, .load 54 (.tmp 7), none⟩,
    ⟨some 164, .load 57 (.tmp 21), none⟩,
    ⟨some 165, .call { callee := .value (.func 20), args := #[.tmp 163, .tmp 164], argTypes := #[54, 57] }, none⟩,
    ⟨some 162, .move (.tmp 165), none⟩,
    ⟨some 166, .extract (.tmp 162) 0, none⟩,
    ⟨some 167, .extract (.tmp 162) 1, none⟩,
    ⟨some 27, .assign (.tmp 166), none⟩,
    ⟨some 28, .assign (.tmp 167), none⟩])
 (.seq (.reg false [⟨some 168, .move (.tmp 16), none⟩,
    ⟨some 169, .binOp .eql 34 (.tmp 168) (.const (.int .i64 0)) 34, none⟩,
    ⟨some 170, .move (.tmp 169), none⟩,
    ⟨some 171, .move (.tmp 20), some (170, true)⟩,
    ⟨some 172, .binOp .eql 34 (.tmp 171) (.const (.int .i64 0)) 34, some (170, true)⟩,
    ⟨some 173, .pick (.tmp 170) (.tmp 172) (.const (.bool false)), none⟩,
    ⟨some 174, .move (.tmp 173), none⟩,
    ⟨some 175, .move (.tmp 26), some (174, true)⟩,
    ⟨some 176, .binOp .eql 34 (.tmp 175) (.const (.int .i64 0)) 34, some (174, true)⟩,
    ⟨some 177, .pick (.tmp 174) (.tmp 176) (.const (.bool false)), none⟩,
    ⟨some 178, .move (.tmp 177), none⟩,
    ⟨some 179, .move (.tmp 28), some (178, true)⟩,
    ⟨some 180, .binOp .eql 34 (.tmp 179) (.const (.int .i64 0)) 34, some (178, true)⟩,
    ⟨some 181, .pick (.tmp 178) (.tmp 180) (.const (.bool false)), none⟩,
    ⟨some 182, .move (.tmp 181), none⟩,
    ⟨some 183, .fieldAddr 60 (.tmp 19) 0, some (182, true)⟩,
    ⟨some 184, .load 3 (.tmp 183), some (182, true)⟩,
    ⟨some 185, .fieldAddr 60 (.tmp 19) 1, some (182, true)⟩,
    ⟨some 186, .load 3 (.tmp 185), some (182, true)⟩,
    ⟨some 187, .binOp .eql 3 (.tmp 184) (.tmp 186) 3, some (182, true)⟩,
    ⟨some 188, .pick (.tmp 182) (.tmp 187) (.const (.bool false)), none⟩,
    ⟨some 189, .move (.tmp 188), none⟩,
    ⟨some 190, .fieldAddr 60 (.tmp 19) 0, some (189, true)⟩,
    ⟨some 191, .load 3 (.tmp 190), some (189, true)⟩,
    ⟨some 192, .fieldAddr 60 (.tmp 15) 0, some (189, true)⟩,
    ⟨some 193, .load 3 (.tmp 192), some (189, true)⟩,
    ⟨some 194, .binOp .geq 3 (.tmp 191) (.tmp 193) 3, some (189, true)⟩,
    ⟨some 195, .pick (.tmp 189) (.tmp 194) (.const (.bool false)), none⟩,
    ⟨some 196, .move (.tmp 195), none⟩,
    ⟨some 197, .fieldAddr 60 (.tmp 19) 1, some (196, true)⟩,
    ⟨some 198, .load 3 (.tmp 197), some (196, true)⟩,
    ⟨some 199, .fieldAddr 60 (.tmp 15) 1, some (196, true)⟩,
    ⟨some 200, .load 3 (.tmp 199), some (196, true)⟩,
    ⟨some 201, .binOp .leq 3 (.tmp 198) (.tmp 200) 3, some (196, true)⟩,
    ⟨some 202, .pick (.tmp 196) (.tmp 201) (.const (.bool false)), none⟩,
    ⟨some 203, .move (.tmp 202), none⟩,
    ⟨some 204, .load 60 (.tmp 25), some (203, true)⟩,
    ⟨some 205, .load 60 (.tmp 10), some (203, true)⟩,
    ⟨some 206, .binOp .eql 60 (.tmp 204) (.tmp 205) 60, some (203, true)⟩,
    ⟨some 207, .pick (.tmp 203) (.tmp 206) (.const (.bool false)), none⟩,
    ⟨some 208, .move (.tmp 207), none⟩,
    ⟨some 209, .move (.tmp 27), some (208, true)⟩,
    ⟨some 210, .move (.tmp 12), some (208, true)⟩,
    ⟨some 211, .binOp .eql 3 (.tmp 209) (.tmp 210) 3, some (208, true)⟩,
    ⟨some 212, .pick (.tmp 208) (.tmp 211) (.const (.bool false)), none⟩,
    ⟨some 213, .move (.tmp 212), none⟩,
    ⟨some 214, .call { callee := .value (.func 21), args := #[], argTypes := #[] }, some (213, true)⟩,
    ⟨some 215, .pick (.tmp 213) (.tmp 214) (.const (.bool false)), none⟩,
    ⟨some 216, .move (.tmp 215), none⟩,
    ⟨some 217, .call { callee := .value (.func 25), args := #[], argTypes := #[] }, some (216, true)⟩,
    ⟨some 218, .pick (.tmp 216) (.tmp 217) (.const (.bool false)), none⟩,
    ⟨some 6, .assign (.tmp 218), none⟩])
 .ret)))))))))))))))))⟩
def s5 : SF := ⟨265, [.tmp 6],
 (.seq (.reg false [⟨some 3, .box 49 (.tmp 0), none⟩,
    ⟨some 4, .box 75 (.tmp 1), none⟩,
    ⟨some 6, .assign (.const (.bool false)), none⟩])
 (.seq (.reg true [⟨some 36, .load 49 (.tmp 3), none⟩,
    ⟨some 37, .call { callee := .value (.func 15), args := #[.tmp 36], argTypes := #[49] }, none⟩,
    ⟨some 38, .load 49 (.tmp 3), none⟩,
    ⟨some 39, .call { callee := .value (.func 16), args := #[.tmp 38], argTypes := #[49] }, none⟩,
    ⟨some 7, .alloc 54, none⟩,
    ⟨some 8, .alloc 57, none⟩,
    ⟨none, .store 54 (.tmp 7) (.tmp 37), none⟩,
    ⟨none, .store 57 (.tmp 8) (.tmp 39), none⟩])
 (.seq (.reg false [⟨some 41, .load 75 (.tmp 4), none⟩,
    ⟨some 42, .call { callee := .value (.func 26), args := #[.tmp 41], argTypes := #[75] }, none⟩,
    ⟨some 40, .move (.tmp 42), none⟩,
    ⟨some 43, .extract (.tmp 40) 0, none⟩,
    ⟨some 44, .extract (.tmp 40) 1, none⟩,
    ⟨some 45, .extract (.tmp 40) 2, none⟩,
    ⟨some 9, .alloc 77, none⟩,
    ⟨some 10, .alloc 60, none⟩,
    ⟨none, .store 77 (.tmp 9) (.tmp 43), none⟩,
    ⟨none, .store 60 (.tmp 10) (.tmp 44), none⟩,
    ⟨some 11, .assign (.tmp 45), none⟩])
 (.seq (.reg true [⟨some 47, .load 77 (.tmp 9), none⟩,
    ⟨some 48, .load 60 (.tmp 10), none⟩,
    ⟨some 49, .move (.tmp 11), none⟩,
    ⟨some 50, .call { callee := .value (.func 28), args := #[.tmp 49], argTypes := #[78] }, none⟩,
    ⟨some 51, .call { callee := .value (.func 27), args := #[.tmp 47, .tmp 48, .tmp 50], argTypes := #[77, 60, 78] }, none⟩,
    ⟨some 46, .move (.tmp 51), none⟩,
    ⟨some 52, .extract (.tmp 46) 0, none⟩,
    ⟨some 53, .extract (.tmp 46) 1, none⟩,
    ⟨some 12, .assign (.tmp 52), none⟩,
    ⟨some 13, .assign (.tmp 53), none⟩])
 (.seq (.seq (.reg false [⟨some 54, .move (.tmp 13), none⟩,
     ⟨some 55, .binOp .neq 34 (.tmp 54) (.const (.int .i64 0)) 34, none⟩,
     ⟨some 56, .move (.tmp 55), none⟩,
     ⟨some 57, .move (.tmp 12), some (56, false)⟩,
     ⟨some 58, .call { callee := .builtin .len, args := #[.tmp 57], argTypes := #[81] }, some (56, false)⟩,
     ⟨some 59, .move (.tmp 11), some (56, false)⟩,
     ⟨some 60, .call { callee := .builtin .len, args := #[.tmp 59], argTypes := #[78] }, some (56, false)⟩,
     ⟨some 61, .binOp .neq 3 (.tmp 58) (.tmp 60) 3, some (56, false)⟩,
     ⟨some 62, .pick (.tmp 56) (.const (.bool true)) (.tmp 61), none⟩])
  (.cond (.tmp 62)
   (.seq (.reg false [⟨some 6, .assign (.const (.bool false)), none⟩])
    .ret)
   .skip))
 (.seq (.reg true [⟨some 63, .load 60 (.tmp 10), none⟩,
    ⟨some 64, .load 77 (.tmp 9), none⟩,
    ⟨some 65, .load 60 (.tmp 10), none⟩,
    ⟨some 66, .move (.tmp 11), none⟩,
    ⟨some 67, .move (.tmp 2), none⟩,
    ⟨some 68, .call { callee := .value (.func 29), args := #[.tmp 64, .tmp 65, .tmp 66, .tmp 67], argTypes := #[77, 60, 78, 22] }, none⟩,
    ⟨some 14, .alloc 60, none⟩,
    ⟨none, .store 60 (.tmp 14) (.tmp 63), none⟩,
    ⟨some 15, .assign (.tmp 68), none⟩])
 (.seq (.seq (.reg false [⟨some 69, .move (.tmp 12), none⟩,
     ⟨some 70, .call { callee := .builtin .len, args := #[.tmp 69], argTypes := #[81] }, none⟩,
     ⟨some 71, .binOp .gtr 3 (.tmp 70) (.const (.int .i64 0)) 3, none⟩])
  (.cond (.tmp 71)
   (.reg false [⟨some 72, .move (.tmp 12), none⟩,
      ⟨some 73, .move (.tmp 12), none⟩,
      ⟨some 74, .call { callee := .builtin .len, args := #[.tmp 73], argTypes := #[81] }, none⟩,
      ⟨some 75, .binOp .sub 3 (.tmp 74) (.const (.int .i64 1)) 3, none⟩,
      ⟨some 76, .indexAddr 81 (.tmp 72) (.tmp 75), none⟩,
      ⟨some 77, .load 60 (.tmp 76), none⟩,
      ⟨none, .store 60 (.tmp 14) (.tmp 77), none⟩])
   .skip))
 (.seq (.seq (.reg false [⟨some 78, .fieldAddr 60 (.tmp 14) 0, none⟩,
     ⟨some 79, .load 3 (.tmp 78), none⟩,
     ⟨some 80, .binOp .lss 3 (.tmp 79) (.const (.int .i64 0)) 3, none⟩,
     ⟨some 81, .move (.tmp 80), none⟩,
     ⟨some 82, .fieldAddr 60 (.tmp 14) 1, some (81, false)⟩,
     ⟨some 83, .load 3 (.tmp 82), some (81, false)⟩,
     ⟨some 84, .binOp .gtr 3 (.tmp 83) (.const (.int .i64 200)) 3, some (81, false)⟩,
     ⟨some 85, .pick (.tmp 81) (.const (.bool true)) (.tmp 84), none⟩,
     ⟨some 86, .move (.tmp 85), none⟩,
     ⟨some 87, .move (.tmp 15), some (86, false)⟩,
     ⟨some 88, .load 60 (.tmp 14), some (86, false)⟩,
     ⟨some 89, .call { callee := .value (.func 30), args := #[.tmp 87, .tmp 88], argTypes := #[3, 60] }, some (86, false)⟩,
     ⟨some 90, .unOp .not 4 (.tmp 89), some (86, false)⟩,
     ⟨some 91, .pick (.tmp 86) (.const (.bool true)) (.tmp 90), none⟩])
  (.cond (.tmp 91)
   (.seq (.reg false [⟨some 6, .assign (.const (.bool false)), none⟩])
    .ret)
   .skip))
 (.seq (.reg true [⟨some 92, .load 54 (.tmp 7), none⟩,
    ⟨some 93, .call { callee := .value (.func 18), args := #[.tmp 92], argTypes := #[54] }, none⟩,
    ⟨some 94, .load 54 (.tmp 7), none⟩,
    ⟨some 95, .call { callee := .value (.func 18), args := #[.tmp 94], argTypes := #[54] }, none⟩,
    ⟨some 16, .alloc 54, none⟩,
    ⟨some 17, .alloc 54, none⟩,
    ⟨none, .store 54 (.tmp 16) (.tmp 93), none⟩,
    ⟨none, .store 54 (.tmp 17) (.tmp 95), none⟩])
 (.seq (.seq (.reg false [⟨some 18, .assign (.const (.int .i64 0)), none⟩])
  (.block 0 (.loop (.seq (.seq (.reg false [⟨some 96, .move (.tmp 18), none⟩,
        ⟨some 97, .fieldAddr 54 (.tmp 7) 0, none⟩,
        ⟨some 98, .load 51 (.tmp 97), none⟩,
        ⟨some 99, .call { callee := .builtin .len, args := #[.tmp 98], argTypes := #[51] }, none⟩,
        ⟨some 100, .binOp .lss 3 (.tmp 96) (.tmp 99) 3, none⟩])
     (.cond (.tmp 100)
      .skip
      (.exit 0)))
    (.seq (.block 1 (.ord (.op ⟨some 103, .fieldAddr 54 (.tmp 16) 0, none⟩ (.op ⟨some 104, .load 51 (.tmp 103), none⟩ (.op ⟨some 105, .move (.tmp 18), none⟩ (.op ⟨some 109, .load 60 (.tmp 14), none⟩ (.op ⟨some 110, .move (.tmp 15), none⟩ (.op ⟨some 111, .move (.tmp 15), none⟩ (.op ⟨some 112, .call { callee := .value (.func 22), args := #[.tmp 110, .tmp 111], argTypes := #[3, 3] }, none⟩ (.op ⟨some 113, .indexAddr 51 (.tmp 104) (.tmp 105), none⟩ (.op ⟨some 114, .fieldAddr 89 (.tmp 113) 3, none⟩ (.alt (.op ⟨some 106, .fieldAddr 54 (.tmp 17) 0, none⟩ (.alt (.op ⟨some 107, .load 51 (.tmp 106), none⟩ (.alt (.op ⟨some 108, .move (.tmp 18), none⟩ (.op ⟨none, .store 60 (.tmp 114) (.tmp 109), none⟩ (.op ⟨some 115, .indexAddr 51 (.tmp 107) (.tmp 108), none⟩ (.op ⟨some 116, .fieldAddr 89 (.tmp 115) 3, none⟩ (.op ⟨none, .store 60 (.tmp 116) (.tmp 112), none⟩ .done)))))
 (.op ⟨none, .store 60 (.tmp 114) (.tmp 109), none⟩ (.op ⟨some 108, .move (.tmp 18), none⟩ (.op ⟨some 115, .indexAddr 51 (.tmp 107) (.tmp 108), none⟩ (.op ⟨some 116, .fieldAddr 89 (.tmp 115) 3, none⟩ (.op ⟨none, .store 60 (.tmp 116) (.tmp 112), none⟩ .done)))))))
 (.alt (.op ⟨some 108, .move (.tmp 18), none⟩ (.alt (.op ⟨some 107, .load 51 (.tmp 106), none⟩ (.op ⟨none, .store 60 (.tmp 114) (.tmp 109), none⟩ (.op ⟨some 115, .indexAddr 51 (.tmp 107) (.tmp 108), none⟩ (.op ⟨some 116, .fieldAddr 89 (.tmp 115) 3, none⟩ (.op ⟨none, .store 60 (.tmp 116) (.tmp 112), none⟩ .done)))))
 (.op ⟨none, .store 60 (.tmp 114) (.tmp 109), none⟩ (.op ⟨some 107, .load 51 (.tmp 106), none⟩ (.op ⟨some 115, .indexAddr 51 (.tmp 107) (.tmp 108), none⟩ (.op ⟨some 116, .fieldAddr 89 (.tmp 115) 3, none⟩ (.op ⟨none, .store 60 (.tmp 116) (.tmp 112), none⟩ .done)))))))
 (.op ⟨none, .store 60 (.tmp 114) (.tmp 109), none⟩ (.op ⟨some 107, .load 51 (.tmp 106), none⟩ (.op ⟨some 108, .move (.tmp 18), none⟩ (.op ⟨some 115, .indexAddr 51 (.tmp 107) (.tmp 108), none⟩ (.op ⟨some 116, .fieldAddr 89 (.tmp 115) 3, none⟩ (.op ⟨none, .store 60 (.tmp 116) (.tmp 112), none⟩ .done)))))))))
 (.alt (.op ⟨some 108, .move (.tmp 18), none⟩ (.alt (.op ⟨some 106, .fieldAddr 54 (.tmp 17) 0, none⟩ (.alt (.op ⟨some 107, .load 51 (.tmp 106), none⟩ (.op ⟨none, .store 60 (.tmp 114) (.tmp 109), none⟩ (.op ⟨some 115, .indexAddr 51 (.tmp 107) (.tmp 108), none⟩ (.op ⟨some 116, .fieldAddr 89 (.tmp 115) 3, none⟩ (.op ⟨none, .store 60 (.tmp 116) (.tmp 112), none⟩ .done)))))
 (.op ⟨none, .store 60 (.tmp 114) (.tmp 109), none⟩ (.op ⟨some 107, .load 51 (.tmp 106), none⟩ (.op ⟨some 115, .indexAddr 51 (.tmp 107) (.tmp 108), none⟩ (.op ⟨some 116, .fieldAddr 89 (.tmp 115) 3, none⟩ (.op ⟨none, .store 60 (.tmp 116) (.tmp 112), none⟩ .done)))))))
 (.op ⟨none, .store 60 (.tmp 114) (.tmp 109), none⟩ (.op ⟨some 106, .fieldAddr 54 (.tmp 17) 0, none⟩ (.op ⟨some 107, .load 51 (.tmp 106), none⟩ (.op ⟨some 115, .indexAddr 51 (.tmp 107) (.tmp 108), none⟩ (.op ⟨some 116, .fieldAddr 89 (.tmp 115) 3, none⟩ (.op ⟨none, .store 60 (.tmp 116) (.tmp 112), none⟩ .done))))))))
 (.op ⟨none, .store 60 (.tmp 114) (.tmp 109), none⟩ (.op ⟨some 106, .fieldAddr 54 (.tmp 17) 0, none⟩ (.op ⟨some 107, .load 51 (.tmp 106), none⟩ (.op ⟨some 108, .move (.tmp 18), none⟩ (.op ⟨some 115, .indexAddr 51 (.tmp 107) (.tmp 108), none⟩ (.op ⟨some 116, .fieldAddr 89 (.tmp 115) 3, none⟩ (.op ⟨none, .store 60 (.tmp 116) (.tmp 112), none⟩ .done))))))))))))))))))))
    (.reg false [⟨some 101, .move (.tmp 18), none⟩,
      ⟨some 102, .binOp .add 3 (.tmp 101) (.const (.int .i64 1)) 3, none⟩,
      ⟨some 18, .assign (.tmp 102), none⟩]))))))
 (.seq (.ord (.op ⟨some 118, .load 54 (.tmp 16), none⟩ (.op ⟨some 119, .call { callee := .value (.func 18), args := #[.tmp 118], argTypes := #[54] }, none⟩ (.op ⟨some 120, .load 57 (.tmp 8), none⟩ (.op ⟨some 121, .call { callee := .value (.func 19), args := #[.tmp 120], argTypes := #[57] }, none⟩ (.op ⟨some 122, .call { callee := .value (.func 17), args := #[.tmp 119, .tmp 121], argTypes := #[54, 57] }, none⟩ (.op ⟨some 117, .move (.tmp 122), none⟩ (.op ⟨some 123, .extract (.tmp 117) 0, none⟩ (.op ⟨some 19, .alloc 60, none⟩ (.op ⟨some 20, .alloc 60, none⟩ (.alt (.op ⟨some 124, .extract (.tmp 117) 1, none⟩ (.alt (.op ⟨some 125, .extract (.tmp 117) 2, none⟩ (.op ⟨none, .store 60 (.tmp 19) (.tmp 123), none⟩ (.op ⟨none, .store 60 (.tmp 20) (.tmp 124), none⟩ (.op ⟨some 21, .assign (.tmp 125), none⟩ .done))))
 (.op ⟨none, .store 60 (.tmp 19) (.tmp 123), none⟩ (.alt (.op ⟨some 125, .extract (.tmp 117) 2, none⟩ (.op ⟨none, .store 60 (.tmp 20) (.tmp 124), none⟩ (.op ⟨some 21, .assign (.tmp 125), none⟩ .done)))
 (.op ⟨none, .store 60 (.tmp 20) (.tmp 124), none⟩ (.op ⟨some 125, .extract (.tmp 117) 2, none⟩ (.op ⟨some 21, .assign (.tmp 125), none⟩ .done)))))))
 (.alt (.op ⟨some 125, .extract (.tmp 117) 2, none⟩ (.alt (.op ⟨some 124, .extract (.tmp 117) 1, none⟩ (.op ⟨none, .store 60 (.tmp 19) (.tmp 123), none⟩ (.op ⟨none, .store 60 (.tmp 20) (.tmp 124), none⟩ (.op ⟨some 21, .assign (.tmp 125), none⟩ .done))))
 (.op ⟨none, .store 60 (.tmp 19) (.tmp 123), none⟩ (.op ⟨some 124, .extract (.tmp 117) 1, none⟩ (.op ⟨none, .store 60 (.tmp 20) (.tmp 124), none⟩ (.op ⟨some 21, .assign (.tmp 125), none⟩ .done))))))
 (.op ⟨none, .store 60 (.tmp 19) (.tmp 123), none⟩ (.op ⟨some 124, .extract (.tmp 117) 1, none⟩ (.alt (.op ⟨some 125, .extract (.tmp 117) 2, none⟩ (.op ⟨none, .store 60 (.tmp 20) (.tmp 124), none⟩ (.op ⟨some 21, .assign (.tmp 125), none⟩ .done)))
 (.op ⟨none, .store 60 (.tmp 20) (.tmp 124), none⟩ (.op ⟨some 125, .extract (.tmp 117) 2, none⟩ (.op ⟨some 21, .assign (.tmp 125), none⟩ .done))))))))))))))))))
 (.seq (.ord (.op ⟨some 127, .load 54 (.tmp 17), none⟩ (.op ⟨some 128, .load 57 (.tmp 8), none⟩ (.op ⟨some 129, .call { callee := .value (.func 19), args := #[.tmp 128], argTypes := #[57] }, none⟩ (.op ⟨some 130, .call { callee := .value (.func 17), args := #[.tmp 127, .tmp 129], argTypes := #[54, 57] }, none⟩ (.op ⟨some 126, .move (.tmp 130), none⟩ (.op ⟨some 131, .extract (.tmp 126) 0, none⟩ (.op ⟨some 22, .alloc 60, none⟩ (.op ⟨some 23, .alloc 60, none⟩ (.alt (.op ⟨some 132, .extract (.tmp 126) 1, none⟩ (.alt (.op ⟨some 133, .extract (.tmp 126) 2, none⟩ (.op ⟨none, .store 60 (.tmp 22) (.tmp 131), none⟩ (.op ⟨none, .store 60 (.tmp 23) (.tmp 132), none⟩ (.op ⟨some 24, .assign (.tmp 133), none⟩ .done))))
 (.op ⟨none, .store 60 (.tmp 22) (.tmp 131), none⟩ (.alt (.op ⟨some 133, .extract (.tmp 126) 2, none⟩ (.op ⟨none, .store 60 (.tmp 23) (.tmp 132), none⟩ (.op ⟨some 24, .assign (.tmp 133), none⟩ .done)))
 (.op ⟨none, .store 60 (.tmp 23) (.tmp 132), none⟩ (.op ⟨some 133, .extract (.tmp 126) 2, none⟩ (.op ⟨some 24, .assign (.tmp 133), none⟩ .done)))))))
 (.alt (.op ⟨some 133, .extract (.tmp 126) 2, none⟩ (.alt (.op ⟨some 132, .extract (.tmp 126) 1, none⟩ (.op ⟨none, .store 60 (.tmp 22) (.tmp 131), none⟩ (.op ⟨none, .store 60 (.tmp 23) (.tmp 132), none⟩ (.op ⟨some 24, .assign (.tmp 133), none⟩ .done))))
 (.op ⟨none, .store 60 (.tmp 22) (.tmp 131), none⟩ (.op ⟨some 132, .extract (.tmp 126) 1, none⟩ (.op ⟨none, .store 60 (.tmp 23) (.tmp 132), none⟩ (.op ⟨some 24, .assign (.tmp 133), none⟩ .done))))))
 (.op ⟨none, .store 60 (.tmp 22) (.tmp 131), none⟩ (.op ⟨some 132, .extract (.tmp 126) 1, none⟩ (.alt (.op ⟨some 133, .extract (.tmp 126) 2, none⟩ (.op ⟨none, .store 60 (.tmp 23) (.tmp 132), none⟩ (.op ⟨some 24, .assign (.tmp 133), none⟩ .done)))
 (.op ⟨none, .store 60 (.tmp 23) (.tmp 132), none⟩ (.op ⟨some 133, .extract (.tmp 126) 2, none⟩ (.op ⟨some 24, .assign (.tmp 133), none⟩ .done)))))))))))))))))
 (.seq (.ord (.op ⟨some 135, .load 54 (.tmp 7), none⟩ (.op ⟨some 136, .call { callee := .value (.func 18), args := #[.tmp 135], argTypes := #[54] }, none⟩ (.op ⟨some 137, .load 57 (.tmp 8), none⟩ (.op ⟨some 138, .call { callee := .value (.func 19), args := #[.tmp 137], argTypes := #[57] }, none⟩ (.op ⟨some 139, .call { callee := .value (.func 17), args := #[.tmp 136, .tmp 138], argTypes := #[54, 57] }, none⟩ (.op ⟨some 134, .move (.tmp 139), none⟩ (.op ⟨some 140, .extract (.tmp 134) 0, none⟩ (.op ⟨some 25, .alloc 60, none⟩ (.op ⟨some 26, .alloc 60, none⟩ (.alt (.op ⟨some 141, .extract (.tmp 134) 1, none⟩ (.alt (.op ⟨some 142, .extract (.tmp 134) 2, none⟩ (.op ⟨none, .store 60 (.tmp 25) (.tmp 140), none⟩ (.op ⟨none, .store 60 (.tmp 26) (.tmp 141), none⟩ (.op ⟨some 27, .assign (.tmp 142), none⟩ .done))))
 (.op ⟨none, .store 60 (.tmp 25) (.tmp 140), none⟩ (.alt (.op ⟨some 142, .extract (.tmp 134) 2, none⟩ (.op ⟨none, .store 60 (.tmp 26) (.tmp 141), none⟩ (.op ⟨some 27, .assign (.tmp 142), none⟩ .done)))
 (.op ⟨none, .store 60 (.tmp 26) (.tmp 141), none⟩ (.op ⟨some 142, .extract (.tmp 134) 2, none⟩ (.op ⟨some 27, .assign (.tmp 142), none⟩ .done)))))))
 (.alt (.op ⟨some 142, .extract (.tmp 134) 2, none⟩ (.alt (.op ⟨some 141, .extract (.tmp 134) 1, none⟩ (.op ⟨none, .store 60 (.tmp 25) (.tmp 140), none⟩ (.op ⟨none, .store 60 (.tmp 26) (.tmp 141), none⟩ (.op ⟨some 27, .assign (.tmp 142), none⟩ .done))))
 (.op ⟨none, .store 60 (.tmp 25) (.tmp 140), none⟩ (.op ⟨some 141, .extract (.tmp 134) 1, none⟩ (.op ⟨none, .store 60 (.tmp 26) (.tmp 141), none⟩ (.op ⟨some 27, .assign (.tmp 142), none⟩ .done))))))
 (.op ⟨none, .store 60 (.tmp 25) (.tmp 140), none⟩ (.op ⟨some 141, .extract (.tmp 134) 1, none⟩ (.alt (.op ⟨some 142, .extract (.tmp 134) 2, none⟩ (.op ⟨none, .store 60 (.tmp 26) (.tmp 141), none⟩ (.op ⟨some 27, .assign (.tmp 142), none⟩ .done)))
 (.op ⟨none, .store 60 (.tmp 26) (.tmp 141), none⟩ (.op ⟨some 142, .extract (.tmp 134) 2, none⟩ (.op ⟨some 27, .assign (.tmp 142), none⟩ .done))))))))))))))))))
 (.seq (.ord (.op ⟨some 144, .load 54 (.tmp 7), none⟩ (.op ⟨some 145, .call { callee := .value (.func 18), args := #[.tmp 144], argTypes := #[54] }, none⟩ (.op ⟨some 146, .load 57 (.tmp 8), none⟩ (.op ⟨some 147, .call { callee := .value (.func 19), args := #[.tmp 146], argTypes := #[57] }, none⟩ (.op ⟨some 148, .call { callee := .value (.func 31), args := #[.tmp 145, .tmp 147], argTypes := #[54, 57] }, none⟩ (.op ⟨some 143, .move (.tmp 148), none⟩ (.op ⟨some 149, .extract (.tmp 143) 0, none⟩ (.op ⟨some 28, .alloc 91, none⟩ (.alt (.op ⟨some 150, .extract (.tmp 143) 1, none⟩ (.op ⟨none, .store 91 (.tmp 28) (.tmp 149), none⟩ (.op ⟨some 29, .assign (.tmp 150), none⟩ .done)))
 (.op ⟨none, .store 91 (.tmp 28) (.tmp 149), none⟩ (.op ⟨some 150, .extract (.tmp 143) 1, none⟩ (.op ⟨some 29, .assign (.tmp 150), none⟩ .done)))))))))))))
 (.seq (.ord (.op ⟨some 152, .load 54 (.tmp 16), none⟩ (.op ⟨some 153, .call { callee := .value (.func 18), args := #[.tmp 152], argTypes := #[54] }, none⟩ (.op ⟨some 154, .load 57 (.tmp 8), none⟩ (.op ⟨some 155, .call { callee := .value (.func 19), args := #[.tmp 154], argTypes := #[57] }, none⟩ (.op ⟨some 156, .call { callee := .value (.func 31), args := #[.tmp 153, .tmp 155], argTypes := #[54, 57] }, none⟩ (.op ⟨some 151, .move (.tmp 156), none⟩ (.op ⟨some 157, .extract (.tmp 151) 0, none⟩ (.op ⟨some 30, .alloc 91, none⟩ (.alt (.op ⟨some 158, .extract (.tmp 151) 1, none⟩ (.op ⟨none, .store 91 (.tmp 30) (.tmp 157), none⟩ (.op ⟨some 31, .assign (.tmp 158), none⟩ .done)))
 (.op ⟨none, .store 91 (.tmp 30) (.tmp 157), none⟩ (.op ⟨some 158, .extract (.tmp 151) 1, none⟩ (.op ⟨some 31, .assign (.tmp 158), none⟩ .done)))))))))))))
 (.seq (.reg true [⟨some 160, .load 54 (.tmp 7), none⟩,
    ⟨some 161, .load 57 (.tmp 8), none⟩,
    ⟨some 162, .call { callee := .value (.func 19), args := #[.tmp 161], argTypes := #[57] }, none⟩,
    ⟨some 163, .call { callee := .value (.func 20), args := #[.tmp 160, .tmp 162], argTypes := #[54, 57] }, none⟩,
    ⟨some 159, .move (.tmp 163), none⟩,
    ⟨some 164, .extract (.tmp 159) 0, none⟩,
    ⟨some 165, .extract (.tmp 159) 1, none⟩,
    ⟨some 32, .assign (.tmp 164), none⟩,
    ⟨some 33, .assign (.tmp 165), none⟩])
 (.seq (.reg true [⟨some 167, .load 54 (.tmp 16), none⟩,
    ⟨some 168, .load 57 (.tmp 8), none⟩,
    ⟨some 169, .call { callee := .value (.func 19), args := #[.tmp 168], argTypes := #[57] }, none⟩,
    ⟨some 170, .call { callee := .value (.func 20), args := #[.tmp 167, .tmp 169], argTypes := #[54, 57] }, none⟩,
    ⟨some 166, .move (.tmp 170), none⟩,
    ⟨some 171, .extract (.tmp 166) 0, none⟩,
    ⟨some 172, .extract (.tmp 166) 1, none⟩,
    ⟨some 34, .assign (.tmp 171), none⟩,
    ⟨some 35, .assign (.tmp 172), none⟩])
 (.seq (.seq (.reg false [⟨some 173, .move (.tmp 21), none⟩,
     ⟨some 174, .binOp .neq 34 (.tmp 173) (.const (.int .i64 0)) 34, none⟩,
     ⟨some 175, .move (.tmp 174), none⟩,
     ⟨some 176, .move (.tmp 24), some (175, false)⟩,
     ⟨some 177, .binOp .neq 34 (.tmp 176) (.const (.int .i64 0)) 34, some (175, false)⟩,
     ⟨some 178, .pick (.tmp 175) (.const (.bool true)) (.tmp 177), none⟩,
     ⟨some 179, .move (.tmp 178), none⟩,
     ⟨some 180, .move (.tmp 27), some (179, false)⟩,
     ⟨some 181, .binOp .neq 34 (.tmp 180) (.const (.int .i64 0)) 34, some (179, false)⟩,
     ⟨some 182, .pick (.tmp 179) (.const (.bool true)) (.tmp 181), none⟩,
     ⟨some 183, .move (.tmp 182), none⟩,
     ⟨some 184, .move (.tmp 29), some (183, false)⟩,
     ⟨some 185, .binOp .neq 34 (.tmp 184) (.const (.int .i64 0)) 34, some (183, false)⟩,
     ⟨some 186, .pick (.tmp 183) (.const (.bool true)) (.tmp 185), none⟩,
     ⟨some 187, .move (.tmp 186), none⟩,
     ⟨some 188, .move (.tmp 31), some (187, false)⟩,
     ⟨some 189, .binOp .neq 34 (.tmp 188) (.const (.int .i64 0)) 34, some (187, false)⟩,
     ⟨some 190, .pick (.tmp 187) (.const (.bool true)) (.tmp 189), none⟩,
     ⟨some 191, .move (.tmp 190), none⟩,
     ⟨some 192, .move (.tmp 33), some (191, false)⟩,
     ⟨some 193, .binOp .neq 34 (.tmp 192) (.const (.int .i64 0)) 34, some (191, false)⟩,
     ⟨some 194, .pick (.tmp 191) (.const (.bool true)) (.tmp 193), none⟩,
     ⟨some 195, .move (.tmp 194), none⟩,
     ⟨some 196, .move (.tmp 35), some (195, false)⟩,
     ⟨some 197, .binOp .neq 34 (.tmp 196) (.const (.int .i64 0)) 34, some (195, false)⟩,
     ⟨some 198, .pick (.tmp 195) (.const (.bool true)) (.tmp 197), none⟩,
     ⟨some 199, .move (.tmp 198), none⟩,
     ⟨some 200, .fieldAddr 91 (.tmp 28) 1, some (199, false)⟩,
     ⟨some 201, .load 3 (.tmp 200), some (199, false)⟩,
     ⟨some 202, .binOp .lss 3 (.tmp 201) (.const (.int .i64 1)) 3, some (199, false)⟩,
     ⟨some 203, .pick (.tmp 199) (.const (.bool true)) (.tmp 202), none⟩,
     ⟨some 204, .move (.tmp 203), none⟩,
     ⟨some 205, .fieldAddr 91 (.tmp 28) 1, some (204, false)⟩,
     ⟨some 206, .load 3 (.tmp 205), some (204, false)⟩,
     ⟨some 207, .binOp .gtr 3 (.tmp 206) (.const (.int .i64 268435456)) 3, some (204, false)⟩,
     ⟨some 208, .pick (.tmp 204) (.const (.bool true)) (.tmp 207), none⟩,
     ⟨some 209, .move (.tmp 208), none⟩,
     ⟨some 210, .fieldAddr 91 (.tmp 28) 0, some (209, false)⟩,
     ⟨some 211, .load 3 (.tmp 210), some (209, false)⟩,
     ⟨some 212, .binOp .lss 3 (.tmp 211) (.const (.int .i64 0)) 3, some (209, false)⟩,
     ⟨some 213, .pick (.tmp 209) (.const (.bool true)) (.tmp 212), none⟩,
     ⟨some 214, .move (.tmp 213), none⟩,
     ⟨some 215, .fieldAddr 91 (.tmp 28) 0, some (214, false)⟩,
     ⟨some 216, .load 3 (.tmp 215), some (214, false)⟩,
     ⟨some 217, .binOp .gtr 3 (.tmp 216) (.const (.int .i64 1099511627776)) 3, some (214, false)⟩,
     ⟨some 218, .pick (.tmp 214) (.const (.bool true)) (.tmp 217), none⟩])
  (.cond (.tmp 218)
   (.seq (.reg false [⟨some 6, .assign (.const (.bool false)), none⟩])
    .ret)
   .skip))
 (.seq (.reg true [⟨some 219, .fieldAddr 60 (.tmp 22) 0, none⟩,
    ⟨some 220, .load 3 (.tmp 219), none⟩,
    ⟨some 221, .fieldAddr 60 (.tmp 22) 1, none⟩,
    ⟨some 222, .load 3 (.tmp 221), none⟩,
    ⟨some 223, .binOp .eql 3 (.tmp 220) (.tmp 222) 3, none⟩,
    ⟨some 224, .move (.tmp 223), none⟩,
    ⟨some 225, .fieldAddr 60 (.tmp 22) 0, some (224, true)⟩,
    ⟨some 226, .load 3 (.tmp 225), some (224, true)⟩,
    ⟨some 227, .load 60 (.tmp 19), some (224, true)⟩,
    ⟨some 228, .call { callee := .value (.func 30), args := #[.tmp 226, .tmp 227], argTypes := #[3, 60] }, some (224, true)⟩,
    ⟨some 229, .pick (.tmp 224) (.tmp 228) (.const (.bool false)), none⟩,
    ⟨some 230, .move (.tmp 229), none⟩,
    ⟨some 231, .fieldAddr 60 (.tmp 22) 0, some (230, true)⟩,
    ⟨some 232, .load 3 (.tmp 231), some (230, true)⟩,
    ⟨some 233, .fieldAddr 91 (.tmp 28) 0, some (230, true)⟩,
    ⟨some 234, .load 3 (.tmp 233), some (230, true)⟩,
    ⟨some 235, .move (.tmp 15), some (230, true)⟩,
    ⟨some 236, .binOp .add 3 (.const (.int .i64 1000)) (.tmp 235) 3, some (230, true)⟩,
    ⟨some 237, .binOp .mul 3 (.tmp 234) (.tmp 236) 3, some (230, true)⟩,
    ⟨some 238, .fieldAddr 91 (.tmp 28) 1, some (230, true)⟩,
    ⟨some 239, .load 3 (.tmp 238), some (230, true)⟩,
    ⟨some 240, .binOp .mul 3 (.const (.int .i64 1000)) (.tmp 239) 3, some (230, true)⟩,
    ⟨some 241, .binOp .quo 3 (.tmp 237) (.tmp 240) 3, some (230, true)⟩,
    ⟨some 242, .binOp .eql 3 (.tmp 232) (.tmp 241) 3, some (230, true)⟩,
    ⟨some 243, .pick (.tmp 230) (.tmp 242) (.const (.bool false)), none⟩,
    ⟨some 244, .move (.tmp 243), none⟩,
    ⟨some 245, .load 60 (.tmp 20), some (244, true)⟩,
    ⟨some 246, .load 60 (.tmp 26), some (244, true)⟩,
    ⟨some 247, .binOp .eql 60 (.tmp 245) (.tmp 246) 60, some (244, true)⟩,
    ⟨some 248, .pick (.tmp 244) (.tmp 247) (.const (.bool false)), none⟩,
    ⟨some 249, .move (.tmp 248), none⟩,
    ⟨some 250, .load 91 (.tmp 28), some (249, true)⟩,
    ⟨some 251, .load 91 (.tmp 30), some (249, true)⟩,
    ⟨some 252, .binOp .eql 91 (.tmp 250) (.tmp 251) 91, some (249, true)⟩,
    ⟨some 253, .pick (.tmp 249) (.tmp 252) (.const (.bool false)), none⟩,
    ⟨some 254, .move (.tmp 253), none⟩,
    ⟨some 255, .move (.tmp 32), some (254, true)⟩,
    ⟨some 256, .move (.tmp 34), some (254, true)⟩,
    ⟨some 257, .binOp .eql 3 (.tmp 255) (.tmp 256) 3, some (254, true)⟩,
    ⟨some 258, .pick (.tmp 254) (.tmp 257) (.const (.bool false)), none⟩,
    ⟨some 259, .move (.tmp 258), none⟩,
    ⟨some 260, .call { callee := .value (.func 21), args := #[], argTypes := #[] }, some (259, true)⟩,
    ⟨some 261, .pick (.tmp 259) (.tmp 260) (.const (.bool false)), none⟩,
    ⟨some 262, .move (.tmp 261), none⟩,
    ⟨some 263, .call { callee := .value (.func 32), args := #[], argTypes := #[] }, some (262, true)⟩,
    ⟨some 264, .pick (.tmp 262) (.tmp 263) (.const (.bool false)), none⟩,
    ⟨some 6, .assign (.tmp 264), none⟩])
 .ret)))))))))))))))))))⟩
def s6 : SF := ⟨162, [.tmp 6],
 (.seq (.reg false [⟨some 3, .box 49 (.tmp 0), none⟩,
    ⟨some 4, .box 24 (.tmp 1), none⟩,
    ⟨some 6, .assign (.const (.bool false)), none⟩])
 (.seq (.reg true [⟨some 26, .load 49 (.tmp 3), none⟩,
    ⟨some 27, .call { callee := .value (.func 15), args := #[.tmp 26], argTypes := #[49] }, none⟩,
    ⟨some 28, .load 49 (.tmp 3), none⟩,
    ⟨some 29, .call { callee := .value (.func 16), args := #[.tmp 28], argTypes := #[49] }, none⟩,
    ⟨some 30, .call { callee := .value (.func 20), args := #[.tmp 27, .tmp 29], argTypes := #[54, 57] }, none⟩,
    ⟨some 25, .move (.tmp 30), none⟩,
    ⟨some 31, .extract (.tmp 25) 0, none⟩,
    ⟨some 32, .extract (.tmp 25) 1, none⟩,
    ⟨some 7, .assign (.tmp 31), none⟩,
    ⟨some 8, .assign (.tmp 32), none⟩])
 (.seq (.seq (.reg false [⟨some 33, .move (.tmp 8), none⟩,
     ⟨some 34, .binOp .neq 34 (.tmp 33) (.const (.int .i64 0)) 34, none⟩,
     ⟨some 35, .move (.tmp 34), none⟩,
     ⟨some 36, .move (.tmp 7), some (35, false)⟩,
     ⟨some 37, .binOp .lss 3 (.tmp 36) (.const (.int .i64 0)) 3, some (35, false)⟩,
     ⟨some 38, .pick (.tmp 35) (.const (.bool true)) (.tmp 37), none⟩,
     ⟨some 39, .move (.tmp 38), none⟩,
     ⟨some 40, .move (.tmp 7), some (39, false)⟩,
     ⟨some 41, .binOp .gtr 3 (.tmp 40) (.const (.int .i64 50000)) 3, some (39, false)⟩,
     ⟨some 42, .pick (.tmp 39) (.const (.bool true)) (.tmp 41), none⟩])
  (.cond (.tmp 42)
   (.seq (.reg false [⟨some 6, .assign (.const (.bool false)), none⟩])
    .ret)
   .skip))
 (.seq (.reg true [⟨some 43, .indexAddr 24 (.tmp 4) (.const (.int .i64 0)), none⟩,
    ⟨some 44, .load 5 (.tmp 43), none⟩,
    ⟨some 45, .convert 5 3 (.tmp 44), none⟩,
    ⟨some 46, .binOp .rem 3 (.tmp 45) (.const (.int .i64 12)) 3, none⟩,
    ⟨some 47, .binOp .add 3 (.const (.int .i64 1)) (.tmp 46) 3, none⟩,
    ⟨some 48, .indexAddr 24 (.tmp 4) (.const (.int .i64 1)), none⟩,
    ⟨some 49, .load 5 (.tmp 48), none⟩,
    ⟨some 50, .convert 5 3 (.tmp 49), none⟩,
    ⟨some 51, .binOp .rem 3 (.tmp 50) (.const (.int .i64 30)) 3, none⟩,
    ⟨some 9, .assign (.tmp 47), none⟩,
    ⟨some 10, .assign (.tmp 51), none⟩])
 (.seq (.reg false [⟨some 52, .buildSlice 32 0 #[], none⟩,
    ⟨some 11, .assign (.tmp 52), none⟩])
 (.seq (.seq (.reg false [⟨some 12, .assign (.const (.int .i64 0)), none⟩])
  (.block 0 (.loop (.seq (.seq (.reg false [⟨some 53, .move (.tmp 12), none⟩,
        ⟨some 54, .move (.tmp 9), none⟩,
        ⟨some 55, .binOp .lss 3 (.tmp 53) (.tmp 54) 3, none⟩])
     (.cond (.tmp 55)
      .skip
      (.exit 0)))
    (.seq (.block 1 (.reg false [⟨some 58, .move (.tmp 11), none⟩,
        ⟨some 59, .move (.tmp 7), none⟩,
        ⟨some 60, .move (.tmp 10), none⟩,
        ⟨some 61, .binOp .sub 3 (.tmp 59) (.tmp 60) 3, none⟩,
        ⟨some 62, .move (.tmp 2), none⟩,
        ⟨some 63, .move (.tmp 12), none⟩,
        ⟨some 64, .call { callee := .value (.func 33), args := #[.tmp 62, .tmp 63], argTypes := #[22, 3] }, none⟩,
        ⟨some 65, .move (.tmp 10), none⟩,
        ⟨some 66, .binOp .mul 3 (.const (.int .i64 2)) (.tmp 65) 3, none⟩,
        ⟨some 67, .binOp .add 3 (.tmp 66) (.const (.int .i64 1)) 3, none⟩,
        ⟨some 68, .binOp .rem 3 (.tmp 64) (.tmp 67) 3, none⟩,
        ⟨some 69, .binOp .add 3 (.tmp 61) (.tmp 68) 3, none⟩,
        ⟨some 70, .call { callee := .builtin .max, args := #[.const (.int .i64 0), .tmp 69], argTypes := #[3, 3] }, none⟩,
        ⟨some 71, .buildSlice 32 1 #[(0, (.tmp 70))], none⟩,
        ⟨some 72, .call { callee := .builtin .append, args := #[.tmp 58, .tmp 71], argTypes := #[32, 32] }, none⟩,
        ⟨some 11, .assign (.tmp 72), none⟩]))
    (.reg false [⟨some 56, .move (.tmp 12), none⟩,
      ⟨some 57, .binOp .add 3 (.tmp 56) (.const (.int .i64 1)) 3, none⟩,
      ⟨some 12, .assign (.tmp 57), none⟩]))))))
 (.seq (.reg false [⟨some 73, .move (.tmp 9), none⟩,
    ⟨some 74, .move (.tmp 7), none⟩,
    ⟨some 75, .move (.tmp 10), none⟩,
    ⟨some 76, .binOp .mul 3 (.const (.int .i64 2)) (.tmp 75) 3, none⟩,
    ⟨some 77, .binOp .sub 3 (.tmp 74) (.tmp 76) 3, none⟩,
    ⟨some 78, .call { callee := .builtin .max, args := #[.const (.int .i64 0), .tmp 77], argTypes := #[3, 3] }, none⟩,
    ⟨some 79, .move (.tmp 9), none⟩,
    ⟨some 80, .build 31 #[(0, (.tmp 73)), (1, (.tmp 78)), (3, (.tmp 79))], none⟩,
    ⟨some 13, .alloc 31, none⟩,
    ⟨none, .store 31 (.tmp 13) (.tmp 80), none⟩])
 (.seq (.reg false [⟨some 81, .move (.tmp 9), none⟩,
    ⟨some 82, .move (.tmp 7), none⟩,
    ⟨some 83, .move (.tmp 10), none⟩,
    ⟨some 84, .binOp .mul 3 (.const (.int .i64 2)) (.tmp 83) 3, none⟩,
    ⟨some 85, .binOp .add 3 (.tmp 82) (.tmp 84) 3, none⟩,
    ⟨some 86, .binOp .add 3 (.tmp 85) (.const (.int .i64 1)) 3, none⟩,
    ⟨some 87, .move (.tmp 9), none⟩,
    ⟨some 88, .build 31 #[(0, (.tmp 81)), (1, (.tmp 86)), (3, (.tmp 87))], none⟩,
    ⟨some 14, .alloc 31, none⟩,
    ⟨none, .store 31 (.tmp 14) (.tmp 88), none⟩])
 (.seq (.reg true [⟨some 90, .load 31 (.tmp 13), none⟩,
    ⟨some 91, .move (.tmp 11), none⟩,
    ⟨some 92, .call { callee := .value (.func 34), args := #[.tmp 91], argTypes := #[32] }, none⟩,
    ⟨some 93, .move (.tmp 10), none⟩,
    ⟨some 94, .call { callee := .value (.func 10), args := #[.tmp 90, .tmp 92, .tmp 93], argTypes := #[31, 32, 3] }, none⟩,
    ⟨some 89, .move (.tmp 94), none⟩,
    ⟨some 95, .extract (.tmp 89) 0, none⟩,
    ⟨some 96, .extract (.tmp 89) 1, none⟩,
    ⟨some 15, .assign (.tmp 95), none⟩,
    ⟨some 16, .assign (.tmp 96), none⟩])
 (.seq (.reg true [⟨some 98, .load 31 (.tmp 14), none⟩,
    ⟨some 99, .move (.tmp 11), none⟩,
    ⟨some 100, .call { callee := .value (.func 34), args := #[.tmp 99], argTypes := #[32] }, none⟩,
    ⟨some 101, .move (.tmp 10), none⟩,
    ⟨some 102, .call { callee := .value (.func 10), args := #[.tmp 98, .tmp 100, .tmp 101], argTypes := #[31, 32, 3] }, none⟩,
    ⟨some 97, .move (.tmp 102), none⟩,
    ⟨some 103, .extract (.tmp 97) 0, none⟩,
    ⟨some 104, .extract (.tmp 97) 1, none⟩,
    ⟨some 17, .assign (.tmp 103), none⟩,
    ⟨some 18, .assign (.tmp 104), none⟩])
 (.seq (.reg false [⟨some 106, .load 31 (.tmp 13), none⟩,
    ⟨some 107, .move (.tmp 10), none⟩,
    ⟨some 108, .call { callee := .value (.func 35), args := #[.tmp 106, .const (.slice none 0 0), .tmp 107], argTypes := #[31, 32, 3] }, none⟩,
    ⟨some 105, .move (.tmp 108), none⟩,
    ⟨some 109, .extract (.tmp 105) 0, none⟩,
    ⟨some 110, .extract (.tmp 105) 1, none⟩,
    ⟨some 111, .extract (.tmp 105) 2, none⟩,
    ⟨some 19, .assign (.tmp 109), none⟩,
    ⟨some 20, .assign (.tmp 110), none⟩,
    ⟨some 21, .assign (.tmp 111), none⟩])
 (.seq (.reg true [⟨some 113, .load 31 (.tmp 14), none⟩,
    ⟨some 114, .move (.tmp 11), none⟩,
    ⟨some 115, .call { callee := .value (.func 34), args := #[.tmp 114], argTypes := #[32] }, none⟩,
    ⟨some 116, .move (.tmp 10), none⟩,
    ⟨some 117, .call { callee := .value (.func 35), args := #[.tmp 113, .tmp 115, .tmp 116], argTypes := #[31, 32, 3] }, none⟩,
    ⟨some 112, .move (.tmp 117), none⟩,
    ⟨some 118, .extract (.tmp 112) 0, none⟩,
    ⟨some 119, .extract (.tmp 112) 1, none⟩,
    ⟨some 120, .extract (.tmp 112) 2, none⟩,
    ⟨some 22, .assign (.tmp 118), none⟩,
    ⟨some 23, .assign (.tmp 119), none⟩,
    ⟨some 24, .assign (.tmp 120), none⟩])
 (.seq (.reg false [⟨some 121, .move (.tmp 16), none⟩,
    ⟨some 122, .binOp .eql 34 (.tmp 121) (.const (.int .i64 0)) 34, none⟩,
    ⟨some 123, .move (.tmp 122), none⟩,
    ⟨some 124, .move (.tmp 18), some (123, true)⟩,
    ⟨some 125, .binOp .eql 34 (.tmp 124) (.const (.int .i64 0)) 34, some (123, true)⟩,
    ⟨some 126, .pick (.tmp 123) (.tmp 125) (.const (.bool false)), none⟩,
    ⟨some 127, .move (.tmp 126), none⟩,
    ⟨some 128, .move (.tmp 21), some (127, true)⟩,
    ⟨some 129, .binOp .eql 34 (.tmp 128) (.const (.int .i64 0)) 34, some (127, true)⟩,
    ⟨some 130, .pick (.tmp 127) (.tmp 129) (.const (.bool false)), none⟩,
    ⟨some 131, .move (.tmp 130), none⟩,
    ⟨some 132, .move (.tmp 24), some (131, true)⟩,
    ⟨some 133, .binOp .eql 34 (.tmp 132) (.const (.int .i64 0)) 34, some (131, true)⟩,
    ⟨some 134, .pick (.tmp 131) (.tmp 133) (.const (.bool false)), none⟩,
    ⟨some 135, .move (.tmp 134), none⟩,
    ⟨some 136, .move (.tmp 15), some (135, true)⟩,
    ⟨some 137, .binOp .eql 33 (.tmp 136) (.const (.int .i64 1)) 33, some (135, true)⟩,
    ⟨some 138, .pick (.tmp 135) (.tmp 137) (.const (.bool false)), none⟩,
    ⟨some 139, .move (.tmp 138), none⟩,
    ⟨some 140, .move (.tmp 17), some (139, true)⟩,
    ⟨some 141, .binOp .eql 33 (.tmp 140) (.const (.int .i64 2)) 33, some (139, true)⟩,
    ⟨some 142, .pick (.tmp 139) (.tmp 141) (.const (.bool false)), none⟩,
    ⟨some 143, .move (.tmp 142), none⟩,
    ⟨some 144, .move (.tmp 19), some (143, true)⟩,
    ⟨some 145, .binOp .geq 3 (.tmp 144) (.const (.int .i64 0)) 3, some (143, true)⟩,
    ⟨some 146, .pick (.tmp 143) (.tmp 145) (.const (.bool false)), none⟩,
    ⟨some 147, .move (.tmp 146), none⟩,
    ⟨some 148, .move (.tmp 19), some (147, true)⟩,
    ⟨some 149, .move (.tmp 9), some (147, true)⟩,
    ⟨some 150, .binOp .leq 3 (.tmp 148) (.tmp 149) 3, some (147, true)⟩,
    ⟨some 151, .pick (.tmp 147) (.tmp 150) (.const (.bool false)), none⟩,
    ⟨some 152, .move (.tmp 151), none⟩,
    ⟨some 153, .move (.tmp 23), some (152, true)⟩,
    ⟨some 154, .binOp .eql 3 (.tmp 153) (.const (.int .i64 0)) 3, some (152, true)⟩,
    ⟨some 155, .pick (.tmp 152) (.tmp 154) (.const (.bool false)), none⟩,
    ⟨some 156, .move (.tmp 155), none⟩,
    ⟨some 157, .call { callee := .value (.func 21), args := #[], argTypes := #[] }, some (156, true)⟩,
    ⟨some 158, .pick (.tmp 156) (.tmp 157) (.const (.bool false)), none⟩,
    ⟨some 159, .move (.tmp 158), none⟩,
    ⟨some 160, .call { callee := .value (.func 25), args := #[], argTypes := #[] }, some (159, true)⟩,
    ⟨some 161, .pick (.tmp 159) (.tmp 160) (.const (.bool false)), none⟩,
    ⟨some 6, .assign (.tmp 161), none⟩])
 .ret)))))))))))))⟩
theorem sf6 : sfOf Try.f6 = some s6 := by kernel_rfl
theorem hb6 : hasBody Try.prog 6 = true := by kernel_rfl
def s7 : SF := ⟨226, [.tmp 6],
 (.seq (.reg false [⟨some 3, .box 98 (.tmp 0), none⟩,
    ⟨some 4, .box 23 (.tmp 1), none⟩,
    ⟨some 6, .assign (.const (.bool false)), none⟩])
 (.seq (.reg false [⟨some 25, .indexAddr 98 (.tmp 3) (.const (.int .i64 0)), none⟩,
    ⟨some 26, .load 5 (.tmp 25), none⟩,
    ⟨some 27, .convert 5 3 (.tmp 26), none⟩,
    ⟨some 28, .binOp .add 3 (.const (.int .i64 1)) (.tmp 27) 3, none⟩,
    ⟨some 29, .indexAddr 98 (.tmp 3) (.const (.int .i64 1)), none⟩,
    ⟨some 30, .load 5 (.tmp 29), none⟩,
    ⟨some 31, .convert 5 3 (.tmp 30), none⟩,
    ⟨some 32, .binOp .rem 3 (.tmp 31) (.const (.int .i64 21)) 3, none⟩,
    ⟨some 33, .indexAddr 98 (.tmp 3) (.const (.int .i64 2)), none⟩,
    ⟨some 34, .load 5 (.tmp 33), none⟩,
    ⟨some 35, .convert 5 3 (.tmp 34), none⟩,
    ⟨some 36, .binOp .rem 3 (.tmp 35) (.const (.int .i64 21)) 3, none⟩,
    ⟨some 37, .build 101 #[(0, (.tmp 28)), (1, (.tmp 32)), (2, (.tmp 36))], none⟩,
    ⟨some 7, .alloc 101, none⟩,
    ⟨none, .store 101 (.tmp 7) (.tmp 37), none⟩])
 (.seq (.reg true [⟨some 38, .indexAddr 23 (.tmp 4) (.const (.int .i64 0)), none⟩,
    ⟨some 39, .load 5 (.tmp 38), none⟩,
    ⟨some 40, .convert 5 3 (.tmp 39), none⟩,
    ⟨some 41, .binOp .rem 3 (.tmp 40) (.const (.int .i64 20)) 3, none⟩,
    ⟨some 42, .indexAddr 23 (.tmp 4) (.const (.int .i64 0)), none⟩,
    ⟨some 43, .load 5 (.tmp 42), none⟩,
    ⟨some 44, .convert 5 3 (.tmp 43), none⟩,
    ⟨some 45, .binOp .rem 3 (.tmp 44) (.const (.int .i64 20)) 3, none⟩,
    ⟨some 46, .indexAddr 23 (.tmp 4) (.const (.int .i64 1)), none⟩,
    ⟨some 47, .load 5 (.tmp 46), none⟩,
    ⟨some 48, .convert 5 3 (.tmp 47), none⟩,
    ⟨some 49, .binOp .rem 3 (.tmp 48) (.const (.int .i64 10)) 3, none⟩,
    ⟨some 50, .binOp .add 3 (.tmp 45) (.tmp 49) 3, none⟩,
    ⟨some 51, .call { callee := .value (.func 36), args := #[.tmp 41, .tmp 50], argTypes := #[3, 3] }, none⟩,
    ⟨some 52, .indexAddr 23 (.tmp 4) (.const (.int .i64 2)), none⟩,
    ⟨some 53, .load 5 (.tmp 52), none⟩,
    ⟨some 54, .convert 5 3 (.tmp 53), none⟩,
    ⟨some 55, .binOp .rem 3 (.tmp 54) (.const (.int .i64 60)) 3, none⟩,
    ⟨some 56, .indexAddr 23 (.tmp 4) (.const (.int .i64 2)), none⟩,
    ⟨some 57, .load 5 (.tmp 56), none⟩,
    ⟨some 58, .convert 5 3 (.tmp 57), none⟩,
    ⟨some 59, .binOp .rem 3 (.tmp 58) (.const (.int .i64 60)) 3, none⟩,
    ⟨some 60, .indexAddr 23 (.tmp 4) (.const (.int .i64 3)), none⟩,
    ⟨some 61, .load 5 (.tmp 60), none⟩,
    ⟨some 62, .convert 5 3 (.tmp 61), none⟩,
    ⟨some 63, .binOp .rem 3 (.tmp 62) (.const (.int .i64 40)) 3, none⟩,
    ⟨some 64, .binOp .add 3 (.tmp 59) (.tmp 63) 3, none⟩,
    ⟨some 65, .call { callee := .value (.func 36), args := #[.tmp 55, .tmp 64], argTypes := #[3, 3] }, none⟩,
    ⟨some 66, .build 103 #[(0, (.tmp 51)), (1, (.tmp 65))], none⟩,
    ⟨some 8, .alloc 103, none⟩,
    ⟨none, .store 103 (.tmp 8) (.tmp 66), none⟩])
 (.seq (.reg false [⟨some 68, .load 101 (.tmp 7), none⟩,
    ⟨some 69, .load 103 (.tmp 8), none⟩,
    ⟨some 70, .call { callee := .value (.func 37), args := #[.tmp 68, .tmp 69], argTypes := #[101, 103] }, none⟩,
    ⟨some 67, .move (.tmp 70), none⟩,
    ⟨some 71, .extract (.tmp 67) 0, none⟩,
    ⟨some 72, .extract (.tmp 67) 1, none⟩,
    ⟨some 9, .alloc 60, none⟩,
    ⟨none, .store 60 (.tmp 9) (.tmp 71), none⟩,
    ⟨some 10, .assign (.tmp 72), none⟩])
 (.seq (.seq (.reg false [⟨some 73, .move (.tmp 10), none⟩,
     ⟨some 74, .binOp .neq 34 (.tmp 73) (.const (.int .i64 0)) 34, none⟩,
     ⟨some 75, .move (.tmp 74), none⟩,
     ⟨some 76, .fieldAddr 60 (.tmp 9) 0, some (75, false)⟩,
     ⟨some 77, .load 3 (.tmp 76), some (75, false)⟩,
     ⟨some 78, .binOp .lss 3 (.tmp 77) (.const (.int .i64 1)) 3, some (75, false)⟩,
     ⟨some 79, .pick (.tmp 75) (.const (.bool true)) (.tmp 78), none⟩,
     ⟨some 80, .move (.tmp 79), none⟩,
     ⟨some 81, .fieldAddr 60 (.tmp 9) 1, some (80, false)⟩,
     ⟨some 82, .load 3 (.tmp 81), some (80, false)⟩,
     ⟨some 83, .binOp .gtr 3 (.tmp 82) (.const (.int .i64 2000)) 3, some (80, false)⟩,
     ⟨some 84, .pick (.tmp 80) (.const (.bool true)) (.tmp 83), none⟩,
     ⟨some 85, .move (.tmp 84), none⟩,
     ⟨some 86, .fieldAddr 60 (.tmp 9) 0, some (85, false)⟩,
     ⟨some 87, .load 3 (.tmp 86), some (85, false)⟩,
     ⟨some 88, .fieldAddr 60 (.tmp 9) 1, some (85, false)⟩,
     ⟨some 89, .load 3 (.tmp 88), some (85, false)⟩,
     ⟨some 90, .binOp .gtr 3 (.tmp 87) (.tmp 89) 3, some (85, false)⟩,
     ⟨some 91, .pick (.tmp 85) (.const (.bool true)) (.tmp 90), none⟩])
  (.cond (.tmp 91)
   (.seq (.reg false [⟨some 6, .assign (.const (.bool false)), none⟩])
    .ret)
   .skip))
 (.seq (.reg false [⟨some 92, .move (.tmp 2), none⟩,
    ⟨some 93, .call { callee := .builtin .len, args := #[.tmp 92], argTypes := #[99] }, none⟩,
    ⟨some 94, .call { callee := .builtin .min, args := #[.const (.int .i64 12), .tmp 93], argTypes := #[3, 3] }, none⟩,
    ⟨some 11, .assign (.tmp 94), none⟩])
 (.seq (.seq (.reg false [⟨some 95, .move (.tmp 11), none⟩,
     ⟨some 96, .binOp .eql 3 (.tmp 95) (.const (.int .i64 0)) 3, none⟩])
  (.cond (.tmp 96)
   (.seq (.reg false [⟨some 97, .call { callee := .value (.func 38), args := #[], argTypes := #[] }, none⟩,
       ⟨some 6, .assign (.tmp 97), none⟩])
    .ret)
   .skip))
 (.seq (.reg false [⟨some 98, .move (.tmp 2), none⟩,
    ⟨some 99, .indexAddr 99 (.tmp 98) (.const (.int .i64 0)), none⟩,
    ⟨some 100, .indexAddr 24 (.tmp 99) (.const (.int .i64 1)), none⟩,
    ⟨some 101, .load 5 (.tmp 100), none⟩,
    ⟨some 102, .convert 5 3 (.tmp 101), none⟩,
    ⟨some 103, .binOp .rem 3 (.tmp 102) (.const (.int .i64 5)) 3, none⟩,
    ⟨some 12, .assign (.tmp 103), none⟩])
 (.seq (.reg false [⟨some 104, .buildSlice 32 0 #[], none⟩,
    ⟨some 105, .buildSlice 32 0 #[], none⟩,
    ⟨some 106, .buildSlice 105 0 #[], none⟩,
    ⟨some 13, .assign (.tmp 104), none⟩,
    ⟨some 14, .assign (.tmp 105), none⟩,
    ⟨some 15, .assign (.tmp 106), none⟩])
 (.seq (.seq (.reg false [⟨some 16, .assign (.const (.int .i64 0)), none⟩])
  (.block 0 (.loop (.seq (.seq (.reg false [⟨some 107, .move (.tmp 16), none⟩,
        ⟨some 108, .move (.tmp 11), none⟩,
        ⟨some 109, .binOp .lss 3 (.tmp 107) (.tmp 108) 3, none⟩])
     (.cond (.tmp 109)
      .skip
      (.exit 0)))
    (.seq (.block 1 (.seq (.reg true [⟨some 112, .fieldAddr 60 (.tmp 9) 1, none⟩,
         ⟨some 113, .load 3 (.tmp 112), none⟩,
         ⟨some 114, .move (.tmp 2), none⟩,
         ⟨some 115, .move (.tmp 16), none⟩,
         ⟨some 116, .indexAddr 99 (.tmp 114) (.tmp 115), none⟩,
         ⟨some 117, .indexAddr 24 (.tmp 116) (.const (.int .i64 0)), none⟩,
         ⟨some 118, .load 5 (.tmp 117), none⟩,
         ⟨some 119, .convert 5 3 (.tmp 118), none⟩,
         ⟨some 120, .binOp .rem 3 (.tmp 119) (.const (.int .i64 40)) 3, none⟩,
         ⟨some 121, .binOp .add 3 (.tmp 113) (.tmp 120) 3, none⟩,
         ⟨some 122, .binOp .sub 3 (.tmp 121) (.const (.int .i64 10)) 3, none⟩,
         ⟨some 123, .call { callee := .builtin .max, args := #[.const (.int .i64 0), .tmp 122], argTypes := #[3, 3] }, none⟩,
         ⟨some 17, .assign (.tmp 123), none⟩])
      (.seq (.ord (.op ⟨some 124, .move (.tmp 14), none⟩ (.op ⟨some 125, .move (.tmp 17), none⟩ (.op ⟨some 126, .buildSlice 32 1 #[(0, (.tmp 125))], none⟩ (.alt (.op ⟨some 127, .call { callee := .builtin .append, args := #[.tmp 124, .tmp 126], argTypes := #[32, 32] }, none⟩ (.op ⟨some 128, .move (.tmp 15), none⟩ (.op ⟨some 129, .load 103 (.tmp 8), none⟩ (.op ⟨some 130, .buildSlice 105 1 #[(0, (.tmp 129))], none⟩ (.op ⟨some 131, .call { callee := .builtin .append, args := #[.tmp 128, .tmp 130], argTypes := #[105, 105] }, none⟩ (.op ⟨some 14, .assign (.tmp 127), none⟩ (.op ⟨some 15, .assign (.tmp 131), none⟩ .done)))))))
 (.alt (.op ⟨some 128, .move (.tmp 15), none⟩ (.alt (.op ⟨some 127, .call { callee := .builtin .append, args := #[.tmp 124, .tmp 126], argTypes := #[32, 32] }, none⟩ (.op ⟨some 129, .load 103 (.tmp 8), none⟩ (.op ⟨some 130, .buildSlice 105 1 #[(0, (.tmp 129))], none⟩ (.op ⟨some 131, .call { callee := .builtin .append, args := #[.tmp 128, .tmp 130], argTypes := #[105, 105] }, none⟩ (.op ⟨some 14, .assign (.tmp 127), none⟩ (.op ⟨some 15, .assign (.tmp 131), none⟩ .done))))))
 (.op ⟨some 129, .load 103 (.tmp 8), none⟩ (.alt (.op ⟨some 127, .call { callee := .builtin .append, args := #[.tmp 124, .tmp 126], argTypes := #[32, 32] }, none⟩ (.op ⟨some 130, .buildSlice 105 1 #[(0, (.tmp 129))], none⟩ (.op ⟨some 131, .call { callee := .builtin .append, args := #[.tmp 128, .tmp 130], argTypes := #[105, 105] }, none⟩ (.op ⟨some 14, .assign (.tmp 127), none⟩ (.op ⟨some 15, .assign (.tmp 131), none⟩ .done)))))
 (.op ⟨some 130, .buildSlice 105 1 #[(0, (.tmp 129))], none⟩ (.op ⟨some 127, .call { callee := .builtin .append, args := #[.tmp 124, .tmp 126], argTypes := #[32, 32] }, none⟩ (.op ⟨some 131, .call { callee := .builtin .append, args := #[.tmp 128, .tmp 130], argTypes := #[105, 105] }, none⟩ (.op ⟨some 14, .assign (.tmp 127), none⟩ (.op ⟨some 15, .assign (.tmp 131), none⟩ .done)))))))))
 (.op ⟨some 129, .load 103 (.tmp 8), none⟩ (.alt (.op ⟨some 127, .call { callee := .builtin .append, args := #[.tmp 124, .tmp 126], argTypes := #[32, 32] }, none⟩ (.op ⟨some 128, .move (.tmp 15), none⟩ (.op ⟨some 130, .buildSlice 105 1 #[(0, (.tmp 129))], none⟩ (.op ⟨some 131, .call { callee := .builtin .append, args := #[.tmp 128, .tmp 130], argTypes := #[105, 105] }, none⟩ (.op ⟨some 14, .assign (.tmp 127), none⟩ (.op ⟨some 15, .assign (.tmp 131), none⟩ .done))))))
 (.alt (.op ⟨some 128, .move (.tmp 15), none⟩ (.alt (.op ⟨some 127, .call { callee := .builtin .append, args := #[.tmp 124, .tmp 126], argTypes := #[32, 32] }, none⟩ (.op ⟨some 130, .buildSlice 105 1 #[(0, (.tmp 129))], none⟩ (.op ⟨some 131, .call { callee := .builtin .append, args := #[.tmp 128, .tmp 130], argTypes := #[105, 105] }, none⟩ (.op ⟨some 14, .assign (.tmp 127), none⟩ (.op ⟨some 15, .assign (.tmp 131), none⟩ .done)))))
 (.op ⟨some 130, .buildSlice 105 1 #[(0, (.tmp 129))], none⟩ (.op ⟨some 127, .call { callee := .builtin .append, args := #[.tmp 124, .tmp 126], argTypes := #[32, 32] }, none⟩ (.op ⟨some 131, .call { callee := .builtin .append, args := #[.tmp 128, .tmp 130], argTypes := #[105, 105] }, none⟩ (.op ⟨some 14, .assign (.tmp 127), none⟩ (.op ⟨some 15, .assign (.tmp 131), none⟩ .done)))))))
 (.op ⟨some 130, .buildSlice 105 1 #[(0, (.tmp 129))], none⟩ (.alt (.op ⟨some 127, .call { callee := .builtin .append, args := #[.tmp 124, .tmp 126], argTypes := #[32, 32] }, none⟩ (.op ⟨some 128, .move (.tmp 15), none⟩ (.op ⟨some 131, .call { callee := .builtin .append, args := #[.tmp 128, .tmp 130], argTypes := #[105, 105] }, none⟩ (.op ⟨some 14, .assign (.tmp 127), none⟩ (.op ⟨some 15, .assign (.tmp 131), none⟩ .done)))))
 (.op ⟨some 128, .move (.tmp 15), none⟩ (.op ⟨some 127, .call { callee := .builtin .append, args := #[.tmp 124, .tmp 126], argTypes := #[32, 32] }, none⟩ (.op ⟨some 131, .call { callee := .builtin .append, args := #[.tmp 128, .tmp 130], argTypes := #[105, 105] }, none⟩ (.op ⟨some 14, .assign (.tmp 127), none⟩ (.op ⟨some 15, .assign (.tmp 131), none⟩ .done))))))))))))))))
      (.reg false [⟨some 132, .move (.tmp 13), none⟩,
        ⟨some 133, .move (.tmp 17), none⟩,
        ⟨some 134, .move (.tmp 2), none⟩,
        ⟨some 135, .move (.tmp 16), none⟩,
        ⟨some 136, .indexAddr 99 (.tmp 134) (.tmp 135), none⟩,
        ⟨some 137, .indexAddr 24 (.tmp 136) (.const (.int .i64 1)), none⟩,
        ⟨some 138, .load 5 (.tmp 137), none⟩,
        ⟨some 139, .convert 5 3 (.tmp 138), none⟩,
        ⟨some 140, .move (.tmp 12), none⟩,
        ⟨some 141, .binOp .mul 3 (.const (.int .i64 2)) (.tmp 140) 3, none⟩,
        ⟨some 142, .binOp .add 3 (.tmp 141) (.const (.int .i64 1)) 3, none⟩,
        ⟨some 143, .binOp .rem 3 (.tmp 139) (.tmp 142) 3, none⟩,
        ⟨some 144, .binOp .add 3 (.tmp 133) (.tmp 143) 3, none⟩,
        ⟨some 145, .move (.tmp 12), none⟩,
        ⟨some 146, .binOp .sub 3 (.tmp 144) (.tmp 145) 3, none⟩,
        ⟨some 147, .call { callee := .builtin .max, args := #[.const (.int .i64 0), .tmp 146], argTypes := #[3, 3] }, none⟩,
        ⟨some 148, .buildSlice 32 1 #[(0, (.tmp 147))], none⟩,
        ⟨some 149, .call { callee := .builtin .append, args := #[.tmp 132, .tmp 148], argTypes := #[32, 32] }, none⟩,
        ⟨some 13, .assign (.tmp 149), none⟩]))))
    (.reg false [⟨some 110, .move (.tmp 16), none⟩,
      ⟨some 111, .binOp .add 3 (.tmp 110) (.const (.int .i64 1)) 3, none⟩,
      ⟨some 16, .assign (.tmp 111), none⟩]))))))
 (.seq (.reg true [⟨some 151, .move (.tmp 11), none⟩,
    ⟨some 152, .fieldAddr 60 (.tmp 9) 1, none⟩,
    ⟨some 153, .load 3 (.tmp 152), none⟩,
    ⟨some 154, .build 31 #[(0, (.tmp 151)), (2, (.tmp 153))], none⟩,
    ⟨some 155, .move (.tmp 13), none⟩,
    ⟨some 156, .call { callee := .value (.func 11), args := #[.tmp 155], argTypes := #[32] }, none⟩,
    ⟨some 157, .move (.tmp 12), none⟩,
    ⟨some 158, .call { callee := .value (.func 10), args := #[.tmp 154, .tmp 156, .tmp 157], argTypes := #[31, 32, 3] }, none⟩,
    ⟨some 150, .move (.tmp 158), none⟩,
    ⟨some 159, .extract (.tmp 150) 0, none⟩,
    ⟨some 160, .extract (.tmp 150) 1, none⟩,
    ⟨some 18, .assign (.tmp 159), none⟩,
    ⟨some 19, .assign (.tmp 160), none⟩])
 (.seq (.reg true [⟨some 162, .load 101 (.tmp 7), none⟩,
    ⟨some 163, .move (.tmp 15), none⟩,
    ⟨some 164, .move (.tmp 14), none⟩,
    ⟨some 165, .call { callee := .value (.func 11), args := #[.tmp 164], argTypes := #[32] }, none⟩,
    ⟨some 166, .call { callee := .value (.func 39), args := #[.tmp 162, .tmp 163, .tmp 165], argTypes := #[101, 105, 32] }, none⟩,
    ⟨some 161, .move (.tmp 166), none⟩,
    ⟨some 167, .extract (.tmp 161) 0, none⟩,
    ⟨some 168, .extract (.tmp 161) 1, none⟩,
    ⟨some 169, .extract (.tmp 161) 2, none⟩,
    ⟨some 20, .assign (.tmp 167), none⟩,
    ⟨some 21, .assign (.tmp 168), none⟩,
    ⟨some 22, .assign (.tmp 169), none⟩])
 (.seq (.seq (.reg false [⟨some 170, .move (.tmp 19), none⟩,
     ⟨some 171, .binOp .neq 34 (.tmp 170) (.const (.int .i64 0)) 34, none⟩,
     ⟨some 172, .move (.tmp 171), none⟩,
     ⟨some 173, .move (.tmp 22), some (172, false)⟩,
     ⟨some 174, .binOp .neq 34 (.tmp 173) (.const (.int .i64 0)) 34, some (172, false)⟩,
     ⟨some 175, .pick (.tmp 172) (.const (.bool true)) (.tmp 174), none⟩,
     ⟨some 176, .move (.tmp 175), none⟩,
     ⟨some 177, .move (.tmp 20), some (176, false)⟩,
     ⟨some 178, .call { callee := .builtin .len, args := #[.tmp 177], argTypes := #[32] }, some (176, false)⟩,
     ⟨some 179, .move (.tmp 21), some (176, false)⟩,
     ⟨some 180, .call { callee := .builtin .len, args := #[.tmp 179], argTypes := #[32] }, some (176, false)⟩,
     ⟨some 181, .binOp .gtr 3 (.tmp 178) (.tmp 180) 3, some (176, false)⟩,
     ⟨some 182, .pick (.tmp 176) (.const (.bool true)) (.tmp 181), none⟩,
     ⟨some 183, .move (.tmp 182), none⟩,
     ⟨some 184, .move (.tmp 21), some (183, false)⟩,
     ⟨some 185, .call { callee := .builtin .len, args := #[.tmp 184], argTypes := #[32] }, some (183, false)⟩,
     ⟨some 186, .move (.tmp 11), some (183, false)⟩,
     ⟨some 187, .binOp .gtr 3 (.tmp 185) (.tmp 186) 3, some (183, false)⟩,
     ⟨some 188, .pick (.tmp 183) (.const (.bool true)) (.tmp 187), none⟩])
  (.cond (.tmp 188)
   (.seq (.reg false [⟨some 6, .assign (.const (.bool false)), none⟩])
    .ret)
   .skip))
 (.seq (.seq (.reg false [⟨some 189, .move (.tmp 18), none⟩,
     ⟨some 190, .binOp .eql 33 (.tmp 189) (.const (.int .i64 1)) 33, none⟩,
     ⟨some 191, .move (.tmp 190), none⟩,
     ⟨some 192, .move (.tmp 21), some (191, true)⟩,
     ⟨some 193, .call { callee := .builtin .len, args := #[.tmp 192], argTypes := #[32] }, some (191, true)⟩,
     ⟨some 194, .binOp .gtr 3 (.tmp 193) (.const (.int .i64 0)) 3, some (191, true)⟩,
     ⟨some 195, .pick (.tmp 191) (.tmp 194) (.const (.bool false)), none⟩,
     ⟨some 196, .move (.tmp 195), none⟩,
     ⟨some 197, .move (.tmp 18), some (196, false)⟩,
     ⟨some 198, .binOp .eql 33 (.tmp 197) (.const (.int .i64 2)) 33, some (196, false)⟩,
     ⟨some 199, .move (.tmp 198), some (196, false)⟩,
     ⟨some 200, .move (.tmp 21), some (199, true)⟩,
     ⟨some 201, .call { callee := .builtin .len, args := #[.tmp 200], argTypes := #[32] }, some (199, true)⟩,
     ⟨some 202, .binOp .eql 3 (.tmp 201) (.const (.int .i64 0)) 3, some (199, true)⟩,
     ⟨some 203, .pick (.tmp 199) (.tmp 202) (.const (.bool false)), some (196, false)⟩,
     ⟨some 204, .pick (.tmp 196) (.const (.bool true)) (.tmp 203), none⟩])
  (.cond (.tmp 204)
   (.seq (.reg false [⟨some 6, .assign (.const (.bool false)), none⟩])
    .ret)
   .skip))
 (.seq (.reg false [⟨some 23, .assign (.const (.int .i64 0)), none⟩])
 (.seq (.seq (.reg false [⟨some 24, .assign (.const (.int .i64 0)), none⟩])
  (.block 2 (.loop (.seq (.seq (.reg false [⟨some 205, .move (.tmp 24), none⟩,
        ⟨some 206, .move (.tmp 11), none⟩,
        ⟨some 207, .binOp .lss 3 (.tmp 205) (.tmp 206) 3, none⟩])
     (.cond (.tmp 207)
      .skip
      (.exit 2)))
    (.seq (.block 3 (.seq (.reg true [⟨some 210, .move (.tmp 14), none⟩,
         ⟨some 211, .move (.tmp 24), none⟩,
         ⟨some 212, .indexAddr 32 (.tmp 210) (.tmp 211), none⟩,
         ⟨some 213, .load 3 (.tmp 212), none⟩,
         ⟨some 214, .fieldAddr 60 (.tmp 9) 1, none⟩,
         ⟨some 215, .load 3 (.tmp 214), none⟩,
         ⟨some 216, .binOp .lss 3 (.tmp 213) (.tmp 215) 3, none⟩])
      (.cond (.tmp 216)
       (.reg false [⟨some 217, .move (.tmp 23), none⟩,
          ⟨some 218, .binOp .add 3 (.tmp 217) (.const (.int .i64 1)) 3, none⟩,
          ⟨some 23, .assign (.tmp 218), none⟩])
       .skip)))
    (.reg false [⟨some 208, .move (.tmp 24), none⟩,
      ⟨some 209, .binOp .add 3 (.tmp 208) (.const (.int .i64 1)) 3, none⟩,
      ⟨some 24, .assign (.tmp 209), none⟩]))))))
 (.seq (.reg false [⟨some 219, .move (.tmp 23), none⟩,
    ⟨some 220, .move (.tmp 21), none⟩,
    ⟨some 221, .call { callee := .builtin .len, args := #[.tmp 220], argTypes := #[32] }, none⟩,
    ⟨some 222, .binOp .eql 3 (.tmp 219) (.tmp 221) 3, none⟩,
    ⟨some 223, .move (.tmp 222), none⟩,
    ⟨some 224, .call { callee := .value (.func 38), args := #[], argTypes := #[] }, some (223, true)⟩,
    ⟨some 225, .pick (.tmp 223) (.tmp 224) (.const (.bool false)), none⟩,
    ⟨some 6, .assign (.tmp 225), none⟩])
 .ret)))))))))))))))))⟩
theorem hb8 : hasBody Try.prog 8 = true := by kernel_rfl
def s10 : SF := ⟨21, [.tmp 6, .tmp 7],
 (.seq (.reg false [⟨some 3, .box 31 (.tmp 0), none⟩,
    ⟨some 6, .assign (.const (.int .i64 0)), none⟩,
    ⟨some 7, .assign (.const (.int .i64 0)), none⟩])
 (.seq (.seq (.reg false [⟨some 9, .load 31 (.tmp 3), none⟩,
     ⟨some 10, .move (.tmp 1), none⟩,
     ⟨some 11, .move (.tmp 2), none⟩,
     ⟨some 12, .call { callee := .value (.func 41), args := #[.tmp 9, .tmp 10, .tmp 11], argTypes := #[31, 32, 3] }, none⟩,
     ⟨some 8, .assign (.tmp 12), none⟩])
  (.seq (.reg false [⟨some 13, .move (.tmp 8), none⟩,
     ⟨some 14, .binOp .neq 34 (.tmp 13) (.const (.int .i64 0)) 34, none⟩])
  (.cond (.tmp 14)
   (.seq (.reg false [⟨some 15, .move (.tmp 8), none⟩,
       ⟨some 6, .assign (.const (.int .i64 0)), none⟩,
       ⟨some 7, .assign (.tmp 15), none⟩])
    .ret)
   .skip)))
 (.seq (.reg false [⟨some 16, .load 31 (.tmp 3), none⟩,
    ⟨some 17, .move (.tmp 1), none⟩,
    ⟨some 18, .move (.tmp 2), none⟩,
    ⟨some 19, .call { callee := .value (.func 42), args := #[.tmp 16, .tmp 17, .tmp 18], argTypes := #[31, 32, 3] }, none⟩,
    ⟨some 20, .call { callee := .value (.func 43), args := #[.tmp 19], argTypes := #[117] }, none⟩,
    ⟨some 6, .assign (.tmp 20), none⟩,
    ⟨some 7, .assign (.const (.int .i64 0)), none⟩])
 .ret)))⟩
theorem sf10 : sfOf Try.f10 = some s10 := by kernel_rfl
theorem hb10 : hasBody Try.prog 10 = true := by kernel_rfl
def s15 : SF := ⟨159, [.cell 2 54],
 (.seq (.reg false [⟨some 1, .box 49 (.tmp 0), none⟩,
    ⟨some 2, .alloc 54, none⟩])
 (.seq (.reg false [⟨some 10, .build 54 #[], none⟩,
    ⟨some 3, .alloc 54, none⟩,
    ⟨none, .store 54 (.tmp 3) (.tmp 10), none⟩])
 (.seq (.seq (.reg false [⟨some 4, .assign (.const (.int .i64 0)), none⟩])
  (.block 0 (.loop (.seq (.seq (.reg false [⟨some 11, .move (.tmp 4), none⟩,
        ⟨some 12, .binOp .lss 3 (.tmp 11) (.const (.int .i64 2)) 3, none⟩,
        ⟨some 13, .move (.tmp 12), none⟩,
        ⟨some 14, .move (.tmp 4), some (13, false)⟩,
        ⟨some 15, .fieldAddr 49 (.tmp 1) 0, some (13, false)⟩,
        ⟨some 16, .load 46 (.tmp 15), some (13, false)⟩,
        ⟨some 17, .call { callee := .builtin .len, args := #[.tmp 16], argTypes := #[46] }, some (13, false)⟩,
        ⟨some 18, .binOp .lss 3 (.tmp 14) (.tmp 17) 3, some (13, false)⟩,
        ⟨some 19, .move (.tmp 18), some (13, false)⟩,
        ⟨some 20, .move (.tmp 4), some (19, true)⟩,
        ⟨some 21, .binOp .lss 3 (.tmp 20) (.const (.int .i64 5)) 3, some (19, true)⟩,
        ⟨some 22, .pick (.tmp 19) (.tmp 21) (.const (.bool false)), some (13, false)⟩,
        ⟨some 23, .pick (.tmp 13) (.const (.bool true)) (.tmp 22), none⟩])
     (.cond (.tmp 23)
      .skip
      (.exit 0)))
    (.seq (.block 1 (.seq (.reg false [⟨some 26, .move (.tmp 4), none⟩,
         ⟨some 27, .convert 3 5 (.tmp 26), none⟩,
         ⟨some 28, .build 127 #[(0, (.tmp 27)), (1, (.const (.int .u8 120))), (2, (.const (.int .u8 20))), (3, (.const (.int .u8 7))), (4, (.const (.int .u8 30))), (5, (.const (.int .u8 20)))], none⟩,
         ⟨some 5, .alloc 127, none⟩,
         ⟨none, .store 127 (.tmp 5) (.tmp 28), none⟩])
      (.seq (.seq (.reg false [⟨some 29, .move (.tmp 4), none⟩,
          ⟨some 30, .fieldAddr 49 (.tmp 1) 0, none⟩,
          ⟨some 31, .load 46 (.tmp 30), none⟩,
          ⟨some 32, .call { callee := .builtin .len, args := #[.tmp 31], argTypes := #[46] }, none⟩,
          ⟨some 33, .binOp .lss 3 (.tmp 29) (.tmp 32) 3, none⟩])
       (.cond (.tmp 33)
        (.reg false [⟨some 34, .fieldAddr 49 (.tmp 1) 0, none⟩,
           ⟨some 35, .load 46 (.tmp 34), none⟩,
           ⟨some 36, .move (.tmp 4), none⟩,
           ⟨some 37, .indexAddr 46 (.tmp 35) (.tmp 36), none⟩,
           ⟨some 38, .load 127 (.tmp 37), none⟩,
           ⟨none, .store 127 (.tmp 5) (.tmp 38), none⟩])
        .skip))
      (.seq (.reg true [⟨some 39, .move (.tmp 4), none⟩,
         ⟨some 40, .binOp .add 3 (.const (.int .i64 1)) (.tmp 39) 3, none⟩,
         ⟨some 41, .indexAddr 127 (.tmp 5) (.const (.int .i64 1)), none⟩,
         ⟨some 42, .load 5 (.tmp 41), none⟩,
         ⟨some 43, .convert 5 3 (.tmp 42), none⟩,
         ⟨some 44, .binOp .add 3 (.const (.int .i64 50)) (.tmp 43) 3, none⟩,
         ⟨some 45, .indexAddr 127 (.tmp 5) (.const (.int .i64 2)), none⟩,
         ⟨some 46, .load 5 (.tmp 45), none⟩,
         ⟨some 47, .convert 5 3 (.tmp 46), none⟩,
         ⟨some 48, .binOp .add 3 (.const (.int .i64 50)) (.tmp 47) 3, none⟩,
         ⟨some 49, .indexAddr 127 (.tmp 5) (.const (.int .i64 2)), none⟩,
         ⟨some 50, .load 5 (.tmp 49), none⟩,
         ⟨some 51, .convert 5 3 (.tmp 50), none⟩,
         ⟨some 52, .binOp .add 3 (.const (.int .i64 50)) (.tmp 51) 3, none⟩,
         ⟨some 53, .indexAddr 127 (.tmp 5) (.const (.int .i64 0)), none⟩,
         ⟨some 54, .load 5 (.tmp 53), none⟩,
         ⟨some 55, .convert 5 3 (.tmp 54), none⟩,
         ⟨some 56, .binOp .quo 3 (.tmp 55) (.const (.int .i64 8)) 3, none⟩,
         ⟨some 57, .binOp .add 3 (.tmp 52) (.tmp 56) 3, none⟩,
         ⟨some 58, .call { callee := .value (.func 22), args := #[.tmp 48, .tmp 57], argTypes := #[3, 3] }, none⟩,
         ⟨some 59, .indexAddr 127 (.tmp 5) (.const (.int .i64 3)), none⟩,
         ⟨some 60, .load 5 (.tmp 59), none⟩,
         ⟨some 61, .convert 5 3 (.tmp 60), none⟩,
         ⟨some 62, .binOp .rem 3 (.tmp 61) (.const (.int .i64 100)) 3, none⟩,
         ⟨some 63, .indexAddr 127 (.tmp 5) (.const (.int .i64 3)), none⟩,
         ⟨some 64, .load 5 (.tmp 63), none⟩,
         ⟨some 65, .convert 5 3 (.tmp 64), none⟩,
         ⟨some 66, .binOp .rem 3 (.tmp 65) (.const (.int .i64 100)) 3, none⟩,
         ⟨some 67, .indexAddr 127 (.tmp 5) (.const (.int .i64 3)), none⟩,
         ⟨some 68, .load 5 (.tmp 67), none⟩,
         ⟨some 69, .convert 5 3 (.tmp 68), none⟩,
         ⟨some 70, .binOp .quo 3 (.tmp 69) (.const (.int .i64 16)) 3, none⟩,
         ⟨some 71, .binOp .add 3 (.tmp 66) (.tmp 70) 3, none⟩,
         ⟨some 72, .call { callee := .value (.func 22), args := #[.tmp 62, .tmp 71], argTypes := #[3, 3] }, none⟩,
         ⟨some 73, .indexAddr 127 (.tmp 5) (.const (.int .i64 4)), none⟩,
         ⟨some 74, .load 5 (.tmp 73), none⟩,
         ⟨some 75, .convert 5 3 (.tmp 74), none⟩,
         ⟨some 76, .binOp .mul 3 (.const (.int .i64 1000)) (.tmp 75) 3, none⟩,
         ⟨some 77, .indexAddr 127 (.tmp 5) (.const (.int .i64 5)), none⟩,
         ⟨some 78, .load 5 (.tmp 77), none⟩,
         ⟨some 79, .convert 5 3 (.tmp 78), none⟩,
         ⟨some 80, .binOp .mul 3 (.const (.int .i64 10)) (.tmp 79) 3, none⟩,
         ⟨some 81, .build 89 #[(0, (.tmp 40)), (1, (.tmp 44)), (2, (.tmp 58)), (3, (.tmp 72)), (4, (.tmp 76)), (5, (.tmp 80))], none⟩,
         ⟨some 6, .alloc 89, none⟩,
         ⟨none, .store 89 (.tmp 6) (.tmp 81), none⟩])
      (.seq (.seq (.reg false [⟨some 82, .move (.tmp 4), none⟩,
          ⟨some 83, .binOp .gtr 3 (.tmp 82) (.const (.int .i64 1)) 3, none⟩])
       (.cond (.tmp 83)
        (.reg false [⟨some 84, .indexAddr 127 (.tmp 5) (.const (.int .i64 0)), none⟩,
           ⟨some 85, .load 5 (.tmp 84), none⟩,
           ⟨some 86, .binOp .rem 5 (.tmp 85) (.const (.int .u8 2)) 5, none⟩,
           ⟨some 87, .binOp .add 5 (.const (.int .u8 1)) (.tmp 86) 5, none⟩,
           ⟨some 88, .convert 5 87 (.tmp 87), none⟩,
           ⟨some 89, .fieldAddr 89 (.tmp 6) 0, none⟩,
           ⟨none, .store 87 (.tmp 89) (.tmp 88), none⟩])
        .skip))
      (.reg false [⟨some 90, .fieldAddr 54 (.tmp 3) 0, none⟩,
        ⟨some 91, .load 51 (.tmp 90), none⟩,
        ⟨some 92, .load 89 (.tmp 6), none⟩,
        ⟨some 93, .buildSlice 51 1 #[(0, (.tmp 92))], none⟩,
        ⟨some 94, .call { callee := .builtin .append, args := #[.tmp 91, .tmp 93], argTypes := #[51, 51] }, none⟩,
        ⟨some 95, .fieldAddr 54 (.tmp 3) 0, none⟩,
        ⟨none, .store 51 (.tmp 95) (.tmp 94), none⟩]))))))
    (.reg false [⟨some 24, .move (.tmp 4), none⟩,
      ⟨some 25, .binOp .add 3 (.tmp 24) (.const (.int .i64 1)) 3, none⟩,
      ⟨some 4, .assign (.tmp 25), none⟩]))))))
 (.seq (.seq (.reg false [⟨some 7, .assign (.const (.int .i64 0)), none⟩])
  (.block 2 (.loop (.seq (.seq (.reg false [⟨some 96, .move (.tmp 7), none⟩,
        ⟨some 97, .binOp .eql 3 (.tmp 96) (.const (.int .i64 0)) 3, none⟩,
        ⟨some 98, .move (.tmp 97), none⟩,
        ⟨some 99, .move (.tmp 7), some (98, false)⟩,
        ⟨some 100, .fieldAddr 49 (.tmp 1) 1, some (98, false)⟩,
        ⟨some 101, .load 47 (.tmp 100), some (98, false)⟩,
        ⟨some 102, .call { callee := .builtin .len, args := #[.tmp 101], argTypes := #[47] }, some (98, false)⟩,
        ⟨some 103, .binOp .lss 3 (.tmp 99) (.tmp 102) 3, some (98, false)⟩,
        ⟨some 104, .move (.tmp 103), some (98, false)⟩,
        ⟨some 105, .move (.tmp 7), some (104, true)⟩,
        ⟨some 106, .binOp .lss 3 (.tmp 105) (.const (.int .i64 3)) 3, some (104, true)⟩,
        ⟨some 107, .pick (.tmp 104) (.tmp 106) (.const (.bool false)), some (98, false)⟩,
        ⟨some 108, .pick (.tmp 98) (.const (.bool true)) (.tmp 107), none⟩])
     (.cond (.tmp 108)
      .skip
      (.exit 2)))
    (.seq (.block 3 (.seq (.reg false [⟨some 111, .build 98 #[(0, (.const (.int .u8 80))), (1, (.const (.int .u8 128))), (2, (.const (.int .u8 36)))], none⟩,
         ⟨some 8, .alloc 98, none⟩,
         ⟨none, .store 98 (.tmp 8) (.tmp 111), none⟩])
      (.seq (.seq (.reg false [⟨some 112, .move (.tmp 7), none⟩,
          ⟨some 113, .fieldAddr 49 (.tmp 1) 1, none⟩,
          ⟨some 114, .load 47 (.tmp 113), none⟩,
          ⟨some 115, .call { callee := .builtin .len, args := #[.tmp 114], argTypes := #[47] }, none⟩,
          ⟨some 116, .binOp .lss 3 (.tmp 112) (.tmp 115) 3, none⟩])
       (.cond (.tmp 116)
        (.reg false [⟨some 117, .fieldAddr 49 (.tmp 1) 1, none⟩,
           ⟨some 118, .load 47 (.tmp 117), none⟩,
           ⟨some 119, .move (.tmp 7), none⟩,
           ⟨some 120, .indexAddr 47 (.tmp 118) (.tmp 119), none⟩,
           ⟨some 121, .load 98 (.tmp 120), none⟩,
           ⟨none, .store 98 (.tmp 8) (.tmp 121), none⟩])
        .skip))
      (.seq (.reg false [⟨some 122, .indexAddr 98 (.tmp 8) (.const (.int .i64 0)), none⟩,
         ⟨some 123, .load 5 (.tmp 122), none⟩,
         ⟨some 124, .convert 5 3 (.tmp 123), none⟩,
         ⟨some 125, .binOp .mul 3 (.const (.int .i64 35)) (.tmp 124) 3, none⟩,
         ⟨some 126, .binOp .add 3 (.const (.int .i64 1000)) (.tmp 125) 3, none⟩,
         ⟨some 9, .assign (.tmp 126), none⟩])
      (.reg true [⟨some 127, .fieldAddr 54 (.tmp 3) 1, none⟩,
        ⟨some 128, .load 52 (.tmp 127), none⟩,
        ⟨some 129, .move (.tmp 9), none⟩,
        ⟨some 130, .move (.tmp 9), none⟩,
        ⟨some 131, .move (.tmp 9), none⟩,
        ⟨some 132, .indexAddr 98 (.tmp 8) (.const (.int .i64 1)), none⟩,
        ⟨some 133, .load 5 (.tmp 132), none⟩,
        ⟨some 134, .convert 5 3 (.tmp 133), none⟩,
        ⟨some 135, .binOp .mul 3 (.tmp 131) (.tmp 134) 3, none⟩,
        ⟨some 136, .binOp .quo 3 (.tmp 135) (.const (.int .i64 255)) 3, none⟩,
        ⟨some 137, .binOp .add 3 (.tmp 130) (.tmp 136) 3, none⟩,
        ⟨some 138, .indexAddr 98 (.tmp 8) (.const (.int .i64 2)), none⟩,
        ⟨some 139, .load 5 (.tmp 138), none⟩,
        ⟨some 140, .convert 5 3 (.tmp 139), none⟩,
        ⟨some 141, .binOp .mul 3 (.const (.int .i64 10)) (.tmp 140) 3, none⟩,
        ⟨some 142, .binOp .add 3 (.const (.int .i64 500)) (.tmp 141) 3, none⟩,
        ⟨some 143, .indexAddr 98 (.tmp 8) (.const (.int .i64 2)), none⟩,
        ⟨some 144, .load 5 (.tmp 143), none⟩,
        ⟨some 145, .convert 5 3 (.tmp 144), none⟩,
        ⟨some 146, .binOp .mul 3 (.const (.int .i64 10)) (.tmp 145) 3, none⟩,
        ⟨some 147, .binOp .add 3 (.const (.int .i64 500)) (.tmp 146) 3, none⟩,
        ⟨some 148, .indexAddr 98 (.tmp 8) (.const (.int .i64 1)), none⟩,
        ⟨some 149, .load 5 (.tmp 148), none⟩,
        ⟨some 150, .convert 5 3 (.tmp 149), none⟩,
        ⟨some 151, .binOp .rem 3 (.tmp 150) (.const (.int .i64 90)) 3, none⟩,
        ⟨some 152, .binOp .add 3 (.tmp 147) (.tmp 151) 3, none⟩,
        ⟨some 153, .call { callee := .value (.func 22), args := #[.tmp 142, .tmp 152], argTypes := #[3, 3] }, none⟩,
        ⟨some 154, .build 129 #[(0, (.tmp 129)), (1, (.tmp 137)), (2, (.tmp 153))], none⟩,
        ⟨some 155, .buildSlice 52 1 #[(0, (.tmp 154))], none⟩,
        ⟨some 156, .call { callee := .builtin .append, args := #[.tmp 128, .tmp 155], argTypes := #[52, 52] }, none⟩,
        ⟨some 157, .fieldAddr 54 (.tmp 3) 1, none⟩,
        ⟨none, .store 52 (.tmp 157) (.tmp 156), none⟩])))))
    (.reg false [⟨some 109, .move (.tmp 7), none⟩,
      ⟨some 110, .binOp .add 3 (.tmp 109) (.const (.int .i64 1)) 3, none⟩,
      ⟨some 7, .assign (.tmp 110), none⟩]))))))
 (.seq (.reg false [⟨some 158, .load 54 (.tmp 3), none⟩,
    ⟨none, .store 54 (.tmp 2) (.tmp 158), none⟩])
 .ret)))))⟩
theorem sf15 : sfOf Try.f15 = some s15 := by kernel_rfl
theorem hb15 : hasBody Try.prog 15 = true := by kernel_rfl
end Go.Dw.Seat
end
section
namespace Go.Dw.Seat
open Go Go.Dw Go.Proofs
def s16 : SF := ⟨87, [.cell 2 57],
 (.seq (.reg false [⟨some 1, .box 49 (.tmp 0), none⟩,
    ⟨some 2, .alloc 57, none⟩])
 (.seq (.reg false [⟨some 11, .load 49 (.tmp 1), none⟩,
    ⟨some 12, .call { callee := .value (.func 15), args := #[.tmp 11], argTypes := #[49] }, none⟩,
    ⟨some 13, .build 57 #[], none⟩,
    ⟨some 3, .alloc 54, none⟩,
    ⟨some 4, .alloc 57, none⟩,
    ⟨none, .store 54 (.tmp 3) (.tmp 12), none⟩,
    ⟨none, .store 57 (.tmp 4) (.tmp 13), none⟩])
 (.seq (.reg false [⟨some 14, .build 130 #[], none⟩,
    ⟨some 5, .alloc 130, none⟩,
    ⟨none, .store 130 (.tmp 5) (.tmp 14), none⟩])
 (.seq (.seq (.reg false [⟨some 6, .assign (.const (.int .i64 0)), none⟩])
  (.block 0 (.loop (.seq (.seq (.reg false [⟨some 15, .move (.tmp 6), none⟩,
        ⟨some 16, .fieldAddr 54 (.tmp 3) 0, none⟩,
        ⟨some 17, .load 51 (.tmp 16), none⟩,
        ⟨some 18, .call { callee := .builtin .len, args := #[.tmp 17], argTypes := #[51] }, none⟩,
        ⟨some 19, .binOp .lss 3 (.tmp 15) (.tmp 18) 3, none⟩])
     (.cond (.tmp 19)
      .skip
      (.exit 0)))
    (.seq (.block 1 (.seq (.reg false [⟨some 22, .fieldAddr 54 (.tmp 3) 0, none⟩,
         ⟨some 23, .load 51 (.tmp 22), none⟩,
         ⟨some 24, .move (.tmp 6), none⟩,
         ⟨some 25, .indexAddr 51 (.tmp 23) (.tmp 24), none⟩,
         ⟨some 26, .fieldAddr 89 (.tmp 25) 0, none⟩,
         ⟨some 27, .load 87 (.tmp 26), none⟩,
         ⟨some 28, .binOp .sub 3 (.tmp 27) (.const (.int .i64 1)) 3, none⟩,
         ⟨some 7, .assign (.tmp 28), none⟩])
      (.reg false [⟨some 29, .move (.tmp 7), none⟩,
        ⟨some 30, .move (.tmp 7), none⟩,
        ⟨some 31, .indexAddr 130 (.tmp 5) (.tmp 30), none⟩,
        ⟨some 32, .load 32 (.tmp 31), none⟩,
        ⟨some 33, .move (.tmp 6), none⟩,
        ⟨some 34, .buildSlice 32 1 #[(0, (.tmp 33))], none⟩,
        ⟨some 35, .call { callee := .builtin .append, args := #[.tmp 32, .tmp 34], argTypes := #[32, 32] }, none⟩,
        ⟨some 36, .indexAddr 130 (.tmp 5) (.tmp 29), none⟩,
        ⟨none, .store 32 (.tmp 36) (.tmp 35), none⟩])))
    (.reg false [⟨some 20, .move (.tmp 6), none⟩,
      ⟨some 21, .binOp .add 3 (.tmp 20) (.const (.int .i64 1)) 3, none⟩,
      ⟨some 6, .assign (.tmp 21), none⟩]))))))
 (.seq (.reg false [⟨some 37, .fieldAddr 49 (.tmp 1) 2, none⟩,
    ⟨some 38, .load 22 (.tmp 37), none⟩,
    ⟨some 39, .call { callee := .value (.func 33), args := #[.tmp 38, .const (.int .i64 0)], argTypes := #[22, 3] }, none⟩,
    ⟨some 40, .binOp .rem 3 (.tmp 39) (.const (.int .i64 2)) 3, none⟩,
    ⟨some 41, .binOp .add 3 (.const (.int .i64 1)) (.tmp 40) 3, none⟩,
    ⟨some 8, .assign (.tmp 41), none⟩])
 (.seq (.seq (.reg false [⟨some 9, .assign (.const (.int .i64 0)), none⟩])
  (.block 2 (.loop (.seq (.seq (.reg false [⟨some 42, .move (.tmp 9), none⟩,
        ⟨some 43, .move (.tmp 8), none⟩,
        ⟨some 44, .binOp .mul 3 (.const (.int .i64 2)) (.tmp 43) 3, none⟩,
        ⟨some 45, .binOp .add 3 (.tmp 44) (.const (.int .i64 1)) 3, none⟩,
        ⟨some 46, .binOp .lss 3 (.tmp 42) (.tmp 45) 3, none⟩])
     (.cond (.tmp 46)
      .skip
      (.exit 2)))
    (.seq (.block 3 (.seq (.reg false [⟨some 49, .move (.tmp 9), none⟩,
         ⟨some 50, .binOp .rem 3 (.tmp 49) (.const (.int .i64 2)) 3, none⟩,
         ⟨some 51, .indexAddr 130 (.tmp 5) (.tmp 50), none⟩,
         ⟨some 52, .load 32 (.tmp 51), none⟩,
         ⟨some 10, .assign (.tmp 52), none⟩])
      (.seq (.reg true [⟨some 53, .fieldAddr 57 (.tmp 4) 0, none⟩,
         ⟨some 54, .load 32 (.tmp 53), none⟩,
         ⟨some 55, .move (.tmp 10), none⟩,
         ⟨some 56, .fieldAddr 49 (.tmp 1) 2, none⟩,
         ⟨some 57, .load 22 (.tmp 56), none⟩,
         ⟨some 58, .move (.tmp 9), none⟩,
         ⟨some 59, .binOp .add 3 (.tmp 58) (.const (.int .i64 1)) 3, none⟩,
         ⟨some 60, .call { callee := .value (.func 33), args := #[.tmp 57, .tmp 59], argTypes := #[22, 3] }, none⟩,
         ⟨some 61, .move (.tmp 10), none⟩,
         ⟨some 62, .call { callee := .builtin .len, args := #[.tmp 61], argTypes := #[32] }, none⟩,
         ⟨some 63, .binOp .rem 3 (.tmp 60) (.tmp 62) 3, none⟩,
         ⟨some 64, .indexAddr 32 (.tmp 55) (.tmp 63), none⟩,
         ⟨some 65, .load 3 (.tmp 64), none⟩,
         ⟨some 66, .buildSlice 32 1 #[(0, (.tmp 65))], none⟩,
         ⟨some 67, .call { callee := .builtin .append, args := #[.tmp 54, .tmp 66], argTypes := #[32, 32] }, none⟩,
         ⟨some 68, .fieldAddr 57 (.tmp 4) 0, none⟩,
         ⟨none, .store 32 (.tmp 68) (.tmp 67), none⟩])
      (.seq (.reg false [⟨some 69, .move (.tmp 9), none⟩,
         ⟨some 70, .binOp .rem 3 (.tmp 69) (.const (.int .i64 2)) 3, none⟩,
         ⟨some 71, .binOp .eql 3 (.tmp 70) (.const (.int .i64 1)) 3, none⟩])
      (.cond (.tmp 71)
       (.reg true [⟨some 72, .fieldAddr 57 (.tmp 4) 1, none⟩,
          ⟨some 73, .load 32 (.tmp 72), none⟩,
          ⟨some 74, .fieldAddr 49 (.tmp 1) 2, none⟩,
          ⟨some 75, .load 22 (.tmp 74), none⟩,
          ⟨some 76, .move (.tmp 9), none⟩,
          ⟨some 77, .binOp .add 3 (.tmp 76) (.const (.int .i64 6)) 3, none⟩,
          ⟨some 78, .call { callee := .value (.func 33), args := #[.tmp 75, .tmp 77], argTypes := #[22, 3] }, none⟩,
          ⟨some 79, .fieldAddr 54 (.tmp 3) 1, none⟩,
          ⟨some 80, .load 52 (.tmp 79), none⟩,
          ⟨some 81, .call { callee := .builtin .len, args := #[.tmp 80], argTypes := #[52] }, none⟩,
          ⟨some 82, .binOp .rem 3 (.tmp 78) (.tmp 81) 3, none⟩,
          ⟨some 83, .buildSlice 32 1 #[(0, (.tmp 82))], none⟩,
          ⟨some 84, .call { callee := .builtin .append, args := #[.tmp 73, .tmp 83], argTypes := #[32, 32] }, none⟩,
          ⟨some 85, .fieldAddr 57 (.tmp 4) 1, none⟩,
          ⟨none, .store 32 (.tmp 85) (.tmp 84), none⟩])
       .skip)))))
    (.reg false [⟨some 47, .move (.tmp 9), none⟩,
      ⟨some 48, .binOp .add 3 (.tmp 47) (.const (.int .i64 1)) 3, none⟩,
      ⟨some 9, .assign (.tmp 48), none⟩]))))))
 (.seq (.reg false [⟨some 86, .load 57 (.tmp 4), none⟩,
    ⟨none, .store 57 (.tmp 2) (.tmp 86), none⟩])
 .ret)))))))⟩
theorem sf16 : sfOf Try.f16 = some s16 := by kernel_rfl
theorem hb16 : hasBody Try.prog 16 = true := by kernel_rfl
def s17 : SF := ⟨26, [.cell 4 60, .cell 5 60, .tmp 6],
 (.seq (.reg false [⟨some 2, .box 54 (.tmp 0), none⟩,
    ⟨some 3, .box 57 (.tmp 1), none⟩,
    ⟨some 4, .alloc 60, none⟩,
    ⟨some 5, .alloc 60, none⟩,
    ⟨some 6, .assign (.const (.int .i64 0)), none⟩])
 (.seq (.reg false [⟨some 9, .load 54 (.tmp 2), none⟩,
    ⟨some 10, .load 57 (.tmp 3), none⟩,
    ⟨some 11, .call { callee := .value (.func 48), args := #[.tmp 9, .tmp 10], argTypes := #[54, 57] }, none⟩,
    ⟨some 8, .move (.tmp 11), none⟩,
    ⟨some 12, .extract (.tmp 8) 0, none⟩,
    ⟨some 13, .extract (.tmp 8) 1, none⟩,
    ⟨some 7, .alloc 132, none⟩,
    ⟨none, .store 132 (.tmp 7) (.tmp 12), none⟩,
    ⟨some 6, .assign (.tmp 13), none⟩])
 (.seq (.seq (.reg false [⟨some 14, .move (.tmp 6), none⟩,
     ⟨some 15, .binOp .neq 34 (.tmp 14) (.const (.int .i64 0)) 34, none⟩])
  (.cond (.tmp 15)
   (.seq (.ord (.op ⟨some 16, .load 60 (.tmp 4), none⟩ (.alt (.op ⟨some 17, .load 60 (.tmp 5), none⟩ (.alt (.op ⟨some 18, .move (.tmp 6), none⟩ (.op ⟨none, .store 60 (.tmp 4) (.tmp 16), none⟩ (.op ⟨none, .store 60 (.tmp 5) (.tmp 17), none⟩ (.op ⟨some 6, .assign (.tmp 18), none⟩ .done))))
 (.op ⟨none, .store 60 (.tmp 4) (.tmp 16), none⟩ (.alt (.op ⟨some 18, .move (.tmp 6), none⟩ (.op ⟨none, .store 60 (.tmp 5) (.tmp 17), none⟩ (.op ⟨some 6, .assign (.tmp 18), none⟩ .done)))
 (.op ⟨none, .store 60 (.tmp 5) (.tmp 17), none⟩ (.op ⟨some 18, .move (.tmp 6), none⟩ (.op ⟨some 6, .assign (.tmp 18), none⟩ .done)))))))
 (.alt (.op ⟨some 18, .move (.tmp 6), none⟩ (.alt (.op ⟨some 17, .load 60 (.tmp 5), none⟩ (.op ⟨none, .store 60 (.tmp 4) (.tmp 16), none⟩ (.op ⟨none, .store 60 (.tmp 5) (.tmp 17), none⟩ (.op ⟨some 6, .assign (.tmp 18), none⟩ .done))))
 (.op ⟨none, .store 60 (.tmp 4) (.tmp 16), none⟩ (.op ⟨some 17, .load 60 (.tmp 5), none⟩ (.op ⟨none, .store 60 (.tmp 5) (.tmp 17), none⟩ (.op ⟨some 6, .assign (.tmp 18), none⟩ .done))))))
 (.op ⟨none, .store 60 (.tmp 4) (.tmp 16), none⟩ (.op ⟨some 17, .load 60 (.tmp 5), none⟩ (.alt (.op ⟨some 18, .move (.tmp 6), none⟩ (.op ⟨none, .store 60 (.tmp 5) (.tmp 17), none⟩ (.op ⟨some 6, .assign (.tmp 18), none⟩ .done)))
 (.op ⟨none, .store 60 (.tmp 5) (.tmp 17), none⟩ (.op ⟨some 18, .move (.tmp 6), none⟩ (.op ⟨some 6, .assign (.tmp 18), none⟩ .done))))))))))
    .ret)
   .skip))
 (.seq (.reg false [⟨some 20, .load 132 (.tmp 7), none⟩,
    ⟨some 21, .call { callee := .value (.func 49), args := #[.tmp 20], argTypes := #[132] }, none⟩,
    ⟨some 19, .move (.tmp 21), none⟩,
    ⟨some 22, .extract (.tmp 19) 0, none⟩,
    ⟨some 23, .extract (.tmp 19) 1, none⟩,
    ⟨none, .store 60 (.tmp 4) (.tmp 22), none⟩,
    ⟨none, .store 60 (.tmp 5) (.tmp 23), none⟩])
 (.seq (.ord (.op ⟨some 24, .load 60 (.tmp 4), none⟩ (.alt (.op ⟨some 25, .load 60 (.tmp 5), none⟩ (.op ⟨none, .store 60 (.tmp 4) (.tmp 24), none⟩ (.op ⟨none, .store 60 (.tmp 5) (.tmp 25), none⟩ (.op ⟨some 6, .assign (.const (.int .i64 0)), none⟩ .done))))
 (.op ⟨none, .store 60 (.tmp 4) (.tmp 24), none⟩ (.op ⟨some 25, .load 60 (.tmp 5), none⟩ (.op ⟨none, .store 60 (.tmp 5) (.tmp 25), none⟩ (.op ⟨some 6, .assign (.const (.int .i64 0)), none⟩ .done)))))))
 .ret)))))⟩
theorem sf17 : sfOf Try.f17 = some s17 := by kernel_rfl
theorem hb17 : hasBody Try.prog 17 = true := by kernel_rfl
def s20 : SF := ⟨19, [.tmp 4, .tmp 5],
 (.seq (.reg false [⟨some 2, .box 54 (.tmp 0), none⟩,
    ⟨some 3, .box 57 (.tmp 1), none⟩,
    ⟨some 4, .assign (.const (.int .i64 0)), none⟩,
    ⟨some 5, .assign (.const (.int .i64 0)), none⟩])
 (.seq (.reg false [⟨some 9, .load 54 (.tmp 2), none⟩,
    ⟨some 10, .load 57 (.tmp 3), none⟩,
    ⟨some 11, .call { callee := .value (.func 48), args := #[.tmp 9, .tmp 10], argTypes := #[54, 57] }, none⟩,
    ⟨some 8, .move (.tmp 11), none⟩,
    ⟨some 12, .extract (.tmp 8) 0, none⟩,
    ⟨some 13, .extract (.tmp 8) 1, none⟩,
    ⟨some 6, .alloc 132, none⟩,
    ⟨none, .store 132 (.tmp 6) (.tmp 12), none⟩,
    ⟨some 7, .assign (.tmp 13), none⟩])
 (.seq (.seq (.reg false [⟨some 14, .move (.tmp 7), none⟩,
     ⟨some 15, .binOp .neq 34 (.tmp 14) (.const (.int .i64 0)) 34, none⟩])
  (.cond (.tmp 15)
   (.seq (.reg false [⟨some 16, .move (.tmp 7), none⟩,
       ⟨some 4, .assign (.const (.int .i64 0)), none⟩,
       ⟨some 5, .assign (.tmp 16), none⟩])
    .ret)
   .skip))
 (.seq (.reg false [⟨some 17, .load 132 (.tmp 6), none⟩,
    ⟨some 18, .call { callee := .value (.func 50), args := #[.tmp 17], argTypes := #[132] }, none⟩,
    ⟨some 4, .assign (.tmp 18), none⟩,
    ⟨some 5, .assign (.const (.int .i64 0)), none⟩])
 .ret))))⟩
theorem sf20 : sfOf Try.f20 = some s20 := by kernel_rfl
theorem hb20 : hasBody Try.prog 20 = true := by kernel_rfl
def s21 : SF := ⟨55, [.tmp 0],
 (.seq (.reg false [⟨some 0, .assign (.const (.bool false)), none⟩])
 (.seq (.reg false [⟨some 8, .call { callee := .value (.func 22), args := #[.const (.int .i64 250), .const (.int .i64 270)], argTypes := #[3, 3] }, none⟩,
    ⟨some 9, .call { callee := .value (.func 22), args := #[.const (.int .i64 60), .const (.int .i64 80)], argTypes := #[3, 3] }, none⟩,
    ⟨some 10, .build 89 #[(0, (.const (.int .i64 1))), (1, (.const (.int .i64 200))), (2, (.tmp 8)), (3, (.tmp 9)), (4, (.const (.int .i64 400000))), (5, (.const (.int .i64 300)))], none⟩,
    ⟨some 11, .call { callee := .value (.func 22), args := #[.const (.int .i64 180), .const (.int .i64 190)], argTypes := #[3, 3] }, none⟩,
    ⟨some 12, .call { callee := .value (.func 22), args := #[.const (.int .i64 70), .const (.int .i64 90)], argTypes := #[3, 3] }, none⟩,
    ⟨some 13, .build 89 #[(0, (.const (.int .i64 2))), (1, (.const (.int .i64 120))), (2, (.tmp 11)), (3, (.tmp 12)), (4, (.const (.int .i64 300000))), (5, (.const (.int .i64 200)))], none⟩,
    ⟨some 14, .buildSlice 51 2 #[(0, (.tmp 10)), (1, (.tmp 13))], none⟩,
    ⟨some 15, .call { callee := .value (.func 22), args := #[.const (.int .i64 3600), .const (.int .i64 3700)], argTypes := #[3, 3] }, none⟩,
    ⟨some 16, .build 129 #[(0, (.const (.int .i64 8000))), (1, (.const (.int .i64 12000))), (2, (.tmp 15))], none⟩,
    ⟨some 17, .buildSlice 52 1 #[(0, (.tmp 16))], none⟩,
    ⟨some 18, .build 54 #[(0, (.tmp 14)), (1, (.tmp 17))], none⟩,
    ⟨some 1, .alloc 54, none⟩,
    ⟨none, .store 54 (.tmp 1) (.tmp 18), none⟩])
 (.seq (.reg false [⟨some 19, .buildSlice 32 3 #[(0, (.const (.int .i64 0))), (1, (.const (.int .i64 1))), (2, (.const (.int .i64 0)))], none⟩,
    ⟨some 20, .buildSlice 32 1 #[(0, (.const (.int .i64 0)))], none⟩,
    ⟨some 21, .build 57 #[(0, (.tmp 19)), (1, (.tmp 20))], none⟩,
    ⟨some 2, .alloc 57, none⟩,
    ⟨none, .store 57 (.tmp 2) (.tmp 21), none⟩])
 (.seq (.reg false [⟨some 23, .load 54 (.tmp 1), none⟩,
    ⟨some 24, .load 57 (.tmp 2), none⟩,
    ⟨some 25, .call { callee := .value (.func 17), args := #[.tmp 23, .tmp 24], argTypes := #[54, 57] }, none⟩,
    ⟨some 22, .move (.tmp 25), none⟩,
    ⟨some 26, .extract (.tmp 22) 0, none⟩,
    ⟨some 27, .extract (.tmp 22) 1, none⟩,
    ⟨some 28, .extract (.tmp 22) 2, none⟩,
    ⟨some 3, .alloc 60, none⟩,
    ⟨some 4, .alloc 60, none⟩,
    ⟨none, .store 60 (.tmp 3) (.tmp 26), none⟩,
    ⟨none, .store 60 (.tmp 4) (.tmp 27), none⟩,
    ⟨some 5, .assign (.tmp 28), none⟩])
 (.seq (.reg false [⟨some 30, .load 54 (.tmp 1), none⟩,
    ⟨some 31, .load 57 (.tmp 2), none⟩,
    ⟨some 32, .call { callee := .value (.func 20), args := #[.tmp 30, .tmp 31], argTypes := #[54, 57] }, none⟩,
    ⟨some 29, .move (.tmp 32), none⟩,
    ⟨some 33, .extract (.tmp 29) 0, none⟩,
    ⟨some 34, .extract (.tmp 29) 1, none⟩,
    ⟨some 6, .assign (.tmp 33), none⟩,
    ⟨some 7, .assign (.tmp 34), none⟩])
 (.seq (.reg true [⟨some 35, .move (.tmp 5), none⟩,
    ⟨some 36, .binOp .eql 34 (.tmp 35) (.const (.int .i64 0)) 34, none⟩,
    ⟨some 37, .move (.tmp 36), none⟩,
    ⟨some 38, .move (.tmp 7), some (37, true)⟩,
    ⟨some 39, .binOp .eql 34 (.tmp 38) (.const (.int .i64 0)) 34, some (37, true)⟩,
    ⟨some 40, .pick (.tmp 37) (.tmp 39) (.const (.bool false)), none⟩,
    ⟨some 41, .move (.tmp 40), none⟩,
    ⟨some 42, .load 60 (.tmp 3), some (41, true)⟩,
    ⟨some 43, .call { callee := .value (.func 22), args := #[.const (.int .i64 616), .const (.int .i64 628)], argTypes := #[3, 3] }, some (41, true)⟩,
    ⟨some 44, .binOp .eql 60 (.tmp 42) (.tmp 43) 60, some (41, true)⟩,
    ⟨some 45, .pick (.tmp 41) (.tmp 44) (.const (.bool false)), none⟩,
    ⟨some 46, .move (.tmp 45), none⟩,
    ⟨some 47, .load 60 (.tmp 4), some (46, true)⟩,
    ⟨some 48, .call { callee := .value (.func 22), args := #[.const (.int .i64 4100), .const (.int .i64 4240)], argTypes := #[3, 3] }, some (46, true)⟩,
    ⟨some 49, .binOp .eql 60 (.tmp 47) (.tmp 48) 60, some (46, true)⟩,
    ⟨some 50, .pick (.tmp 46) (.tmp 49) (.const (.bool false)), none⟩,
    ⟨some 51, .move (.tmp 50), none⟩,
    ⟨some 52, .move (.tmp 6), some (51, true)⟩,
    ⟨some 53, .binOp .eql 3 (.tmp 52) (.const (.int .i64 900)) 3, some (51, true)⟩,
    ⟨some 54, .pick (.tmp 51) (.tmp 53) (.const (.bool false)), none⟩,
    ⟨some 0, .assign (.tmp 54), none⟩])
 .ret))))))⟩
theorem sf21 : sfOf Try.f21 = some s21 := by kernel_rfl
theorem hb21 : hasBody Try.prog 21 = true := by kernel_rfl
def s22 : SF := ⟨8, [.cell 4 60],
 (.seq (.reg false [⟨some 4, .alloc 60, none⟩])
 (.seq (.reg false [⟨some 5, .move (.tmp 0), none⟩,
    ⟨some 6, .move (.tmp 1), none⟩,
    ⟨some 7, .build 60 #[(0, (.tmp 5)), (1, (.tmp 6))], none⟩,
    ⟨none, .store 60 (.tmp 4) (.tmp 7), none⟩])
 .ret))⟩
theorem sf22 : sfOf Try.f22 = some s22 := by kernel_rfl
theorem hb22 : hasBody Try.prog 22 = true := by kernel_rfl
def s23 : SF := ⟨48, [.cell 2 60, .tmp 3],
 (.seq (.reg false [⟨some 1, .box 69 (.tmp 0), none⟩,
    ⟨some 2, .alloc 60, none⟩,
    ⟨some 3, .assign (.const (.int .i64 0)), none⟩])
 (.seq (.seq (.reg false [⟨some 5, .fieldAddr 69 (.tmp 1) 0, none⟩,
     ⟨some 6, .load 60 (.tmp 5), none⟩,
     ⟨some 7, .call { callee := .value (.func 51), args := #[.tmp 6, .const (.int .i64 0), .const (.int .i64 100000)], argTypes := #[60, 3, 3] }, none⟩,
     ⟨some 8, .unOp .not 4 (.tmp 7), none⟩,
     ⟨some 9, .move (.tmp 8), none⟩,
     ⟨some 10, .fieldAddr 69 (.tmp 1) 1, some (9, false)⟩,
     ⟨some 11, .load 60 (.tmp 10), some (9, false)⟩,
     ⟨some 12, .call { callee := .value (.func 51), args := #[.tmp 11, .const (.int .i64 1), .const (.int .i64 10000)], argTypes := #[60, 3, 3] }, some (9, false)⟩,
     ⟨some 13, .unOp .not 4 (.tmp 12), some (9, false)⟩,
     ⟨some 14, .pick (.tmp 9) (.const (.bool true)) (.tmp 13), none⟩,
     ⟨some 15, .move (.tmp 14), none⟩,
     ⟨some 16, .fieldAddr 69 (.tmp 1) 2, some (15, false)⟩,
     ⟨some 17, .load 3 (.tmp 16), some (15, false)⟩,
     ⟨some 18, .buildSlice 32 1 #[(0, (.tmp 17))], some (15, false)⟩,
     ⟨some 19, .call { callee := .value (.func 52), args := #[.const (.int .i64 1), .const (.int .i64 20000), .tmp 18], argTypes := #[3, 3, 32] }, some (15, false)⟩,
     ⟨some 20, .unOp .not 4 (.tmp 19), some (15, false)⟩,
     ⟨some 21, .pick (.tmp 15) (.const (.bool true)) (.tmp 20), none⟩,
     ⟨some 22, .move (.tmp 21), none⟩,
     ⟨some 23, .fieldAddr 69 (.tmp 1) 3, some (22, false)⟩,
     ⟨some 24, .load 3 (.tmp 23), some (22, false)⟩,
     ⟨some 25, .buildSlice 32 1 #[(0, (.tmp 24))], some (22, false)⟩,
     ⟨some 26, .call { callee := .value (.func 52), args := #[.const (.int .i64 1), .const (.int .i64 1000), .tmp 25], argTypes := #[3, 3, 32] }, some (22, false)⟩,
     ⟨some 27, .unOp .not 4 (.tmp 26), some (22, false)⟩,
     ⟨some 28, .pick (.tmp 22) (.const (.bool true)) (.tmp 27), none⟩])
  (.cond (.tmp 28)
   (.seq (.reg false [⟨some 29, .load 60 (.tmp 2), none⟩,
       ⟨none, .store 60 (.tmp 2) (.tmp 29), none⟩,
       ⟨some 3, .assign (.const (.int .i64 2)), none⟩])
    .ret)
   .skip))
 (.seq (.reg false [⟨some 30, .makeFunc (.func 53) #[] #[.tmp 1], none⟩,
    ⟨some 4, .assign (.tmp 30), none⟩])
 (.seq (.reg true [⟨some 31, .move (.tmp 4), none⟩,
    ⟨some 32, .fieldAddr 69 (.tmp 1) 0, none⟩,
    ⟨some 33, .fieldAddr 60 (.tmp 32) 0, none⟩,
    ⟨some 34, .load 3 (.tmp 33), none⟩,
    ⟨some 35, .fieldAddr 69 (.tmp 1) 1, none⟩,
    ⟨some 36, .fieldAddr 60 (.tmp 35) 0, none⟩,
    ⟨some 37, .load 3 (.tmp 36), none⟩,
    ⟨some 38, .call { callee := .value (.tmp 31), args := #[.tmp 34, .tmp 37], argTypes := #[3, 3] }, none⟩,
    ⟨some 39, .move (.tmp 4), none⟩,
    ⟨some 40, .fieldAddr 69 (.tmp 1) 0, none⟩,
    ⟨some 41, .fieldAddr 60 (.tmp 40) 1, none⟩,
    ⟨some 42, .load 3 (.tmp 41), none⟩,
    ⟨some 43, .fieldAddr 69 (.tmp 1) 1, none⟩,
    ⟨some 44, .fieldAddr 60 (.tmp 43) 1, none⟩,
    ⟨some 45, .load 3 (.tmp 44), none⟩,
    ⟨some 46, .call { callee := .value (.tmp 39), args := #[.tmp 42, .tmp 45], argTypes := #[3, 3] }, none⟩,
    ⟨some 47, .build 60 #[(0, (.tmp 38)), (1, (.tmp 46))], none⟩,
    ⟨none, .store 60 (.tmp 2) (.tmp 47), none⟩,
    ⟨some 3, .assign (.const (.int .i64 0)), none⟩])
 .ret))))⟩
theorem sf23 : sfOf Try.f23 = some s23 := by kernel_rfl
theorem hb23 : hasBody Try.prog 23 = true := by kernel_rfl
def s25 : SF := ⟨38, [.tmp 0],
 (.seq (.reg false [⟨some 0, .assign (.const (.bool false)), none⟩])
 (.seq (.reg false [⟨some 6, .call { callee := .value (.func 22), args := #[.const (.int .i64 5000), .const (.int .i64 6000)], argTypes := #[3, 3] }, none⟩,
    ⟨some 7, .call { callee := .value (.func 22), args := #[.const (.int .i64 4000), .const (.int .i64 4200)], argTypes := #[3, 3] }, none⟩,
    ⟨some 8, .build 69 #[(0, (.tmp 6)), (1, (.tmp 7)), (2, (.const (.int .i64 1600))), (3, (.const (.int .i64 587)))], none⟩,
    ⟨some 9, .call { callee := .value (.func 23), args := #[.tmp 8], argTypes := #[69] }, none⟩,
    ⟨some 5, .move (.tmp 9), none⟩,
    ⟨some 10, .extract (.tmp 5) 0, none⟩,
    ⟨some 11, .extract (.tmp 5) 1, none⟩,
    ⟨some 1, .alloc 60, none⟩,
    ⟨none, .store 60 (.tmp 1) (.tmp 10), none⟩,
    ⟨some 2, .assign (.tmp 11), none⟩])
 (.seq (.reg false [⟨some 13, .call { callee := .value (.func 22), args := #[.const (.int .i64 300), .const (.int .i64 320)], argTypes := #[3, 3] }, none⟩,
    ⟨some 14, .call { callee := .value (.func 22), args := #[.const (.int .i64 100), .const (.int .i64 110)], argTypes := #[3, 3] }, none⟩,
    ⟨some 15, .build 143 #[(0, (.tmp 13)), (1, (.tmp 14))], none⟩,
    ⟨some 16, .build 145 #[(1, (.const (.int .i64 1000)))], none⟩,
    ⟨some 17, .build 145 #[(0, (.const (.int .i64 10))), (1, (.const (.int .i64 800)))], none⟩,
    ⟨some 18, .build 145 #[(0, (.const (.int .i64 30))), (1, (.const (.int .i64 600)))], none⟩,
    ⟨some 19, .buildSlice 146 3 #[(0, (.tmp 16)), (1, (.tmp 17)), (2, (.tmp 18))], none⟩,
    ⟨some 20, .call { callee := .value (.func 56), args := #[.tmp 15, .tmp 19, .const (.int .i64 10)], argTypes := #[143, 146, 3] }, none⟩,
    ⟨some 12, .move (.tmp 20), none⟩,
    ⟨some 21, .extract (.tmp 12) 0, none⟩,
    ⟨some 22, .extract (.tmp 12) 1, none⟩,
    ⟨some 3, .assign (.tmp 21), none⟩,
    ⟨some 4, .assign (.tmp 22), none⟩])
 (.seq (.reg true [⟨some 23, .move (.tmp 2), none⟩,
    ⟨some 24, .binOp .eql 34 (.tmp 23) (.const (.int .i64 0)) 34, none⟩,
    ⟨some 25, .move (.tmp 24), none⟩,
    ⟨some 26, .move (.tmp 4), some (25, true)⟩,
    ⟨some 27, .binOp .eql 34 (.tmp 26) (.const (.int .i64 0)) 34, some (25, true)⟩,
    ⟨some 28, .pick (.tmp 25) (.tmp 27) (.const (.bool false)), none⟩,
    ⟨some 29, .move (.tmp 28), none⟩,
    ⟨some 30, .load 60 (.tmp 1), some (29, true)⟩,
    ⟨some 31, .call { callee := .value (.func 22), args := #[.const (.int .i64 74226), .const (.int .i64 91290)], argTypes := #[3, 3] }, some (29, true)⟩,
    ⟨some 32, .binOp .eql 60 (.tmp 30) (.tmp 31) 60, some (29, true)⟩,
    ⟨some 33, .pick (.tmp 29) (.tmp 32) (.const (.bool false)), none⟩,
    ⟨some 34, .move (.tmp 33), none⟩,
    ⟨some 35, .move (.tmp 3), some (34, true)⟩,
    ⟨some 36, .binOp .eql 3 (.tmp 35) (.const (.int .i64 3)) 3, some (34, true)⟩,
    ⟨some 37, .pick (.tmp 34) (.tmp 36) (.const (.bool false)), none⟩,
    ⟨some 0, .assign (.tmp 37), none⟩])
 .ret))))⟩
theorem sf25 : sfOf Try.f25 = some s25 := by kernel_rfl
theorem hb25 : hasBody Try.prog 25 = true := by kernel_rfl
def s33 : SF := ⟨16, [.tmp 4],
 (.seq (.reg false [⟨some 4, .assign (.const (.int .i64 0)), none⟩])
 (.seq (.seq (.reg false [⟨some 5, .move (.tmp 0), none⟩,
     ⟨some 6, .call { callee := .builtin .len, args := #[.tmp 5], argTypes := #[22] }, none⟩,
     ⟨some 7, .binOp .eql 3 (.tmp 6) (.const (.int .i64 0)) 3, none⟩])
  (.cond (.tmp 7)
   (.seq (.reg false [⟨some 4, .assign (.const (.int .i64 0)), none⟩])
    .ret)
   .skip))
 (.seq (.reg false [⟨some 8, .move (.tmp 0), none⟩,
    ⟨some 9, .move (.tmp 1), none⟩,
    ⟨some 10, .move (.tmp 0), none⟩,
    ⟨some 11, .call { callee := .builtin .len, args := #[.tmp 10], argTypes := #[22] }, none⟩,
    ⟨some 12, .binOp .rem 3 (.tmp 9) (.tmp 11) 3, none⟩,
    ⟨some 13, .indexAddr 22 (.tmp 8) (.tmp 12), none⟩,
    ⟨some 14, .load 5 (.tmp 13), none⟩,
    ⟨some 15, .convert 5 3 (.tmp 14), none⟩,
    ⟨some 4, .assign (.tmp 15), none⟩])
 .ret)))⟩
theorem sf33 : sfOf Try.f33 = some s33 := by kernel_rfl
theorem hb33 : hasBody Try.prog 33 = true := by kernel_rfl
def s34 : SF := ⟨6, [.tmp 2],
 (.seq (.reg false [⟨some 2, .assign (.const (.slice none 0 0)), none⟩])
 (.seq (.reg false [⟨some 3, .buildSlice 32 0 #[], none⟩,
    ⟨some 4, .move (.tmp 0), none⟩,
    ⟨some 5, .call { callee := .builtin .append, args := #[.tmp 3, .tmp 4], argTypes := #[32, 32] }, none⟩,
    ⟨some 2, .assign (.tmp 5), none⟩])
 .ret))⟩
theorem sf34 : sfOf Try.f34 = some s34 := by kernel_rfl
theorem hb34 : hasBody Try.prog 34 = true := by kernel_rfl
def s35 : SF := ⟨26, [.tmp 6, .tmp 7, .tmp 8],
 (.seq (.reg false [⟨some 3, .box 31 (.tmp 0), none⟩,
    ⟨some 6, .assign (.const (.int .i64 0)), none⟩,
    ⟨some 7, .assign (.const (.int .i64 0)), none⟩,
    ⟨some 8, .assign (.const (.int .i64 0)), none⟩])
 (.seq (.seq (.reg false [⟨some 11, .load 31 (.tmp 3), none⟩,
     ⟨some 12, .move (.tmp 1), none⟩,
     ⟨some 13, .move (.tmp 2), none⟩,
     ⟨some 14, .call { callee := .value (.func 41), args := #[.tmp 11, .tmp 12, .tmp 13], argTypes := #[31, 32, 3] }, none⟩,
     ⟨some 9, .assign (.tmp 14), none⟩])
  (.seq (.reg false [⟨some 15, .move (.tmp 9), none⟩,
     ⟨some 16, .binOp .neq 34 (.tmp 15) (.const (.int .i64 0)) 34, none⟩])
  (.cond (.tmp 16)
   (.seq (.reg false [⟨some 17, .move (.tmp 9), none⟩,
       ⟨some 6, .assign (.const (.int .i64 0)), none⟩,
       ⟨some 7, .assign (.const (.int .i64 0)), none⟩,
       ⟨some 8, .assign (.tmp 17), none⟩])
    .ret)
   .skip)))
 (.seq (.reg false [⟨some 18, .load 31 (.tmp 3), none⟩,
    ⟨some 19, .move (.tmp 1), none⟩,
    ⟨some 20, .move (.tmp 2), none⟩,
    ⟨some 21, .call { callee := .value (.func 42), args := #[.tmp 18, .tmp 19, .tmp 20], argTypes := #[31, 32, 3] }, none⟩,
    ⟨some 10, .alloc 117, none⟩,
    ⟨none, .store 117 (.tmp 10) (.tmp 21), none⟩])
 (.seq (.reg true [⟨some 22, .load 117 (.tmp 10), none⟩,
    ⟨some 23, .call { callee := .value (.func 63), args := #[.tmp 22, .const (.int .i64 1), .const (.int .i64 100000)], argTypes := #[117, 33, 3] }, none⟩,
    ⟨some 24, .load 117 (.tmp 10), none⟩,
    ⟨some 25, .call { callee := .value (.func 63), args := #[.tmp 24, .const (.int .i64 2), .const (.int .i64 0)], argTypes := #[117, 33, 3] }, none⟩,
    ⟨some 6, .assign (.tmp 23), none⟩,
    ⟨some 7, .assign (.tmp 25), none⟩,
    ⟨some 8, .assign (.const (.int .i64 0)), none⟩])
 .ret))))⟩
theorem sf35 : sfOf Try.f35 = some s35 := by kernel_rfl
theorem hb35 : hasBody Try.prog 35 = true := by kernel_rfl
def s41 : SF := ⟨42, [.tmp 6],
 (.seq (.reg false [⟨some 3, .box 31 (.tmp 0), none⟩,
    ⟨some 6, .assign (.const (.int .i64 0)), none⟩])
 (.seq (.block 0 (.seq (.seq (.reg false [⟨some 8, .fieldAddr 31 (.tmp 3) 0, none⟩,
       ⟨some 9, .load 3 (.tmp 8), none⟩,
       ⟨some 10, .buildSlice 32 1 #[(0, (.tmp 9))], none⟩,
       ⟨some 11, .call { callee := .value (.func 52), args := #[.const (.int .i64 1), .const (.int .i64 20), .tmp 10], argTypes := #[3, 3, 32] }, none⟩,
       ⟨some 12, .unOp .not 4 (.tmp 11), none⟩,
       ⟨some 7, .assign (.tmp 12), none⟩])
    (.cond (.tmp 7)
     .skip
     (.seq (.reg false [⟨some 13, .fieldAddr 31 (.tmp 3) 1, none⟩,
         ⟨some 14, .load 3 (.tmp 13), none⟩,
         ⟨some 15, .fieldAddr 31 (.tmp 3) 2, none⟩,
         ⟨some 16, .load 3 (.tmp 15), none⟩,
         ⟨some 17, .buildSlice 32 2 #[(0, (.tmp 14)), (1, (.tmp 16))], none⟩,
         ⟨some 18, .call { callee := .value (.func 52), args := #[.const (.int .i64 0), .const (.int .i64 100000), .tmp 17], argTypes := #[3, 3, 32] }, none⟩,
         ⟨some 19, .unOp .not 4 (.tmp 18), none⟩,
         ⟨some 7, .assign (.tmp 19), none⟩])
      (.cond (.tmp 7)
       .skip
       (.reg false [⟨some 20, .fieldAddr 31 (.tmp 3) 0, none⟩,
          ⟨some 21, .load 3 (.tmp 20), none⟩,
          ⟨some 22, .fieldAddr 31 (.tmp 3) 3, none⟩,
          ⟨some 23, .load 3 (.tmp 22), none⟩,
          ⟨some 24, .buildSlice 32 1 #[(0, (.tmp 23))], none⟩,
          ⟨some 25, .call { callee := .value (.func 52), args := #[.const (.int .i64 0), .tmp 21, .tmp 24], argTypes := #[3, 3, 32] }, none⟩,
          ⟨some 26, .unOp .not 4 (.tmp 25), none⟩,
          ⟨some 7, .assign (.tmp 26), none⟩])))))
   (.cond (.tmp 7)
    (.seq (.reg false [⟨some 6, .assign (.const (.int .i64 2)), none⟩])
     .ret)
    (.seq (.reg false [⟨some 28, .move (.tmp 2), none⟩,
        ⟨some 29, .buildSlice 32 1 #[(0, (.tmp 28))], none⟩,
        ⟨some 30, .call { callee := .value (.func 52), args := #[.const (.int .i64 0), .const (.int .i64 1000), .tmp 29], argTypes := #[3, 3, 32] }, none⟩,
        ⟨some 31, .unOp .not 4 (.tmp 30), none⟩,
        ⟨some 27, .assign (.tmp 31), none⟩])
     (.cond (.tmp 27)
      (.seq (.reg false [⟨some 6, .assign (.const (.int .i64 3)), none⟩])
       .ret)
      (.seq (.reg false [⟨some 33, .move (.tmp 1), none⟩,
          ⟨some 34, .call { callee := .builtin .len, args := #[.tmp 33], argTypes := #[32] }, none⟩,
          ⟨some 35, .fieldAddr 31 (.tmp 3) 0, none⟩,
          ⟨some 36, .load 3 (.tmp 35), none⟩,
          ⟨some 37, .binOp .gtr 3 (.tmp 34) (.tmp 36) 3, none⟩,
          ⟨some 32, .assign (.tmp 37), none⟩])
       (.cond (.tmp 32)
        (.seq (.reg false [⟨some 6, .assign (.const (.int .i64 5)), none⟩])
         .ret)
        (.seq (.reg false [⟨some 39, .move (.tmp 1), none⟩,
            ⟨some 40, .call { callee := .value (.func 52), args := #[.const (.int .i64 0), .const (.int .i64 100000), .tmp 39], argTypes := #[3, 3, 32] }, none⟩,
            ⟨some 41, .unOp .not 4 (.tmp 40), none⟩,
            ⟨some 38, .assign (.tmp 41), none⟩])
         (.cond (.tmp 38)
          (.seq (.reg false [⟨some 6, .assign (.const (.int .i64 4)), none⟩])
           .ret)
          .skip)))))))))
 (.seq (.reg false [⟨some 6, .assign (.const (.int .i64 0)), none⟩])
 .ret)))⟩
theorem sf41 : sfOf Try.f41 = some s41 := by kernel_rfl
theorem hb41 : hasBody Try.prog 41 = true := by kernel_rfl
def s42 : SF := ⟨24, [.cell 6 117],
 (.seq (.reg false [⟨some 3, .box 31 (.tmp 0), none⟩,
    ⟨some 6, .alloc 117, none⟩])
 (.seq (.reg false [⟨some 10, .load 31 (.tmp 3), none⟩,
    ⟨some 11, .move (.tmp 2), none⟩,
    ⟨some 12, .build 117 #[(0, (.tmp 10)), (1, (.tmp 11))], none⟩,
    ⟨some 7, .alloc 117, none⟩,
    ⟨none, .store 117 (.tmp 7) (.tmp 12), none⟩])
 (.seq (.seq (.reg false [⟨some 13, .move (.tmp 1), none⟩,
     ⟨some 14, .call { callee := .builtin .len, args := #[.tmp 13], argTypes := #[32] }, none⟩,
     ⟨some 15, .move (.const (.int .i64 0)), none⟩])
  (.block 0 (.loop (.seq (.reg false [⟨some 16, .binOp .lss 3 (.tmp 15) (.tmp 14) 3, none⟩])
    (.seq (.cond (.tmp 16)
      .skip
      (.exit 0))
    (.seq (.block 1 (.seq (.reg false [⟨some 17, .indexAddr 32 (.tmp 13) (.tmp 15), none⟩,
         ⟨some 18, .load 3 (.tmp 17), none⟩,
         ⟨some 9, .assign (.tmp 18), none⟩])
      (.reg false [⟨some 19, .load 117 (.tmp 7), none⟩,
        ⟨some 20, .move (.tmp 9), none⟩,
        ⟨some 21, .call { callee := .value (.func 75), args := #[.tmp 19, .tmp 20], argTypes := #[117, 3] }, none⟩,
        ⟨none, .store 117 (.tmp 7) (.tmp 21), none⟩])))
    (.reg false [⟨some 22, .binOp .add 3 (.tmp 15) (.const (.int .i64 1)) 3, none⟩,
      ⟨some 15, .move (.tmp 22), none⟩])))))))
 (.seq (.reg false [⟨some 23, .load 117 (.tmp 7), none⟩,
    ⟨none, .store 117 (.tmp 6) (.tmp 23), none⟩])
 .ret))))⟩
theorem sf42 : sfOf Try.f42 = some s42 := by kernel_rfl
theorem hb42 : hasBody Try.prog 42 = true := by kernel_rfl
def s43 : SF := ⟨14, [.tmp 2],
 (.seq (.reg false [⟨some 1, .box 117 (.tmp 0), none⟩,
    ⟨some 2, .assign (.const (.int .i64 0)), none⟩])
 (.seq (.block 0 (.seq (.reg false [⟨some 4, .load 117 (.tmp 1), none⟩,
      ⟨some 5, .fieldAddr 117 (.tmp 1) 3, none⟩,
      ⟨some 6, .load 115 (.tmp 5), none⟩,
      ⟨some 7, .call { callee := .value (.func 76), args := #[.tmp 4, .tmp 6, .const (.int .i64 0)], argTypes := #[117, 115, 3] }, none⟩,
      ⟨some 3, .assign (.tmp 7), none⟩])
   (.cond (.tmp 3)
    (.seq (.reg false [⟨some 2, .assign (.const (.int .i64 1)), none⟩])
     .ret)
    (.seq (.reg false [⟨some 9, .load 117 (.tmp 1), none⟩,
        ⟨some 10, .fieldAddr 117 (.tmp 1) 4, none⟩,
        ⟨some 11, .load 115 (.tmp 10), none⟩,
        ⟨some 12, .call { callee := .value (.func 76), args := #[.tmp 9, .tmp 11, .const (.int .i64 100000)], argTypes := #[117, 115, 3] }, none⟩,
        ⟨some 13, .unOp .not 4 (.tmp 12), none⟩,
        ⟨some 8, .assign (.tmp 13), none⟩])
     (.cond (.tmp 8)
      (.seq (.reg false [⟨some 2, .assign (.const (.int .i64 2)), none⟩])
       .ret)
      .skip)))))
 (.seq (.reg false [⟨some 2, .assign (.const (.int .i64 3)), none⟩])
 .ret)))⟩
theorem sf43 : sfOf Try.f43 = some s43 := by kernel_rfl
theorem hb43 : hasBody Try.prog 43 = true := by kernel_rfl
def s48 : SF := ⟨17, [.cell 4 132, .tmp 5],
 (.seq (.reg false [⟨some 2, .box 54 (.tmp 0), none⟩,
    ⟨some 3, .box 57 (.tmp 1), none⟩,
    ⟨some 4, .alloc 132, none⟩,
    ⟨some 5, .assign (.const (.int .i64 0)), none⟩])
 (.seq (.seq (.reg false [⟨some 7, .load 54 (.tmp 2), none⟩,
     ⟨some 8, .load 57 (.tmp 3), none⟩,
     ⟨some 9, .call { callee := .value (.func 84), args := #[.tmp 7, .tmp 8], argTypes := #[54, 57] }, none⟩,
     ⟨some 6, .assign (.tmp 9), none⟩])
  (.seq (.reg false [⟨some 10, .move (.tmp 6), none⟩,
     ⟨some 11, .binOp .neq 34 (.tmp 10) (.const (.int .i64 0)) 34, none⟩])
  (.cond (.tmp 11)
   (.seq (.reg false [⟨some 12, .load 132 (.tmp 4), none⟩,
       ⟨some 13, .move (.tmp 6), none⟩,
       ⟨none, .store 132 (.tmp 4) (.tmp 12), none⟩,
       ⟨some 5, .assign (.tmp 13), none⟩])
    .ret)
   .skip)))
 (.seq (.reg false [⟨some 14, .load 54 (.tmp 2), none⟩,
    ⟨some 15, .load 57 (.tmp 3), none⟩,
    ⟨some 16, .call { callee := .value (.func 85), args := #[.tmp 14, .tmp 15], argTypes := #[54, 57] }, none⟩,
    ⟨none, .store 132 (.tmp 4) (.tmp 16), none⟩,
    ⟨some 5, .assign (.const (.int .i64 0)), none⟩])
 .ret)))⟩
theorem sf48 : sfOf Try.f48 = some s48 := by kernel_rfl
theorem hb48 : hasBody Try.prog 48 = true := by kernel_rfl
def s49 : SF := ⟨20, [.cell 2 60, .cell 3 60],
 (.seq (.reg false [⟨some 1, .box 132 (.tmp 0), none⟩,
    ⟨some 2, .alloc 60, none⟩,
    ⟨some 3, .alloc 60, none⟩])
 (.seq (.reg false [⟨some 4, .assign (.func 86), none⟩,
    ⟨some 5, .assign (.func 87), none⟩])
 (.seq (.ord (.op ⟨some 6, .load 132 (.tmp 1), none⟩ (.op ⟨some 7, .move (.tmp 4), none⟩ (.op ⟨some 8, .call { callee := .value (.func 88), args := #[.tmp 6, .tmp 7], argTypes := #[132, 186] }, none⟩ (.op ⟨some 9, .load 132 (.tmp 1), none⟩ (.op ⟨some 10, .move (.tmp 5), none⟩ (.op ⟨some 11, .call { callee := .value (.func 88), args := #[.tmp 9, .tmp 10], argTypes := #[132, 186] }, none⟩ (.op ⟨some 12, .build 60 #[(0, (.tmp 8)), (1, (.tmp 11))], none⟩ (.op ⟨some 13, .load 132 (.tmp 1), none⟩ (.op ⟨some 14, .move (.tmp 4), none⟩ (.op ⟨some 15, .call { callee := .value (.func 89), args := #[.tmp 13, .tmp 14], argTypes := #[132, 186] }, none⟩ (.op ⟨some 16, .load 132 (.tmp 1), none⟩ (.op ⟨some 17, .move (.tmp 5), none⟩ (.op ⟨some 18, .call { callee := .value (.func 89), args := #[.tmp 16, .tmp 17], argTypes := #[132, 186] }, none⟩ (.alt (.op ⟨some 19, .build 60 #[(0, (.tmp 15)), (1, (.tmp 18))], none⟩ (.op ⟨none, .store 60 (.tmp 2) (.tmp 12), none⟩ (.op ⟨none, .store 60 (.tmp 3) (.tmp 19), none⟩ .done)))
 (.op ⟨none, .store 60 (.tmp 2) (.tmp 12), none⟩ (.op ⟨some 19, .build 60 #[(0, (.tmp 15)), (1, (.tmp 18))], none⟩ (.op ⟨none, .store 60 (.tmp 3) (.tmp 19), none⟩ .done))))))))))))))))))
 .ret)))⟩
theorem sf49 : sfOf Try.f49 = some s49 := by kernel_rfl
theorem hb49 : hasBody Try.prog 49 = true := by kernel_rfl
def s50 : SF := ⟨8, [.tmp 2],
 (.seq (.reg false [⟨some 1, .box 132 (.tmp 0), none⟩,
    ⟨some 2, .assign (.const (.int .i64 0)), none⟩])
 (.seq (.reg true [⟨some 3, .load 132 (.tmp 1), none⟩,
    ⟨some 4, .call { callee := .value (.func 60), args := #[.tmp 3, .func 90], argTypes := #[132, 156] }, none⟩,
    ⟨some 5, .fieldAddr 132 (.tmp 1) 2, none⟩,
    ⟨some 6, .load 3 (.tmp 5), none⟩,
    ⟨some 7, .binOp .quo 3 (.tmp 4) (.tmp 6) 3, none⟩,
    ⟨some 2, .assign (.tmp 7), none⟩])
 .ret))⟩
theorem sf50 : sfOf Try.f50 = some s50 := by kernel_rfl
theorem hb50 : hasBody Try.prog 50 = true := by kernel_rfl
def s51 : SF := ⟨22, [.tmp 6],
 (.seq (.reg false [⟨some 3, .box 60 (.tmp 0), none⟩,
    ⟨some 6, .assign (.const (.bool false)), none⟩])
 (.seq (.reg false [⟨some 7, .move (.tmp 1), none⟩,
    ⟨some 8, .move (.tmp 2), none⟩,
    ⟨some 9, .fieldAddr 60 (.tmp 3) 0, none⟩,
    ⟨some 10, .load 3 (.tmp 9), none⟩,
    ⟨some 11, .fieldAddr 60 (.tmp 3) 1, none⟩,
    ⟨some 12, .load 3 (.tmp 11), none⟩,
    ⟨some 13, .buildSlice 32 2 #[(0, (.tmp 10)), (1, (.tmp 12))], none⟩,
    ⟨some 14, .call { callee := .value (.func 52), args := #[.tmp 7, .tmp 8, .tmp 13], argTypes := #[3, 3, 32] }, none⟩,
    ⟨some 15, .move (.tmp 14), none⟩,
    ⟨some 16, .fieldAddr 60 (.tmp 3) 0, some (15, true)⟩,
    ⟨some 17, .load 3 (.tmp 16), some (15, true)⟩,
    ⟨some 18, .fieldAddr 60 (.tmp 3) 1, some (15, true)⟩,
    ⟨some 19, .load 3 (.tmp 18), some (15, true)⟩,
    ⟨some 20, .binOp .leq 3 (.tmp 17) (.tmp 19) 3, some (15, true)⟩,
    ⟨some 21, .pick (.tmp 15) (.tmp 20) (.const (.bool false)), none⟩,
    ⟨some 6, .assign (.tmp 21), none⟩])
 .ret))⟩
theorem sf51 : sfOf Try.f51 = some s51 := by kernel_rfl
theorem hb51 : hasBody Try.prog 51 = true := by kernel_rfl
def s52 : SF := ⟨11, [.tmp 6],
 (.seq (.reg false [⟨some 3, .box 3 (.tmp 0), none⟩,
    ⟨some 4, .box 3 (.tmp 1), none⟩,
    ⟨some 6, .assign (.const (.bool false)), none⟩])
 (.seq (.reg false [⟨some 7, .move (.tmp 2), none⟩,
    ⟨some 8, .makeFunc (.func 91) #[] #[.tmp 3, .tmp 4], none⟩,
    ⟨some 9, .call { callee := .value (.func 79), args := #[.tmp 7, .tmp 8], argTypes := #[32, 182] }, none⟩,
    ⟨some 10, .unOp .not 4 (.tmp 9), none⟩,
    ⟨some 6, .assign (.tmp 10), none⟩])
 .ret))⟩
theorem sf52 : sfOf Try.f52 = some s52 := by kernel_rfl
theorem hb52 : hasBody Try.prog 52 = true := by kernel_rfl
def s53 : SF := ⟨17, [.tmp 5],
 (.seq (.reg false [⟨some 5, .assign (.const (.int .i64 0)), none⟩])
 (.seq (.reg true [⟨some 6, .move (.tmp 0), none⟩,
    ⟨some 7, .move (.tmp 1), none⟩,
    ⟨some 8, .fieldAddr 69 (.tmp 2) 2, none⟩,
    ⟨some 9, .load 3 (.tmp 8), none⟩,
    ⟨some 10, .binOp .mul 3 (.tmp 7) (.tmp 9) 3, none⟩,
    ⟨some 11, .call { callee := .value (.func 54), args := #[.tmp 10], argTypes := #[3] }, none⟩,
    ⟨some 12, .binOp .mul 3 (.tmp 6) (.tmp 11) 3, none⟩,
    ⟨some 13, .fieldAddr 69 (.tmp 2) 3, none⟩,
    ⟨some 14, .load 3 (.tmp 13), none⟩,
    ⟨some 15, .binOp .mul 3 (.tmp 12) (.tmp 14) 3, none⟩,
    ⟨some 16, .binOp .quo 3 (.tmp 15) (.const (.int .i64 100000)) 3, none⟩,
    ⟨some 5, .assign (.tmp 16), none⟩])
 .ret))⟩
theorem sf53 : sfOf Try.f53 = some s53 := by kernel_rfl
theorem hb53 : hasBody Try.prog 53 = true := by kernel_rfl
def s54 : SF := ⟨7, [.tmp 2],
 (.seq (.reg false [⟨some 1, .box 3 (.tmp 0), none⟩,
    ⟨some 2, .assign (.const (.int .i64 0)), none⟩])
 (.seq (.reg false [⟨some 3, .load 3 (.tmp 1), none⟩,
    ⟨some 4, .binOp .add 3 (.tmp 3) (.const (.int .i64 1)) 3, none⟩,
    ⟨some 5, .makeFunc (.func 93) #[] #[.tmp 1], none⟩,
    ⟨some 6, .call { callee := .value (.func 92), args := #[.tmp 4, .tmp 5], argTypes := #[3, 182] }, none⟩,
    ⟨some 2, .assign (.tmp 6), none⟩])
 .ret))⟩
theorem sf54 : sfOf Try.f54 = some s54 := by kernel_rfl
theorem hb54 : hasBody Try.prog 54 = true := by kernel_rfl
def s56 : SF := ⟨42, [.tmp 6, .tmp 7],
 (.seq (.reg false [⟨some 3, .box 143 (.tmp 0), none⟩,
    ⟨some 6, .assign (.const (.int .i64 0)), none⟩,
    ⟨some 7, .assign (.const (.int .i64 0)), none⟩])
 (.seq (.seq (.reg false [⟨some 11, .load 143 (.tmp 3), none⟩,
     ⟨some 12, .buildSlice 190 1 #[(0, (.tmp 11))], none⟩,
     ⟨some 13, .call { callee := .value (.func 94), args := #[.tmp 12, .const (.int .i64 1)], argTypes := #[190, 3] }, none⟩,
     ⟨some 8, .assign (.tmp 13), none⟩])
  (.seq (.reg false [⟨some 14, .move (.tmp 8), none⟩,
     ⟨some 15, .binOp .neq 34 (.tmp 14) (.const (.int .i64 0)) 34, none⟩])
  (.cond (.tmp 15)
   (.seq (.reg false [⟨some 16, .move (.tmp 8), none⟩,
       ⟨some 6, .assign (.const (.int .i64 0)), none⟩,
       ⟨some 7, .assign (.tmp 16), none⟩])
    .ret)
   .skip)))
 (.seq (.reg false [⟨some 18, .move (.tmp 1), none⟩,
    ⟨some 19, .move (.tmp 2), none⟩,
    ⟨some 20, .call { callee := .value (.func 95), args := #[.tmp 18, .tmp 19], argTypes := #[146, 3] }, none⟩,
    ⟨some 17, .move (.tmp 20), none⟩,
    ⟨some 21, .extract (.tmp 17) 0, none⟩,
    ⟨some 22, .extract (.tmp 17) 1, none⟩,
    ⟨some 9, .alloc 192, none⟩,
    ⟨none, .store 192 (.tmp 9) (.tmp 21), none⟩,
    ⟨some 10, .assign (.tmp 22), none⟩])
 (.seq (.block 0 (.seq (.reg false [⟨some 24, .move (.tmp 10), none⟩,
      ⟨some 25, .binOp .neq 34 (.tmp 24) (.const (.int .i64 0)) 34, none⟩,
      ⟨some 23, .assign (.tmp 25), none⟩])
   (.cond (.tmp 23)
    (.seq (.reg false [⟨some 26, .move (.tmp 10), none⟩,
        ⟨some 6, .assign (.const (.int .i64 0)), none⟩,
        ⟨some 7, .assign (.tmp 26), none⟩])
     .ret)
    (.seq (.reg false [⟨some 28, .fieldAddr 143 (.tmp 3) 1, none⟩,
        ⟨some 29, .fieldAddr 60 (.tmp 28) 1, none⟩,
        ⟨some 30, .load 3 (.tmp 29), none⟩,
        ⟨some 31, .binOp .eql 3 (.tmp 30) (.const (.int .i64 0)) 3, none⟩,
        ⟨some 27, .assign (.tmp 31), none⟩])
     (.cond (.tmp 27)
      (.seq (.reg false [⟨some 6, .assign (.const (.int .i64 50)), none⟩,
          ⟨some 7, .assign (.const (.int .i64 0)), none⟩])
       .ret)
      .skip)))))
 (.seq (.reg true [⟨some 32, .load 143 (.tmp 3), none⟩,
    ⟨some 33, .load 192 (.tmp 9), none⟩,
    ⟨some 34, .call { callee := .value (.func 97), args := #[.tmp 33], argTypes := #[192] }, none⟩,
    ⟨some 35, .call { callee := .value (.func 96), args := #[.tmp 32, .tmp 34], argTypes := #[143, 3] }, none⟩,
    ⟨some 36, .fieldAddr 143 (.tmp 3) 1, none⟩,
    ⟨some 37, .fieldAddr 60 (.tmp 36) 1, none⟩,
    ⟨some 38, .load 3 (.tmp 37), none⟩,
    ⟨some 39, .binOp .quo 3 (.tmp 35) (.tmp 38) 3, none⟩,
    ⟨some 40, .binOp .add 3 (.const (.int .i64 1)) (.tmp 39) 3, none⟩,
    ⟨some 41, .call { callee := .builtin .min, args := #[.const (.int .i64 50), .tmp 40], argTypes := #[3, 3] }, none⟩,
    ⟨some 6, .assign (.tmp 41), none⟩,
    ⟨some 7, .assign (.const (.int .i64 0)), none⟩])
 .ret)))))⟩
theorem sf56 : sfOf Try.f56 = some s56 := by kernel_rfl
theorem hb56 : hasBody Try.prog 56 = true := by kernel_rfl
def s60 : SF := ⟨24, [.cell 4 3],
 (.seq (.reg false [⟨some 2, .box 132 (.tmp 0), none⟩,
    ⟨some 3, .box 156 (.tmp 1), none⟩,
    ⟨some 4, .alloc 3, none⟩])
 (.seq (.seq (.reg false [⟨some 7, .load 132 (.tmp 2), none⟩,
     ⟨some 8, .makeFunc (.func 105) #[.tmp 7] #[], none⟩])
  (.block 0 (.rng (.tmp 8) [9, 10]
    (.seq (.reg false [⟨some 5, .assign (.tmp 9), none⟩])
     (.reg false [⟨some 6, .assign (.tmp 10), none⟩]))
    (.block 1 (.reg true [⟨some 11, .load 3 (.tmp 4), none⟩,
        ⟨some 12, .load 156 (.tmp 3), none⟩,
        ⟨some 13, .fieldAddr 132 (.tmp 2) 1, none⟩,
        ⟨some 14, .fieldAddr 54 (.tmp 13) 0, none⟩,
        ⟨some 15, .load 51 (.tmp 14), none⟩,
        ⟨some 16, .move (.tmp 5), none⟩,
        ⟨some 17, .indexAddr 51 (.tmp 15) (.tmp 16), none⟩,
        ⟨some 18, .load 89 (.tmp 17), none⟩,
        ⟨some 19, .call { callee := .value (.tmp 12), args := #[.tmp 18], argTypes := #[89] }, none⟩,
        ⟨some 20, .move (.tmp 6), none⟩,
        ⟨some 21, .binOp .mul 3 (.tmp 19) (.tmp 20) 3, none⟩,
        ⟨some 22, .binOp .add 3 (.tmp 11) (.tmp 21) 3, none⟩,
        ⟨none, .store 3 (.tmp 4) (.tmp 22), none⟩])))))
 (.seq (.reg false [⟨some 23, .load 3 (.tmp 4), none⟩,
    ⟨none, .store 3 (.tmp 4) (.tmp 23), none⟩])
 .ret)))⟩
theorem sf60 : sfOf Try.f60 = some s60 := by kernel_rfl
theorem hb60 : hasBody Try.prog 60 = true := by kernel_rfl
def s63 : SF := ⟨24, [.tmp 6],
 (.seq (.reg false [⟨some 3, .box 117 (.tmp 0), none⟩,
    ⟨some 6, .assign (.const (.int .i64 0)), none⟩])
 (.seq (.reg false [⟨some 7, .assign (.const (.int .i64 0)), none⟩])
 (.block 0 (.loop (.seq (.block 1 (.seq (.seq (.reg false [⟨some 10, .load 117 (.tmp 3), none⟩,
         ⟨some 11, .call { callee := .value (.func 43), args := #[.tmp 10], argTypes := #[117] }, none⟩,
         ⟨some 12, .move (.tmp 1), none⟩,
         ⟨some 13, .binOp .eql 33 (.tmp 11) (.tmp 12) 33, none⟩])
      (.cond (.tmp 13)
       (.seq (.reg false [⟨some 14, .move (.tmp 7), none⟩,
           ⟨some 6, .assign (.tmp 14), none⟩])
        .ret)
       .skip))
     (.seq (.seq (.reg false [⟨some 15, .fieldAddr 117 (.tmp 3) 2, none⟩,
         ⟨some 16, .load 3 (.tmp 15), none⟩,
         ⟨some 17, .fieldAddr 117 (.tmp 3) 0, none⟩,
         ⟨some 18, .fieldAddr 31 (.tmp 17) 0, none⟩,
         ⟨some 19, .load 3 (.tmp 18), none⟩,
         ⟨some 20, .binOp .eql 3 (.tmp 16) (.tmp 19) 3, none⟩])
      (.cond (.tmp 20)
       (.seq (.reg false [⟨some 6, .assign (.const (.int .i64 (-1))), none⟩])
        .ret)
       .skip))
     (.reg false [⟨some 21, .load 117 (.tmp 3), none⟩,
       ⟨some 22, .move (.tmp 2), none⟩,
       ⟨some 23, .call { callee := .value (.func 75), args := #[.tmp 21, .tmp 22], argTypes := #[117, 3] }, none⟩,
       ⟨none, .store 117 (.tmp 3) (.tmp 23), none⟩]))))
   (.reg false [⟨some 8, .move (.tmp 7), none⟩,
     ⟨some 9, .binOp .add 3 (.tmp 8) (.const (.int .i64 1)) 3, none⟩,
     ⟨some 7, .assign (.tmp 9), none⟩]))))))⟩
theorem sf63 : sfOf Try.f63 = some s63 := by kernel_rfl
theorem hb63 : hasBody Try.prog 63 = true := by kernel_rfl
end Go.Dw.Seat
end
