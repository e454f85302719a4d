/- Helpers of a proof. -/
import Derived.Test.YtnbgonichmcfaaaW46
import Derived.Test.YtnbgonichmcfaaaProg
import Derived.Shelf.Spec.SlicesGrow
set_option linter.unusedVariables false
set_option linter.unusedSimpArgs false
section
namespace Go.Dw.Seat
open Go Go.Dw Go.Proofs
instance laysI : Lays := ⟨[]⟩
theorem laid0 (W : World) : LaidA (fun _ => False) W := fun _ hp => nomatch hp
theorem el0 : elemI Try.prog 0 = none := by kernel_rfl
theorem ty1 : tyI Try.prog 1 = some ⟨false, 1, [.nilFunc], 8⟩ := by kernel_rfl
theorem el1 : elemI Try.prog 1 = none := by kernel_rfl
theorem ty2 : tyI Try.prog 2 = some ⟨false, 1, [(.int .i64 0)], 8⟩ := by kernel_rfl
theorem el2 : elemI Try.prog 2 = none := by kernel_rfl
theorem it2 : intI Try.prog 2 = some .i64 := by kernel_rfl
theorem ty3 : tyI Try.prog 3 = some ⟨false, 1, [(.int .i64 0)], 8⟩ := by kernel_rfl
theorem el3 : elemI Try.prog 3 = none := by kernel_rfl
theorem it3 : intI Try.prog 3 = some .i64 := by kernel_rfl
theorem ty4 : tyI Try.prog 4 = some ⟨false, 1, [(.bool false)], 1⟩ := by kernel_rfl
theorem el4 : elemI Try.prog 4 = none := by kernel_rfl
theorem bl4 : blI Try.prog 4 = true := by kernel_rfl
theorem ty5 : tyI Try.prog 5 = some ⟨false, 1, [(.int .u8 0)], 1⟩ := by kernel_rfl
theorem el5 : elemI Try.prog 5 = none := by kernel_rfl
theorem it5 : intI Try.prog 5 = some .u8 := by kernel_rfl
theorem ty6 : tyI Try.prog 6 = some ⟨false, 1, [(.int .u8 0)], 1⟩ := by kernel_rfl
theorem el6 : elemI Try.prog 6 = none := by kernel_rfl
theorem it6 : intI Try.prog 6 = some .u8 := by kernel_rfl
theorem ty7 : tyI Try.prog 7 = some ⟨true, 4, [(.int .i64 0), (.int .i64 0), (.bool false), (.int .u8 0)], 24⟩ := by kernel_rfl
theorem el7 : elemI Try.prog 7 = none := by kernel_rfl
theorem eq7 : eqTy Try.prog 7 = some (.st [(0, 1, .it), (1, 1, .it), (2, 1, .bl), (3, 1, .it)]) := by kernel_rfl
theorem pl7 : placesI Try.prog 7 = some [(0, 1), (1, 1), (2, 1), (3, 1)] := by kernel_rfl
theorem fi7_0 : fieldI Try.prog 7 0 = some (0, 1, false) := by kernel_rfl
theorem fi7_1 : fieldI Try.prog 7 1 = some (1, 1, false) := by kernel_rfl
theorem fi7_2 : fieldI Try.prog 7 2 = some (2, 1, false) := by kernel_rfl
theorem fi7_3 : fieldI Try.prog 7 3 = some (3, 1, false) := by kernel_rfl
theorem ty8 : tyI Try.prog 8 = some ⟨true, 4, [(.int .i64 0), (.int .i64 0), (.bool false), (.int .u8 0)], 24⟩ := by kernel_rfl
theorem el8 : elemI Try.prog 8 = none := by kernel_rfl
theorem eq8 : eqTy Try.prog 8 = some (.st [(0, 1, .it), (1, 1, .it), (2, 1, .bl), (3, 1, .it)]) := by kernel_rfl
theorem pl8 : placesI Try.prog 8 = some [(0, 1), (1, 1), (2, 1), (3, 1)] := by kernel_rfl
theorem fi8_0 : fieldI Try.prog 8 0 = some (0, 1, false) := by kernel_rfl
theorem fi8_1 : fieldI Try.prog 8 1 = some (1, 1, false) := by kernel_rfl
theorem fi8_2 : fieldI Try.prog 8 2 = some (2, 1, false) := by kernel_rfl
theorem fi8_3 : fieldI Try.prog 8 3 = some (3, 1, false) := by kernel_rfl
theorem ty9 : tyI Try.prog 9 = some ⟨false, 1, [(.string ⟨#[]⟩)], 16⟩ := by kernel_rfl
theorem el9 : elemI Try.prog 9 = none := by kernel_rfl
theorem ty10 : tyI Try.prog 10 = some ⟨false, 1, [(.string ⟨#[]⟩)], 16⟩ := by kernel_rfl
theorem el10 : elemI Try.prog 10 = none := by kernel_rfl
theorem ty11 : tyI Try.prog 11 = some ⟨false, 1, [(.string ⟨#[]⟩)], 16⟩ := by kernel_rfl
theorem el11 : elemI Try.prog 11 = none := by kernel_rfl
theorem ty12 : tyI Try.prog 12 = some ⟨false, 1, [(.int .u64 0)], 8⟩ := by kernel_rfl
theorem el12 : elemI Try.prog 12 = none := by kernel_rfl
theorem it12 : intI Try.prog 12 = some .u64 := by kernel_rfl
theorem ty13 : tyI Try.prog 13 = some ⟨true, 2, [(.string ⟨#[]⟩), (.int .u64 0)], 24⟩ := by kernel_rfl
theorem el13 : elemI Try.prog 13 = none := by kernel_rfl
theorem pl13 : placesI Try.prog 13 = some [(0, 1), (1, 1)] := by kernel_rfl
theorem fi13_0 : fieldI Try.prog 13 0 = some (0, 1, false) := by kernel_rfl
theorem fi13_1 : fieldI Try.prog 13 1 = some (1, 1, false) := by kernel_rfl
theorem ty14 : tyI Try.prog 14 = some ⟨true, 2, [(.string ⟨#[]⟩), (.int .u64 0)], 24⟩ := by kernel_rfl
theorem el14 : elemI Try.prog 14 = none := by kernel_rfl
theorem pl14 : placesI Try.prog 14 = some [(0, 1), (1, 1)] := by kernel_rfl
theorem fi14_0 : fieldI Try.prog 14 0 = some (0, 1, false) := by kernel_rfl
theorem fi14_1 : fieldI Try.prog 14 1 = some (1, 1, false) := by kernel_rfl
theorem ty15 : tyI Try.prog 15 = some ⟨false, 1, [(.pointer none)], 8⟩ := by kernel_rfl
theorem el15 : elemI Try.prog 15 = none := by kernel_rfl
theorem ty16 : tyI Try.prog 16 = some ⟨false, 1, [(.pointer none)], 8⟩ := by kernel_rfl
theorem el16 : elemI Try.prog 16 = none := by kernel_rfl
theorem ty17 : tyI Try.prog 17 = some ⟨false, 1, [(.pointer none)], 8⟩ := by kernel_rfl
theorem el17 : elemI Try.prog 17 = none := by kernel_rfl
theorem ty18 : tyI Try.prog 18 = some ⟨true, 1, [(.pointer none)], 8⟩ := by kernel_rfl
theorem el18 : elemI Try.prog 18 = none := by kernel_rfl
theorem pl18 : placesI Try.prog 18 = some [(0, 1)] := by kernel_rfl
theorem fi18_0 : fieldI Try.prog 18 0 = some (0, 1, false) := by kernel_rfl
theorem ty19 : tyI Try.prog 19 = some ⟨true, 1, [(.pointer none)], 8⟩ := by kernel_rfl
theorem el19 : elemI Try.prog 19 = none := by kernel_rfl
theorem pl19 : placesI Try.prog 19 = some [(0, 1)] := by kernel_rfl
theorem fi19_0 : fieldI Try.prog 19 0 = some (0, 1, false) := by kernel_rfl
theorem ty20 : tyI Try.prog 20 = some ⟨false, 1, [.nilIface], 16⟩ := by kernel_rfl
theorem el20 : elemI Try.prog 20 = none := by kernel_rfl
theorem ty21 : tyI Try.prog 21 = some ⟨false, 1, [(.int .i32 0)], 4⟩ := by kernel_rfl
theorem el21 : elemI Try.prog 21 = none := by kernel_rfl
theorem it21 : intI Try.prog 21 = some .i32 := by kernel_rfl
theorem ty22 : tyI Try.prog 22 = some ⟨false, 1, [(.slice none 0 0)], 24⟩ := by kernel_rfl
theorem el22 : elemI Try.prog 22 = some 27 := by kernel_rfl
theorem ty23 : tyI Try.prog 23 = some ⟨false, 1, [(.slice none 0 0)], 24⟩ := by kernel_rfl
theorem el23 : elemI Try.prog 23 = some 87 := by kernel_rfl
theorem ty24 : tyI Try.prog 24 = some ⟨false, 1, [(.slice none 0 0)], 24⟩ := by kernel_rfl
theorem el24 : elemI Try.prog 24 = some 5 := by kernel_rfl
theorem ty25 : tyI Try.prog 25 = some ⟨true, 3, [(.slice none 0 0), (.slice none 0 0), (.slice none 0 0)], 72⟩ := by kernel_rfl
theorem el25 : elemI Try.prog 25 = none := by kernel_rfl
theorem pl25 : placesI Try.prog 25 = some [(0, 1), (1, 1), (2, 1)] := by kernel_rfl
theorem fi25_0 : fieldI Try.prog 25 0 = some (0, 1, false) := by kernel_rfl
theorem fi25_1 : fieldI Try.prog 25 1 = some (1, 1, false) := by kernel_rfl
theorem fi25_2 : fieldI Try.prog 25 2 = some (2, 1, false) := by kernel_rfl
theorem ty26 : tyI Try.prog 26 = some ⟨true, 3, [(.slice none 0 0), (.slice none 0 0), (.slice none 0 0)], 72⟩ := by kernel_rfl
theorem el26 : elemI Try.prog 26 = none := by kernel_rfl
theorem pl26 : placesI Try.prog 26 = some [(0, 1), (1, 1), (2, 1)] := by kernel_rfl
theorem fi26_0 : fieldI Try.prog 26 0 = some (0, 1, false) := by kernel_rfl
theorem fi26_1 : fieldI Try.prog 26 1 = some (1, 1, false) := by kernel_rfl
theorem fi26_2 : fieldI Try.prog 26 2 = some (2, 1, false) := by kernel_rfl
theorem ty27 : tyI Try.prog 27 = some ⟨true, 6, [(.int .u8 0), (.int .u8 0), (.int .u8 0), (.int .u8 0), (.int .u8 0), (.int .u8 0)], 6⟩ := by kernel_rfl
theorem el27 : elemI Try.prog 27 = none := by kernel_rfl
theorem ar27 : arrI Try.prog 27 = some (6, 5) := by kernel_rfl
theorem pl27 : placesI Try.prog 27 = some [(0, 1), (1, 1), (2, 1), (3, 1), (4, 1), (5, 1)] := by kernel_rfl
theorem ty28 : tyI Try.prog 28 = some ⟨false, 1, [(.slice none 0 0)], 24⟩ := by kernel_rfl
theorem el28 : elemI Try.prog 28 = some 125 := by kernel_rfl
theorem ty29 : tyI Try.prog 29 = some ⟨false, 1, [(.slice none 0 0)], 24⟩ := by kernel_rfl
theorem el29 : elemI Try.prog 29 = some 114 := by kernel_rfl
theorem ty30 : tyI Try.prog 30 = some ⟨true, 2, [(.slice none 0 0), (.slice none 0 0)], 48⟩ := by kernel_rfl
theorem el30 : elemI Try.prog 30 = none := by kernel_rfl
theorem pl30 : placesI Try.prog 30 = some [(0, 1), (1, 1)] := by kernel_rfl
theorem fi30_0 : fieldI Try.prog 30 0 = some (0, 1, false) := by kernel_rfl
theorem fi30_1 : fieldI Try.prog 30 1 = some (1, 1, false) := by kernel_rfl
theorem ty31 : tyI Try.prog 31 = some ⟨true, 2, [(.slice none 0 0), (.slice none 0 0)], 48⟩ := by kernel_rfl
theorem el31 : elemI Try.prog 31 = none := by kernel_rfl
theorem pl31 : placesI Try.prog 31 = some [(0, 1), (1, 1)] := by kernel_rfl
theorem fi31_0 : fieldI Try.prog 31 0 = some (0, 1, false) := by kernel_rfl
theorem fi31_1 : fieldI Try.prog 31 1 = some (1, 1, false) := by kernel_rfl
theorem ty32 : tyI Try.prog 32 = some ⟨false, 1, [.nilFunc], 8⟩ := by kernel_rfl
theorem el32 : elemI Try.prog 32 = none := by kernel_rfl
theorem ty33 : tyI Try.prog 33 = some ⟨false, 1, [(.slice none 0 0)], 24⟩ := by kernel_rfl
theorem el33 : elemI Try.prog 33 = some 3 := by kernel_rfl
theorem ty34 : tyI Try.prog 34 = some ⟨true, 2, [(.slice none 0 0), (.slice none 0 0)], 48⟩ := by kernel_rfl
theorem el34 : elemI Try.prog 34 = none := by kernel_rfl
theorem pl34 : placesI Try.prog 34 = some [(0, 1), (1, 1)] := by kernel_rfl
theorem fi34_0 : fieldI Try.prog 34 0 = some (0, 1, false) := by kernel_rfl
theorem fi34_1 : fieldI Try.prog 34 1 = some (1, 1, false) := by kernel_rfl
theorem ty35 : tyI Try.prog 35 = some ⟨true, 2, [(.slice none 0 0), (.slice none 0 0)], 48⟩ := by kernel_rfl
theorem el35 : elemI Try.prog 35 = none := by kernel_rfl
theorem pl35 : placesI Try.prog 35 = some [(0, 1), (1, 1)] := by kernel_rfl
theorem fi35_0 : fieldI Try.prog 35 0 = some (0, 1, false) := by kernel_rfl
theorem fi35_1 : fieldI Try.prog 35 1 = some (1, 1, false) := by kernel_rfl
theorem ty36 : tyI Try.prog 36 = some ⟨false, 1, [.nilFunc], 8⟩ := by kernel_rfl
theorem el36 : elemI Try.prog 36 = none := by kernel_rfl
theorem ty37 : tyI Try.prog 37 = some ⟨true, 2, [(.int .i64 0), (.int .i64 0)], 16⟩ := by kernel_rfl
theorem el37 : elemI Try.prog 37 = none := by kernel_rfl
theorem eq37 : eqTy Try.prog 37 = some (.st [(0, 1, .it), (1, 1, .it)]) := by kernel_rfl
theorem pl37 : placesI Try.prog 37 = some [(0, 1), (1, 1)] := by kernel_rfl
theorem fi37_0 : fieldI Try.prog 37 0 = some (0, 1, false) := by kernel_rfl
theorem fi37_1 : fieldI Try.prog 37 1 = some (1, 1, false) := by kernel_rfl
theorem ty38 : tyI Try.prog 38 = some ⟨true, 2, [(.int .i64 0), (.int .i64 0)], 16⟩ := by kernel_rfl
theorem el38 : elemI Try.prog 38 = none := by kernel_rfl
theorem eq38 : eqTy Try.prog 38 = some (.st [(0, 1, .it), (1, 1, .it)]) := by kernel_rfl
theorem pl38 : placesI Try.prog 38 = some [(0, 1), (1, 1)] := by kernel_rfl
theorem fi38_0 : fieldI Try.prog 38 0 = some (0, 1, false) := by kernel_rfl
theorem fi38_1 : fieldI Try.prog 38 1 = some (1, 1, false) := by kernel_rfl
theorem ty39 : tyI Try.prog 39 = some ⟨false, 1, [(.int .i64 0)], 8⟩ := by kernel_rfl
theorem el39 : elemI Try.prog 39 = none := by kernel_rfl
theorem it39 : intI Try.prog 39 = some .i64 := by kernel_rfl
theorem el40 : elemI Try.prog 40 = none := by kernel_rfl
theorem ty41 : tyI Try.prog 41 = some ⟨false, 1, [.nilFunc], 8⟩ := by kernel_rfl
theorem el41 : elemI Try.prog 41 = none := by kernel_rfl
theorem ty42 : tyI Try.prog 42 = some ⟨false, 1, [.nilFunc], 8⟩ := by kernel_rfl
theorem el42 : elemI Try.prog 42 = none := by kernel_rfl
theorem ty43 : tyI Try.prog 43 = some ⟨false, 1, [.nilFunc], 8⟩ := by kernel_rfl
theorem el43 : elemI Try.prog 43 = none := by kernel_rfl
theorem ty44 : tyI Try.prog 44 = some ⟨false, 1, [.nilFunc], 8⟩ := by kernel_rfl
theorem el44 : elemI Try.prog 44 = none := by kernel_rfl
theorem ty45 : tyI Try.prog 45 = some ⟨false, 1, [.nilFunc], 8⟩ := by kernel_rfl
theorem el45 : elemI Try.prog 45 = none := by kernel_rfl
theorem ty46 : tyI Try.prog 46 = some ⟨true, 11, [(.int .i64 0), (.int .i64 0), (.int .i64 0), (.int .i64 0), (.int .i64 0), (.int .i64 0), (.int .i64 0), (.int .i64 0), (.int .i64 0), (.int .i64 0), (.bool false)], 88⟩ := by kernel_rfl
theorem el46 : elemI Try.prog 46 = none := by kernel_rfl
theorem eq46 : eqTy Try.prog 46 = some (.st [(0, 2, (.st [(0, 1, .it), (1, 1, .it)])), (2, 2, (.st [(0, 1, .it), (1, 1, .it)])), (4, 2, (.st [(0, 1, .it), (1, 1, .it)])), (6, 2, (.st [(0, 1, .it), (1, 1, .it)])), (8, 2, (.st [(0, 1, .it), (1, 1, .it)])), (10, 1, .bl)]) := by kernel_rfl
theorem pl46 : placesI Try.prog 46 = some [(0, 2), (2, 2), (4, 2), (6, 2), (8, 2), (10, 1)] := by kernel_rfl
theorem fi46_0 : fieldI Try.prog 46 0 = some (0, 2, true) := by kernel_rfl
theorem fi46_1 : fieldI Try.prog 46 1 = some (2, 2, true) := by kernel_rfl
theorem fi46_2 : fieldI Try.prog 46 2 = some (4, 2, true) := by kernel_rfl
theorem fi46_3 : fieldI Try.prog 46 3 = some (6, 2, true) := by kernel_rfl
theorem fi46_4 : fieldI Try.prog 46 4 = some (8, 2, true) := by kernel_rfl
theorem fi46_5 : fieldI Try.prog 46 5 = some (10, 1, false) := by kernel_rfl
theorem ty47 : tyI Try.prog 47 = some ⟨true, 11, [(.int .i64 0), (.int .i64 0), (.int .i64 0), (.int .i64 0), (.int .i64 0), (.int .i64 0), (.int .i64 0), (.int .i64 0), (.int .i64 0), (.int .i64 0), (.bool false)], 88⟩ := by kernel_rfl
theorem el47 : elemI Try.prog 47 = none := by kernel_rfl
theorem eq47 : eqTy Try.prog 47 = some (.st [(0, 2, (.st [(0, 1, .it), (1, 1, .it)])), (2, 2, (.st [(0, 1, .it), (1, 1, .it)])), (4, 2, (.st [(0, 1, .it), (1, 1, .it)])), (6, 2, (.st [(0, 1, .it), (1, 1, .it)])), (8, 2, (.st [(0, 1, .it), (1, 1, .it)])), (10, 1, .bl)]) := by kernel_rfl
theorem pl47 : placesI Try.prog 47 = some [(0, 2), (2, 2), (4, 2), (6, 2), (8, 2), (10, 1)] := by kernel_rfl
theorem fi47_0 : fieldI Try.prog 47 0 = some (0, 2, true) := by kernel_rfl
theorem fi47_1 : fieldI Try.prog 47 1 = some (2, 2, true) := by kernel_rfl
theorem fi47_2 : fieldI Try.prog 47 2 = some (4, 2, true) := by kernel_rfl
theorem fi47_3 : fieldI Try.prog 47 3 = some (6, 2, true) := by kernel_rfl
theorem fi47_4 : fieldI Try.prog 47 4 = some (8, 2, true) := by kernel_rfl
theorem fi47_5 : fieldI Try.prog 47 5 = some (10, 1, false) := by kernel_rfl
theorem ty48 : tyI Try.prog 48 = some ⟨true, 7, [(.int .i64 0), (.slice none 0 0), (.int .i64 0), (.slice none 0 0), (.slice none 0 0), (.int .i64 0), (.bool false)], 104⟩ := by kernel_rfl
theorem el48 : elemI Try.prog 48 = none := by kernel_rfl
theorem pl48 : placesI Try.prog 48 = some [(0, 1), (1, 1), (2, 1), (3, 1), (4, 1), (5, 1), (6, 1)] := by kernel_rfl
theorem fi48_0 : fieldI Try.prog 48 0 = some (0, 1, false) := by kernel_rfl
theorem fi48_1 : fieldI Try.prog 48 1 = some (1, 1, false) := by kernel_rfl
theorem fi48_2 : fieldI Try.prog 48 2 = some (2, 1, false) := by kernel_rfl
theorem fi48_3 : fieldI Try.prog 48 3 = some (3, 1, false) := by kernel_rfl
theorem fi48_4 : fieldI Try.prog 48 4 = some (4, 1, false) := by kernel_rfl
theorem fi48_5 : fieldI Try.prog 48 5 = some (5, 1, false) := by kernel_rfl
theorem fi48_6 : fieldI Try.prog 48 6 = some (6, 1, false) := by kernel_rfl
theorem ty49 : tyI Try.prog 49 = some ⟨true, 7, [(.int .i64 0), (.slice none 0 0), (.int .i64 0), (.slice none 0 0), (.slice none 0 0), (.int .i64 0), (.bool false)], 104⟩ := by kernel_rfl
theorem el49 : elemI Try.prog 49 = none := by kernel_rfl
theorem pl49 : placesI Try.prog 49 = some [(0, 1), (1, 1), (2, 1), (3, 1), (4, 1), (5, 1), (6, 1)] := by kernel_rfl
theorem fi49_0 : fieldI Try.prog 49 0 = some (0, 1, false) := by kernel_rfl
theorem fi49_1 : fieldI Try.prog 49 1 = some (1, 1, false) := by kernel_rfl
theorem fi49_2 : fieldI Try.prog 49 2 = some (2, 1, false) := by kernel_rfl
theorem fi49_3 : fieldI Try.prog 49 3 = some (3, 1, false) := by kernel_rfl
theorem fi49_4 : fieldI Try.prog 49 4 = some (4, 1, false) := by kernel_rfl
theorem fi49_5 : fieldI Try.prog 49 5 = some (5, 1, false) := by kernel_rfl
theorem fi49_6 : fieldI Try.prog 49 6 = some (6, 1, false) := by kernel_rfl
theorem el50 : elemI Try.prog 50 = none := by kernel_rfl
theorem ty51 : tyI Try.prog 51 = some ⟨false, 1, [.nilFunc], 8⟩ := by kernel_rfl
theorem el51 : elemI Try.prog 51 = none := by kernel_rfl
theorem ty52 : tyI Try.prog 52 = some ⟨false, 1, [(.slice none 0 0)], 24⟩ := by kernel_rfl
theorem el52 : elemI Try.prog 52 = some 147 := by kernel_rfl
theorem el53 : elemI Try.prog 53 = none := by kernel_rfl
theorem ty54 : tyI Try.prog 54 = some ⟨false, 1, [.nilFunc], 8⟩ := by kernel_rfl
theorem el54 : elemI Try.prog 54 = none := by kernel_rfl
theorem ty55 : tyI Try.prog 55 = some ⟨false, 1, [.nilFunc], 8⟩ := by kernel_rfl
theorem el55 : elemI Try.prog 55 = none := by kernel_rfl
theorem el56 : elemI Try.prog 56 = none := by kernel_rfl
theorem ty57 : tyI Try.prog 57 = some ⟨false, 1, [.nilFunc], 8⟩ := by kernel_rfl
theorem el57 : elemI Try.prog 57 = none := by kernel_rfl
theorem ty58 : tyI Try.prog 58 = some ⟨false, 1, [.nilFunc], 8⟩ := by kernel_rfl
theorem el58 : elemI Try.prog 58 = none := by kernel_rfl
theorem ty59 : tyI Try.prog 59 = some ⟨false, 1, [.nilFunc], 8⟩ := by kernel_rfl
theorem el59 : elemI Try.prog 59 = none := by kernel_rfl
theorem ty60 : tyI Try.prog 60 = some ⟨true, 9, [(.int .u8 0), (.int .u8 0), (.int .u8 0), (.int .u8 0), (.int .u8 0), (.int .u8 0), (.int .u8 0), (.int .u8 0), (.int .u8 0)], 9⟩ := by kernel_rfl
theorem el60 : elemI Try.prog 60 = none := by kernel_rfl
theorem ar60 : arrI Try.prog 60 = some (9, 5) := by kernel_rfl
theorem pl60 : placesI Try.prog 60 = some [(0, 1), (1, 1), (2, 1), (3, 1), (4, 1), (5, 1), (6, 1), (7, 1), (8, 1)] := by kernel_rfl
theorem ty61 : tyI Try.prog 61 = some ⟨true, 2, [(.int .u8 0), (.int .u8 0)], 2⟩ := by kernel_rfl
theorem el61 : elemI Try.prog 61 = none := by kernel_rfl
theorem ar61 : arrI Try.prog 61 = some (2, 5) := by kernel_rfl
theorem pl61 : placesI Try.prog 61 = some [(0, 1), (1, 1)] := by kernel_rfl
theorem el62 : elemI Try.prog 62 = none := by kernel_rfl
theorem ty63 : tyI Try.prog 63 = some ⟨false, 1, [.nilFunc], 8⟩ := by kernel_rfl
theorem el63 : elemI Try.prog 63 = none := by kernel_rfl
theorem ty64 : tyI Try.prog 64 = some ⟨false, 1, [(.int .u64 0)], 8⟩ := by kernel_rfl
theorem el64 : elemI Try.prog 64 = none := by kernel_rfl
theorem it64 : intI Try.prog 64 = some .u64 := by kernel_rfl
theorem ty65 : tyI Try.prog 65 = some ⟨false, 1, [(.slice none 0 0)], 24⟩ := by kernel_rfl
theorem el65 : elemI Try.prog 65 = some 33 := by kernel_rfl
theorem ty66 : tyI Try.prog 66 = some ⟨true, 3, [(.int .i64 0), (.int .i64 0), (.slice none 0 0)], 40⟩ := by kernel_rfl
theorem el66 : elemI Try.prog 66 = none := by kernel_rfl
theorem pl66 : placesI Try.prog 66 = some [(0, 1), (1, 1), (2, 1)] := by kernel_rfl
theorem fi66_0 : fieldI Try.prog 66 0 = some (0, 1, false) := by kernel_rfl
theorem fi66_1 : fieldI Try.prog 66 1 = some (1, 1, false) := by kernel_rfl
theorem fi66_2 : fieldI Try.prog 66 2 = some (2, 1, false) := by kernel_rfl
theorem ty67 : tyI Try.prog 67 = some ⟨true, 3, [(.int .i64 0), (.int .i64 0), (.slice none 0 0)], 40⟩ := by kernel_rfl
theorem el67 : elemI Try.prog 67 = none := by kernel_rfl
theorem pl67 : placesI Try.prog 67 = some [(0, 1), (1, 1), (2, 1)] := by kernel_rfl
theorem fi67_0 : fieldI Try.prog 67 0 = some (0, 1, false) := by kernel_rfl
theorem fi67_1 : fieldI Try.prog 67 1 = some (1, 1, false) := by kernel_rfl
theorem fi67_2 : fieldI Try.prog 67 2 = some (2, 1, false) := by kernel_rfl
theorem ty68 : tyI Try.prog 68 = some ⟨false, 1, [.nilFunc], 8⟩ := by kernel_rfl
theorem el68 : elemI Try.prog 68 = none := by kernel_rfl
theorem ty69 : tyI Try.prog 69 = some ⟨false, 1, [.nilFunc], 8⟩ := by kernel_rfl
theorem el69 : elemI Try.prog 69 = none := by kernel_rfl
theorem ty70 : tyI Try.prog 70 = some ⟨true, 4, [(.int .i64 0), (.int .i64 0), (.int .i64 0), (.int .i64 0)], 32⟩ := by kernel_rfl
theorem el70 : elemI Try.prog 70 = none := by kernel_rfl
theorem eq70 : eqTy Try.prog 70 = some (.st [(0, 2, (.st [(0, 1, .it), (1, 1, .it)])), (2, 2, (.st [(0, 1, .it), (1, 1, .it)]))]) := by kernel_rfl
theorem pl70 : placesI Try.prog 70 = some [(0, 2), (2, 2)] := by kernel_rfl
theorem fi70_0 : fieldI Try.prog 70 0 = some (0, 2, true) := by kernel_rfl
theorem fi70_1 : fieldI Try.prog 70 1 = some (2, 2, true) := by kernel_rfl
theorem ty71 : tyI Try.prog 71 = some ⟨true, 4, [(.int .i64 0), (.int .i64 0), (.int .i64 0), (.int .i64 0)], 32⟩ := by kernel_rfl
theorem el71 : elemI Try.prog 71 = none := by kernel_rfl
theorem eq71 : eqTy Try.prog 71 = some (.st [(0, 2, (.st [(0, 1, .it), (1, 1, .it)])), (2, 2, (.st [(0, 1, .it), (1, 1, .it)]))]) := by kernel_rfl
theorem pl71 : placesI Try.prog 71 = some [(0, 2), (2, 2)] := by kernel_rfl
theorem fi71_0 : fieldI Try.prog 71 0 = some (0, 2, true) := by kernel_rfl
theorem fi71_1 : fieldI Try.prog 71 1 = some (2, 2, true) := by kernel_rfl
theorem ty72 : tyI Try.prog 72 = some ⟨false, 1, [(.slice none 0 0)], 24⟩ := by kernel_rfl
theorem el72 : elemI Try.prog 72 = some 38 := by kernel_rfl
theorem el73 : elemI Try.prog 73 = none := by kernel_rfl
theorem ty74 : tyI Try.prog 74 = some ⟨false, 1, [.nilFunc], 8⟩ := by kernel_rfl
theorem el74 : elemI Try.prog 74 = none := by kernel_rfl
theorem ty75 : tyI Try.prog 75 = some ⟨false, 1, [(.slice none 0 0)], 24⟩ := by kernel_rfl
theorem el75 : elemI Try.prog 75 = some 71 := by kernel_rfl
theorem el76 : elemI Try.prog 76 = none := by kernel_rfl
theorem ty77 : tyI Try.prog 77 = some ⟨false, 1, [.nilFunc], 8⟩ := by kernel_rfl
theorem el77 : elemI Try.prog 77 = none := by kernel_rfl
theorem ty78 : tyI Try.prog 78 = some ⟨false, 1, [(.slice none 0 0)], 24⟩ := by kernel_rfl
theorem el78 : elemI Try.prog 78 = some 9 := by kernel_rfl
theorem el79 : elemI Try.prog 79 = none := by kernel_rfl
theorem ty80 : tyI Try.prog 80 = some ⟨false, 1, [.nilFunc], 8⟩ := by kernel_rfl
theorem el80 : elemI Try.prog 80 = none := by kernel_rfl
theorem ty81 : tyI Try.prog 81 = some ⟨true, 2, [(.int .i64 0), (.int .i64 0)], 16⟩ := by kernel_rfl
theorem el81 : elemI Try.prog 81 = none := by kernel_rfl
theorem eq81 : eqTy Try.prog 81 = some (.st [(0, 1, .it), (1, 1, .it)]) := by kernel_rfl
theorem pl81 : placesI Try.prog 81 = some [(0, 1), (1, 1)] := by kernel_rfl
theorem fi81_0 : fieldI Try.prog 81 0 = some (0, 1, false) := by kernel_rfl
theorem fi81_1 : fieldI Try.prog 81 1 = some (1, 1, false) := by kernel_rfl
theorem ty82 : tyI Try.prog 82 = some ⟨true, 2, [(.int .i64 0), (.int .i64 0)], 16⟩ := by kernel_rfl
theorem el82 : elemI Try.prog 82 = none := by kernel_rfl
theorem eq82 : eqTy Try.prog 82 = some (.st [(0, 1, .it), (1, 1, .it)]) := by kernel_rfl
theorem pl82 : placesI Try.prog 82 = some [(0, 1), (1, 1)] := by kernel_rfl
theorem fi82_0 : fieldI Try.prog 82 0 = some (0, 1, false) := by kernel_rfl
theorem fi82_1 : fieldI Try.prog 82 1 = some (1, 1, false) := by kernel_rfl
theorem ty83 : tyI Try.prog 83 = some ⟨false, 1, [(.slice none 0 0)], 24⟩ := by kernel_rfl
theorem el83 : elemI Try.prog 83 = some 82 := by kernel_rfl
theorem ty84 : tyI Try.prog 84 = some ⟨false, 1, [.nilFunc], 8⟩ := by kernel_rfl
theorem el84 : elemI Try.prog 84 = none := by kernel_rfl
theorem ty85 : tyI Try.prog 85 = some ⟨true, 7, [(.int .u8 0), (.int .u8 0), (.int .u8 0), (.int .u8 0), (.int .u8 0), (.int .u8 0), (.int .u8 0)], 7⟩ := by kernel_rfl
theorem el85 : elemI Try.prog 85 = none := by kernel_rfl
theorem ar85 : arrI Try.prog 85 = some (7, 5) := by kernel_rfl
theorem pl85 : placesI Try.prog 85 = some [(0, 1), (1, 1), (2, 1), (3, 1), (4, 1), (5, 1), (6, 1)] := by kernel_rfl
theorem ty86 : tyI Try.prog 86 = some ⟨true, 21, [(.int .u8 0), (.int .u8 0), (.int .u8 0), (.int .u8 0), (.int .u8 0), (.int .u8 0), (.int .u8 0), (.int .u8 0), (.int .u8 0), (.int .u8 0), (.int .u8 0), (.int .u8 0), (.int .u8 0), (.int .u8 0), (.int .u8 0), (.int .u8 0), (.int .u8 0), (.int .u8 0), (.int .u8 0), (.int .u8 0), (.int .u8 0)], 21⟩ := by kernel_rfl
theorem el86 : elemI Try.prog 86 = none := by kernel_rfl
theorem ar86 : arrI Try.prog 86 = some (3, 85) := by kernel_rfl
theorem pl86 : placesI Try.prog 86 = some [(0, 7), (7, 7), (14, 7)] := by kernel_rfl
theorem ty87 : tyI Try.prog 87 = some ⟨true, 3, [(.int .u8 0), (.int .u8 0), (.int .u8 0)], 3⟩ := by kernel_rfl
theorem el87 : elemI Try.prog 87 = none := by kernel_rfl
theorem ar87 : arrI Try.prog 87 = some (3, 5) := by kernel_rfl
theorem pl87 : placesI Try.prog 87 = some [(0, 1), (1, 1), (2, 1)] := by kernel_rfl
theorem ty88 : tyI Try.prog 88 = some ⟨true, 9, [(.int .u8 0), (.int .u8 0), (.int .u8 0), (.int .u8 0), (.int .u8 0), (.int .u8 0), (.int .u8 0), (.int .u8 0), (.int .u8 0)], 9⟩ := by kernel_rfl
theorem el88 : elemI Try.prog 88 = none := by kernel_rfl
theorem ar88 : arrI Try.prog 88 = some (3, 87) := by kernel_rfl
theorem pl88 : placesI Try.prog 88 = some [(0, 3), (3, 3), (6, 3)] := by kernel_rfl
theorem ty89 : tyI Try.prog 89 = some ⟨true, 31, [(.int .u8 0), (.int .u8 0), (.int .u8 0), (.int .u8 0), (.int .u8 0), (.int .u8 0), (.int .u8 0), (.int .u8 0), (.int .u8 0), (.int .u8 0), (.int .u8 0), (.int .u8 0), (.int .u8 0), (.int .u8 0), (.int .u8 0), (.int .u8 0), (.int .u8 0), (.int .u8 0), (.int .u8 0), (.int .u8 0), (.int .u8 0), (.int .u8 0), (.int .u8 0), (.int .u8 0), (.int .u8 0), (.int .u8 0), (.int .u8 0), (.int .u8 0), (.int .u8 0), (.int .u8 0), (.int .u8 0)], 31⟩ := by kernel_rfl
theorem el89 : elemI Try.prog 89 = none := by kernel_rfl
theorem pl89 : placesI Try.prog 89 = some [(0, 21), (21, 1), (22, 9)] := by kernel_rfl
theorem fi89_0 : fieldI Try.prog 89 0 = some (0, 21, true) := by kernel_rfl
theorem fi89_1 : fieldI Try.prog 89 1 = some (21, 1, false) := by kernel_rfl
theorem fi89_2 : fieldI Try.prog 89 2 = some (22, 9, true) := by kernel_rfl
theorem ty90 : tyI Try.prog 90 = some ⟨true, 31, [(.int .u8 0), (.int .u8 0), (.int .u8 0), (.int .u8 0), (.int .u8 0), (.int .u8 0), (.int .u8 0), (.int .u8 0), (.int .u8 0), (.int .u8 0), (.int .u8 0), (.int .u8 0), (.int .u8 0), (.int .u8 0), (.int .u8 0), (.int .u8 0), (.int .u8 0), (.int .u8 0), (.int .u8 0), (.int .u8 0), (.int .u8 0), (.int .u8 0), (.int .u8 0), (.int .u8 0), (.int .u8 0), (.int .u8 0), (.int .u8 0), (.int .u8 0), (.int .u8 0), (.int .u8 0), (.int .u8 0)], 31⟩ := by kernel_rfl
theorem el90 : elemI Try.prog 90 = none := by kernel_rfl
theorem pl90 : placesI Try.prog 90 = some [(0, 21), (21, 1), (22, 9)] := by kernel_rfl
theorem fi90_0 : fieldI Try.prog 90 0 = some (0, 21, true) := by kernel_rfl
theorem fi90_1 : fieldI Try.prog 90 1 = some (21, 1, false) := by kernel_rfl
theorem fi90_2 : fieldI Try.prog 90 2 = some (22, 9, true) := by kernel_rfl
theorem ty91 : tyI Try.prog 91 = some ⟨true, 4, [(.int .u8 0), (.int .u8 0), (.int .u8 0), (.int .u8 0)], 4⟩ := by kernel_rfl
theorem el91 : elemI Try.prog 91 = none := by kernel_rfl
theorem ar91 : arrI Try.prog 91 = some (4, 5) := by kernel_rfl
theorem pl91 : placesI Try.prog 91 = some [(0, 1), (1, 1), (2, 1), (3, 1)] := by kernel_rfl
theorem ty92 : tyI Try.prog 92 = some ⟨true, 12, [(.int .u8 0), (.int .u8 0), (.int .u8 0), (.int .u8 0), (.int .u8 0), (.int .u8 0), (.int .u8 0), (.int .u8 0), (.int .u8 0), (.int .u8 0), (.int .u8 0), (.int .u8 0)], 12⟩ := by kernel_rfl
theorem el92 : elemI Try.prog 92 = none := by kernel_rfl
theorem ar92 : arrI Try.prog 92 = some (3, 91) := by kernel_rfl
theorem pl92 : placesI Try.prog 92 = some [(0, 4), (4, 4), (8, 4)] := by kernel_rfl
theorem ty93 : tyI Try.prog 93 = some ⟨true, 6, [(.int .u8 0), (.int .u8 0), (.int .u8 0), (.int .u8 0), (.int .u8 0), (.int .u8 0)], 6⟩ := by kernel_rfl
theorem el93 : elemI Try.prog 93 = none := by kernel_rfl
theorem ar93 : arrI Try.prog 93 = some (2, 87) := by kernel_rfl
theorem pl93 : placesI Try.prog 93 = some [(0, 3), (3, 3)] := by kernel_rfl
theorem ty94 : tyI Try.prog 94 = some ⟨true, 25, [(.int .u8 0), (.int .u8 0), (.int .u8 0), (.int .u8 0), (.int .u8 0), (.int .u8 0), (.int .u8 0), (.int .u8 0), (.int .u8 0), (.int .u8 0), (.int .u8 0), (.int .u8 0), (.int .u8 0), (.int .u8 0), (.int .u8 0), (.int .u8 0), (.int .u8 0), (.int .u8 0), (.int .u8 0), (.int .u8 0), (.int .u8 0), (.int .u8 0), (.int .u8 0), (.int .u8 0), (.int .u8 0)], 25⟩ := by kernel_rfl
theorem el94 : elemI Try.prog 94 = none := by kernel_rfl
theorem pl94 : placesI Try.prog 94 = some [(0, 12), (12, 6), (18, 7)] := by kernel_rfl
theorem fi94_0 : fieldI Try.prog 94 0 = some (0, 12, true) := by kernel_rfl
theorem fi94_1 : fieldI Try.prog 94 1 = some (12, 6, true) := by kernel_rfl
theorem fi94_2 : fieldI Try.prog 94 2 = some (18, 7, true) := by kernel_rfl
theorem ty95 : tyI Try.prog 95 = some ⟨true, 25, [(.int .u8 0), (.int .u8 0), (.int .u8 0), (.int .u8 0), (.int .u8 0), (.int .u8 0), (.int .u8 0), (.int .u8 0), (.int .u8 0), (.int .u8 0), (.int .u8 0), (.int .u8 0), (.int .u8 0), (.int .u8 0), (.int .u8 0), (.int .u8 0), (.int .u8 0), (.int .u8 0), (.int .u8 0), (.int .u8 0), (.int .u8 0), (.int .u8 0), (.int .u8 0), (.int .u8 0), (.int .u8 0)], 25⟩ := by kernel_rfl
theorem el95 : elemI Try.prog 95 = none := by kernel_rfl
theorem pl95 : placesI Try.prog 95 = some [(0, 12), (12, 6), (18, 7)] := by kernel_rfl
theorem fi95_0 : fieldI Try.prog 95 0 = some (0, 12, true) := by kernel_rfl
theorem fi95_1 : fieldI Try.prog 95 1 = some (12, 6, true) := by kernel_rfl
theorem fi95_2 : fieldI Try.prog 95 2 = some (18, 7, true) := by kernel_rfl
theorem ty96 : tyI Try.prog 96 = some ⟨false, 1, [(.slice none 0 0)], 24⟩ := by kernel_rfl
theorem el96 : elemI Try.prog 96 = some 49 := by kernel_rfl
theorem el97 : elemI Try.prog 97 = none := by kernel_rfl
theorem ty98 : tyI Try.prog 98 = some ⟨false, 1, [.nilFunc], 8⟩ := by kernel_rfl
theorem el98 : elemI Try.prog 98 = none := by kernel_rfl
theorem ty99 : tyI Try.prog 99 = some ⟨true, 4, [(.int .i64 0), (.int .i64 0), (.int .i64 0), (.int .i64 0)], 32⟩ := by kernel_rfl
theorem el99 : elemI Try.prog 99 = none := by kernel_rfl
theorem eq99 : eqTy Try.prog 99 = some (.st [(0, 1, .it), (1, 2, (.st [(0, 1, .it), (1, 1, .it)])), (3, 1, .it)]) := by kernel_rfl
theorem pl99 : placesI Try.prog 99 = some [(0, 1), (1, 2), (3, 1)] := by kernel_rfl
theorem fi99_0 : fieldI Try.prog 99 0 = some (0, 1, false) := by kernel_rfl
theorem fi99_1 : fieldI Try.prog 99 1 = some (1, 2, true) := by kernel_rfl
theorem fi99_2 : fieldI Try.prog 99 2 = some (3, 1, false) := by kernel_rfl
theorem ty100 : tyI Try.prog 100 = some ⟨true, 4, [(.int .i64 0), (.int .i64 0), (.int .i64 0), (.int .i64 0)], 32⟩ := by kernel_rfl
theorem el100 : elemI Try.prog 100 = none := by kernel_rfl
theorem eq100 : eqTy Try.prog 100 = some (.st [(0, 1, .it), (1, 2, (.st [(0, 1, .it), (1, 1, .it)])), (3, 1, .it)]) := by kernel_rfl
theorem pl100 : placesI Try.prog 100 = some [(0, 1), (1, 2), (3, 1)] := by kernel_rfl
theorem fi100_0 : fieldI Try.prog 100 0 = some (0, 1, false) := by kernel_rfl
theorem fi100_1 : fieldI Try.prog 100 1 = some (1, 2, true) := by kernel_rfl
theorem fi100_2 : fieldI Try.prog 100 2 = some (3, 1, false) := by kernel_rfl
theorem ty101 : tyI Try.prog 101 = some ⟨false, 1, [(.slice none 0 0)], 24⟩ := by kernel_rfl
theorem el101 : elemI Try.prog 101 = some 112 := by kernel_rfl
theorem ty102 : tyI Try.prog 102 = some ⟨false, 1, [(.slice none 0 0)], 24⟩ := by kernel_rfl
theorem el102 : elemI Try.prog 102 = some 110 := by kernel_rfl
theorem el103 : elemI Try.prog 103 = none := by kernel_rfl
theorem ty104 : tyI Try.prog 104 = some ⟨false, 1, [.nilFunc], 8⟩ := by kernel_rfl
theorem el104 : elemI Try.prog 104 = none := by kernel_rfl
theorem el105 : elemI Try.prog 105 = none := by kernel_rfl
theorem ty106 : tyI Try.prog 106 = some ⟨false, 1, [.nilFunc], 8⟩ := by kernel_rfl
theorem el106 : elemI Try.prog 106 = none := by kernel_rfl
theorem ty107 : tyI Try.prog 107 = some ⟨false, 1, [.nilFunc], 8⟩ := by kernel_rfl
theorem el107 : elemI Try.prog 107 = none := by kernel_rfl
theorem ty108 : tyI Try.prog 108 = some ⟨false, 1, [.nilFunc], 8⟩ := by kernel_rfl
theorem el108 : elemI Try.prog 108 = none := by kernel_rfl
theorem ty109 : tyI Try.prog 109 = some ⟨true, 2, [(.slice none 0 0), (.int .i64 0)], 32⟩ := by kernel_rfl
theorem el109 : elemI Try.prog 109 = none := by kernel_rfl
theorem pl109 : placesI Try.prog 109 = some [(0, 1), (1, 1)] := by kernel_rfl
theorem fi109_0 : fieldI Try.prog 109 0 = some (0, 1, false) := by kernel_rfl
theorem fi109_1 : fieldI Try.prog 109 1 = some (1, 1, false) := by kernel_rfl
theorem ty110 : tyI Try.prog 110 = some ⟨true, 2, [(.slice none 0 0), (.int .i64 0)], 32⟩ := by kernel_rfl
theorem el110 : elemI Try.prog 110 = none := by kernel_rfl
theorem pl110 : placesI Try.prog 110 = some [(0, 1), (1, 1)] := by kernel_rfl
theorem fi110_0 : fieldI Try.prog 110 0 = some (0, 1, false) := by kernel_rfl
theorem fi110_1 : fieldI Try.prog 110 1 = some (1, 1, false) := by kernel_rfl
theorem ty111 : tyI Try.prog 111 = some ⟨true, 3, [(.int .i64 0), (.int .i64 0), (.int .i64 0)], 24⟩ := by kernel_rfl
theorem el111 : elemI Try.prog 111 = none := by kernel_rfl
theorem eq111 : eqTy Try.prog 111 = some (.st [(0, 1, .it), (1, 2, (.st [(0, 1, .it), (1, 1, .it)]))]) := by kernel_rfl
theorem pl111 : placesI Try.prog 111 = some [(0, 1), (1, 2)] := by kernel_rfl
theorem fi111_0 : fieldI Try.prog 111 0 = some (0, 1, false) := by kernel_rfl
theorem fi111_1 : fieldI Try.prog 111 1 = some (1, 2, true) := by kernel_rfl
theorem ty112 : tyI Try.prog 112 = some ⟨true, 3, [(.int .i64 0), (.int .i64 0), (.int .i64 0)], 24⟩ := by kernel_rfl
theorem el112 : elemI Try.prog 112 = none := by kernel_rfl
theorem eq112 : eqTy Try.prog 112 = some (.st [(0, 1, .it), (1, 2, (.st [(0, 1, .it), (1, 1, .it)]))]) := by kernel_rfl
theorem pl112 : placesI Try.prog 112 = some [(0, 1), (1, 2)] := by kernel_rfl
theorem fi112_0 : fieldI Try.prog 112 0 = some (0, 1, false) := by kernel_rfl
theorem fi112_1 : fieldI Try.prog 112 1 = some (1, 2, true) := by kernel_rfl
theorem ty113 : tyI Try.prog 113 = some ⟨true, 4, [(.int .i64 0), (.int .i64 0), (.int .i64 0), (.int .i64 0)], 32⟩ := by kernel_rfl
theorem el113 : elemI Try.prog 113 = none := by kernel_rfl
theorem eq113 : eqTy Try.prog 113 = some (.st [(0, 1, .it), (1, 1, .it), (2, 2, (.st [(0, 1, .it), (1, 1, .it)]))]) := by kernel_rfl
theorem pl113 : placesI Try.prog 113 = some [(0, 1), (1, 1), (2, 2)] := by kernel_rfl
theorem fi113_0 : fieldI Try.prog 113 0 = some (0, 1, false) := by kernel_rfl
theorem fi113_1 : fieldI Try.prog 113 1 = some (1, 1, false) := by kernel_rfl
theorem fi113_2 : fieldI Try.prog 113 2 = some (2, 2, true) := by kernel_rfl
theorem ty114 : tyI Try.prog 114 = some ⟨true, 4, [(.int .i64 0), (.int .i64 0), (.int .i64 0), (.int .i64 0)], 32⟩ := by kernel_rfl
theorem el114 : elemI Try.prog 114 = none := by kernel_rfl
theorem eq114 : eqTy Try.prog 114 = some (.st [(0, 1, .it), (1, 1, .it), (2, 2, (.st [(0, 1, .it), (1, 1, .it)]))]) := by kernel_rfl
theorem pl114 : placesI Try.prog 114 = some [(0, 1), (1, 1), (2, 2)] := by kernel_rfl
theorem fi114_0 : fieldI Try.prog 114 0 = some (0, 1, false) := by kernel_rfl
theorem fi114_1 : fieldI Try.prog 114 1 = some (1, 1, false) := by kernel_rfl
theorem fi114_2 : fieldI Try.prog 114 2 = some (2, 2, true) := by kernel_rfl
theorem ty115 : tyI Try.prog 115 = some ⟨false, 1, [(.slice none 0 0)], 24⟩ := by kernel_rfl
theorem el115 : elemI Try.prog 115 = some 121 := by kernel_rfl
theorem ty116 : tyI Try.prog 116 = some ⟨true, 3, [(.slice none 0 0), (.slice none 0 0), (.slice none 0 0)], 72⟩ := by kernel_rfl
theorem el116 : elemI Try.prog 116 = none := by kernel_rfl
theorem ar116 : arrI Try.prog 116 = some (3, 115) := by kernel_rfl
theorem pl116 : placesI Try.prog 116 = some [(0, 1), (1, 1), (2, 1)] := by kernel_rfl
theorem el117 : elemI Try.prog 117 = none := by kernel_rfl
theorem ty118 : tyI Try.prog 118 = some ⟨false, 1, [.nilFunc], 8⟩ := by kernel_rfl
theorem el118 : elemI Try.prog 118 = none := by kernel_rfl
theorem ty119 : tyI Try.prog 119 = some ⟨true, 3, [(.int .i64 0), (.int .i64 0), (.int .i64 0)], 24⟩ := by kernel_rfl
theorem el119 : elemI Try.prog 119 = none := by kernel_rfl
theorem ar119 : arrI Try.prog 119 = some (3, 3) := by kernel_rfl
theorem pl119 : placesI Try.prog 119 = some [(0, 1), (1, 1), (2, 1)] := by kernel_rfl
theorem ty120 : tyI Try.prog 120 = some ⟨true, 2, [(.int .i64 0), (.int .i64 0)], 16⟩ := by kernel_rfl
theorem el120 : elemI Try.prog 120 = none := by kernel_rfl
theorem eq120 : eqTy Try.prog 120 = some (.st [(0, 1, .it), (1, 1, .it)]) := by kernel_rfl
theorem pl120 : placesI Try.prog 120 = some [(0, 1), (1, 1)] := by kernel_rfl
theorem fi120_0 : fieldI Try.prog 120 0 = some (0, 1, false) := by kernel_rfl
theorem fi120_1 : fieldI Try.prog 120 1 = some (1, 1, false) := by kernel_rfl
theorem ty121 : tyI Try.prog 121 = some ⟨true, 2, [(.int .i64 0), (.int .i64 0)], 16⟩ := by kernel_rfl
theorem el121 : elemI Try.prog 121 = none := by kernel_rfl
theorem eq121 : eqTy Try.prog 121 = some (.st [(0, 1, .it), (1, 1, .it)]) := by kernel_rfl
theorem pl121 : placesI Try.prog 121 = some [(0, 1), (1, 1)] := by kernel_rfl
theorem fi121_0 : fieldI Try.prog 121 0 = some (0, 1, false) := by kernel_rfl
theorem fi121_1 : fieldI Try.prog 121 1 = some (1, 1, false) := by kernel_rfl
theorem ty122 : tyI Try.prog 122 = some ⟨false, 1, [.nilFunc], 8⟩ := by kernel_rfl
theorem el122 : elemI Try.prog 122 = none := by kernel_rfl
theorem ty123 : tyI Try.prog 123 = some ⟨false, 1, [(.int .i64 0)], 8⟩ := by kernel_rfl
theorem el123 : elemI Try.prog 123 = none := by kernel_rfl
theorem it123 : intI Try.prog 123 = some .i64 := by kernel_rfl
theorem ty124 : tyI Try.prog 124 = some ⟨true, 8, [(.int .i64 0), (.int .i64 0), (.int .i64 0), (.int .i64 0), (.int .i64 0), (.int .i64 0), (.int .i64 0), (.int .i64 0)], 64⟩ := by kernel_rfl
theorem el124 : elemI Try.prog 124 = none := by kernel_rfl
theorem eq124 : eqTy Try.prog 124 = some (.st [(0, 1, .it), (1, 1, .it), (2, 2, (.st [(0, 1, .it), (1, 1, .it)])), (4, 2, (.st [(0, 1, .it), (1, 1, .it)])), (6, 1, .it), (7, 1, .it)]) := by kernel_rfl
theorem pl124 : placesI Try.prog 124 = some [(0, 1), (1, 1), (2, 2), (4, 2), (6, 1), (7, 1)] := by kernel_rfl
theorem fi124_0 : fieldI Try.prog 124 0 = some (0, 1, false) := by kernel_rfl
theorem fi124_1 : fieldI Try.prog 124 1 = some (1, 1, false) := by kernel_rfl
theorem fi124_2 : fieldI Try.prog 124 2 = some (2, 2, true) := by kernel_rfl
theorem fi124_3 : fieldI Try.prog 124 3 = some (4, 2, true) := by kernel_rfl
theorem fi124_4 : fieldI Try.prog 124 4 = some (6, 1, false) := by kernel_rfl
theorem fi124_5 : fieldI Try.prog 124 5 = some (7, 1, false) := by kernel_rfl
theorem ty125 : tyI Try.prog 125 = some ⟨true, 8, [(.int .i64 0), (.int .i64 0), (.int .i64 0), (.int .i64 0), (.int .i64 0), (.int .i64 0), (.int .i64 0), (.int .i64 0)], 64⟩ := by kernel_rfl
theorem el125 : elemI Try.prog 125 = none := by kernel_rfl
theorem eq125 : eqTy Try.prog 125 = some (.st [(0, 1, .it), (1, 1, .it), (2, 2, (.st [(0, 1, .it), (1, 1, .it)])), (4, 2, (.st [(0, 1, .it), (1, 1, .it)])), (6, 1, .it), (7, 1, .it)]) := by kernel_rfl
theorem pl125 : placesI Try.prog 125 = some [(0, 1), (1, 1), (2, 2), (4, 2), (6, 1), (7, 1)] := by kernel_rfl
theorem fi125_0 : fieldI Try.prog 125 0 = some (0, 1, false) := by kernel_rfl
theorem fi125_1 : fieldI Try.prog 125 1 = some (1, 1, false) := by kernel_rfl
theorem fi125_2 : fieldI Try.prog 125 2 = some (2, 2, true) := by kernel_rfl
theorem fi125_3 : fieldI Try.prog 125 3 = some (4, 2, true) := by kernel_rfl
theorem fi125_4 : fieldI Try.prog 125 4 = some (6, 1, false) := by kernel_rfl
theorem fi125_5 : fieldI Try.prog 125 5 = some (7, 1, false) := by kernel_rfl
theorem ty126 : tyI Try.prog 126 = some ⟨true, 2, [(.slice none 0 0), (.slice none 0 0)], 48⟩ := by kernel_rfl
theorem el126 : elemI Try.prog 126 = none := by kernel_rfl
theorem ar126 : arrI Try.prog 126 = some (2, 33) := by kernel_rfl
theorem pl126 : placesI Try.prog 126 = some [(0, 1), (1, 1)] := by kernel_rfl
theorem ty127 : tyI Try.prog 127 = some ⟨false, 1, [.nilFunc], 8⟩ := by kernel_rfl
theorem el127 : elemI Try.prog 127 = none := by kernel_rfl
theorem ty128 : tyI Try.prog 128 = some ⟨true, 5, [(.slice none 0 0), (.slice none 0 0), (.slice none 0 0), (.slice none 0 0), (.int .i64 0)], 104⟩ := by kernel_rfl
theorem el128 : elemI Try.prog 128 = none := by kernel_rfl
theorem pl128 : placesI Try.prog 128 = some [(0, 2), (2, 2), (4, 1)] := by kernel_rfl
theorem fi128_0 : fieldI Try.prog 128 0 = some (0, 2, true) := by kernel_rfl
theorem fi128_1 : fieldI Try.prog 128 1 = some (2, 2, true) := by kernel_rfl
theorem fi128_2 : fieldI Try.prog 128 2 = some (4, 1, false) := by kernel_rfl
theorem ty129 : tyI Try.prog 129 = some ⟨true, 5, [(.slice none 0 0), (.slice none 0 0), (.slice none 0 0), (.slice none 0 0), (.int .i64 0)], 104⟩ := by kernel_rfl
theorem el129 : elemI Try.prog 129 = none := by kernel_rfl
theorem pl129 : placesI Try.prog 129 = some [(0, 2), (2, 2), (4, 1)] := by kernel_rfl
theorem fi129_0 : fieldI Try.prog 129 0 = some (0, 2, true) := by kernel_rfl
theorem fi129_1 : fieldI Try.prog 129 1 = some (2, 2, true) := by kernel_rfl
theorem fi129_2 : fieldI Try.prog 129 2 = some (4, 1, false) := by kernel_rfl
theorem el130 : elemI Try.prog 130 = none := by kernel_rfl
theorem ty131 : tyI Try.prog 131 = some ⟨false, 1, [.nilFunc], 8⟩ := by kernel_rfl
theorem el131 : elemI Try.prog 131 = none := by kernel_rfl
theorem el132 : elemI Try.prog 132 = none := by kernel_rfl
theorem ty133 : tyI Try.prog 133 = some ⟨false, 1, [.nilFunc], 8⟩ := by kernel_rfl
theorem el133 : elemI Try.prog 133 = none := by kernel_rfl
theorem el134 : elemI Try.prog 134 = none := by kernel_rfl
theorem ty135 : tyI Try.prog 135 = some ⟨false, 1, [.nilFunc], 8⟩ := by kernel_rfl
theorem el135 : elemI Try.prog 135 = none := by kernel_rfl
theorem ty136 : tyI Try.prog 136 = some ⟨false, 1, [.nilFunc], 8⟩ := by kernel_rfl
theorem el136 : elemI Try.prog 136 = none := by kernel_rfl
theorem ty137 : tyI Try.prog 137 = some ⟨false, 1, [.nilFunc], 8⟩ := by kernel_rfl
theorem el137 : elemI Try.prog 137 = none := by kernel_rfl
theorem ty138 : tyI Try.prog 138 = some ⟨false, 1, [.nilFunc], 8⟩ := by kernel_rfl
theorem el138 : elemI Try.prog 138 = none := by kernel_rfl
theorem ty139 : tyI Try.prog 139 = some ⟨true, 13, [(.int .i64 0), (.int .i64 0), (.int .i64 0), (.int .i64 0), (.int .i64 0), (.int .i64 0), (.int .i64 0), (.int .i64 0), (.int .i64 0), (.int .i64 0), (.bool false), (.int .i64 0), (.int .i64 0)], 104⟩ := by kernel_rfl
theorem el139 : elemI Try.prog 139 = none := by kernel_rfl
theorem eq139 : eqTy Try.prog 139 = some (.st [(0, 11, (.st [(0, 2, (.st [(0, 1, .it), (1, 1, .it)])), (2, 2, (.st [(0, 1, .it), (1, 1, .it)])), (4, 2, (.st [(0, 1, .it), (1, 1, .it)])), (6, 2, (.st [(0, 1, .it), (1, 1, .it)])), (8, 2, (.st [(0, 1, .it), (1, 1, .it)])), (10, 1, .bl)])), (11, 2, (.st [(0, 1, .it), (1, 1, .it)]))]) := by kernel_rfl
theorem pl139 : placesI Try.prog 139 = some [(0, 11), (11, 2)] := by kernel_rfl
theorem fi139_0 : fieldI Try.prog 139 0 = some (0, 11, true) := by kernel_rfl
theorem fi139_1 : fieldI Try.prog 139 1 = some (11, 2, true) := by kernel_rfl
theorem ty140 : tyI Try.prog 140 = some ⟨true, 13, [(.int .i64 0), (.int .i64 0), (.int .i64 0), (.int .i64 0), (.int .i64 0), (.int .i64 0), (.int .i64 0), (.int .i64 0), (.int .i64 0), (.int .i64 0), (.bool false), (.int .i64 0), (.int .i64 0)], 104⟩ := by kernel_rfl
theorem el140 : elemI Try.prog 140 = none := by kernel_rfl
theorem eq140 : eqTy Try.prog 140 = some (.st [(0, 11, (.st [(0, 2, (.st [(0, 1, .it), (1, 1, .it)])), (2, 2, (.st [(0, 1, .it), (1, 1, .it)])), (4, 2, (.st [(0, 1, .it), (1, 1, .it)])), (6, 2, (.st [(0, 1, .it), (1, 1, .it)])), (8, 2, (.st [(0, 1, .it), (1, 1, .it)])), (10, 1, .bl)])), (11, 2, (.st [(0, 1, .it), (1, 1, .it)]))]) := by kernel_rfl
theorem pl140 : placesI Try.prog 140 = some [(0, 11), (11, 2)] := by kernel_rfl
theorem fi140_0 : fieldI Try.prog 140 0 = some (0, 11, true) := by kernel_rfl
theorem fi140_1 : fieldI Try.prog 140 1 = some (11, 2, true) := by kernel_rfl
theorem ty141 : tyI Try.prog 141 = some ⟨false, 1, [.nilFunc], 8⟩ := by kernel_rfl
theorem el141 : elemI Try.prog 141 = none := by kernel_rfl
theorem ty142 : tyI Try.prog 142 = some ⟨false, 1, [.nilFunc], 8⟩ := by kernel_rfl
theorem el142 : elemI Try.prog 142 = none := by kernel_rfl
theorem ty143 : tyI Try.prog 143 = some ⟨true, 7, [(.int .i64 0), (.slice none 0 0), (.int .i64 0), (.slice none 0 0), (.slice none 0 0), (.int .i64 0), (.bool false)], 104⟩ := by kernel_rfl
theorem el143 : elemI Try.prog 143 = none := by kernel_rfl
theorem pl143 : placesI Try.prog 143 = some [(0, 7)] := by kernel_rfl
theorem fi143_0 : fieldI Try.prog 143 0 = some (0, 7, true) := by kernel_rfl
theorem ty144 : tyI Try.prog 144 = some ⟨true, 7, [(.int .i64 0), (.slice none 0 0), (.int .i64 0), (.slice none 0 0), (.slice none 0 0), (.int .i64 0), (.bool false)], 104⟩ := by kernel_rfl
theorem el144 : elemI Try.prog 144 = none := by kernel_rfl
theorem pl144 : placesI Try.prog 144 = some [(0, 7)] := by kernel_rfl
theorem fi144_0 : fieldI Try.prog 144 0 = some (0, 7, true) := by kernel_rfl
theorem ty145 : tyI Try.prog 145 = some ⟨false, 1, [.nilFunc], 8⟩ := by kernel_rfl
theorem el145 : elemI Try.prog 145 = none := by kernel_rfl
theorem ty146 : tyI Try.prog 146 = some ⟨true, 2, [(.int .i64 0), (.int .i64 0)], 16⟩ := by kernel_rfl
theorem el146 : elemI Try.prog 146 = none := by kernel_rfl
theorem eq146 : eqTy Try.prog 146 = some (.st [(0, 1, .it), (1, 1, .it)]) := by kernel_rfl
theorem pl146 : placesI Try.prog 146 = some [(0, 1), (1, 1)] := by kernel_rfl
theorem fi146_0 : fieldI Try.prog 146 0 = some (0, 1, false) := by kernel_rfl
theorem fi146_1 : fieldI Try.prog 146 1 = some (1, 1, false) := by kernel_rfl
theorem ty147 : tyI Try.prog 147 = some ⟨true, 2, [(.int .i64 0), (.int .i64 0)], 16⟩ := by kernel_rfl
theorem el147 : elemI Try.prog 147 = none := by kernel_rfl
theorem eq147 : eqTy Try.prog 147 = some (.st [(0, 1, .it), (1, 1, .it)]) := by kernel_rfl
theorem pl147 : placesI Try.prog 147 = some [(0, 1), (1, 1)] := by kernel_rfl
theorem fi147_0 : fieldI Try.prog 147 0 = some (0, 1, false) := by kernel_rfl
theorem fi147_1 : fieldI Try.prog 147 1 = some (1, 1, false) := by kernel_rfl
theorem ty148 : tyI Try.prog 148 = some ⟨false, 1, [.nilFunc], 8⟩ := by kernel_rfl
theorem el148 : elemI Try.prog 148 = none := by kernel_rfl
theorem ty149 : tyI Try.prog 149 = some ⟨false, 1, [.nilFunc], 8⟩ := by kernel_rfl
theorem el149 : elemI Try.prog 149 = none := by kernel_rfl
theorem ty150 : tyI Try.prog 150 = some ⟨false, 1, [.nilFunc], 8⟩ := by kernel_rfl
theorem el150 : elemI Try.prog 150 = none := by kernel_rfl
theorem ty151 : tyI Try.prog 151 = some ⟨false, 1, [.nilFunc], 8⟩ := by kernel_rfl
theorem el151 : elemI Try.prog 151 = none := by kernel_rfl
theorem ty152 : tyI Try.prog 152 = some ⟨false, 1, [.nilFunc], 8⟩ := by kernel_rfl
theorem el152 : elemI Try.prog 152 = none := by kernel_rfl
theorem ty153 : tyI Try.prog 153 = some ⟨true, 3, [(.int .i64 0), (.int .i64 0), (.slice none 0 0)], 40⟩ := by kernel_rfl
theorem el153 : elemI Try.prog 153 = none := by kernel_rfl
theorem pl153 : placesI Try.prog 153 = some [(0, 3)] := by kernel_rfl
theorem fi153_0 : fieldI Try.prog 153 0 = some (0, 3, true) := by kernel_rfl
theorem ty154 : tyI Try.prog 154 = some ⟨true, 3, [(.int .i64 0), (.int .i64 0), (.slice none 0 0)], 40⟩ := by kernel_rfl
theorem el154 : elemI Try.prog 154 = none := by kernel_rfl
theorem pl154 : placesI Try.prog 154 = some [(0, 3)] := by kernel_rfl
theorem fi154_0 : fieldI Try.prog 154 0 = some (0, 3, true) := by kernel_rfl
theorem el155 : elemI Try.prog 155 = none := by kernel_rfl
theorem ty156 : tyI Try.prog 156 = some ⟨false, 1, [.nilFunc], 8⟩ := by kernel_rfl
theorem el156 : elemI Try.prog 156 = none := by kernel_rfl
theorem ty157 : tyI Try.prog 157 = some ⟨false, 1, [.nilFunc], 8⟩ := by kernel_rfl
theorem el157 : elemI Try.prog 157 = none := by kernel_rfl
theorem ty158 : tyI Try.prog 158 = some ⟨false, 1, [.nilFunc], 8⟩ := by kernel_rfl
theorem el158 : elemI Try.prog 158 = none := by kernel_rfl
theorem ty159 : tyI Try.prog 159 = some ⟨false, 1, [(.slice none 0 0)], 24⟩ := by kernel_rfl
theorem el159 : elemI Try.prog 159 = some 3 := by kernel_rfl
theorem ty160 : tyI Try.prog 160 = some ⟨false, 1, [.nilFunc], 8⟩ := by kernel_rfl
theorem el160 : elemI Try.prog 160 = none := by kernel_rfl
theorem ty161 : tyI Try.prog 161 = some ⟨false, 1, [.nilFunc], 8⟩ := by kernel_rfl
theorem el161 : elemI Try.prog 161 = none := by kernel_rfl
theorem el162 : elemI Try.prog 162 = none := by kernel_rfl
theorem ty163 : tyI Try.prog 163 = some ⟨false, 1, [.nilFunc], 8⟩ := by kernel_rfl
theorem el163 : elemI Try.prog 163 = none := by kernel_rfl
theorem ty164 : tyI Try.prog 164 = some ⟨false, 1, [.nilFunc], 8⟩ := by kernel_rfl
theorem el164 : elemI Try.prog 164 = none := by kernel_rfl
theorem ty165 : tyI Try.prog 165 = some ⟨false, 1, [.nilFunc], 8⟩ := by kernel_rfl
theorem el165 : elemI Try.prog 165 = none := by kernel_rfl
theorem ty166 : tyI Try.prog 166 = some ⟨false, 1, [.nilFunc], 8⟩ := by kernel_rfl
theorem el166 : elemI Try.prog 166 = none := by kernel_rfl
theorem ty167 : tyI Try.prog 167 = some ⟨false, 1, [.nilFunc], 8⟩ := by kernel_rfl
theorem el167 : elemI Try.prog 167 = none := by kernel_rfl
theorem ty168 : tyI Try.prog 168 = some ⟨false, 1, [(.slice none 0 0)], 24⟩ := by kernel_rfl
theorem el168 : elemI Try.prog 168 = some 159 := by kernel_rfl
theorem ty169 : tyI Try.prog 169 = some ⟨false, 1, [(.slice none 0 0)], 24⟩ := by kernel_rfl
theorem el169 : elemI Try.prog 169 = some 159 := by kernel_rfl
theorem ty170 : tyI Try.prog 170 = some ⟨false, 1, [.nilFunc], 8⟩ := by kernel_rfl
theorem el170 : elemI Try.prog 170 = none := by kernel_rfl
theorem ty171 : tyI Try.prog 171 = some ⟨false, 1, [.nilFunc], 8⟩ := by kernel_rfl
theorem el171 : elemI Try.prog 171 = none := by kernel_rfl
theorem ty172 : tyI Try.prog 172 = some ⟨false, 1, [.nilFunc], 8⟩ := by kernel_rfl
theorem el172 : elemI Try.prog 172 = none := by kernel_rfl
theorem ty173 : tyI Try.prog 173 = some ⟨true, 5, [(.int .i64 0), (.int .i64 0), (.int .i64 0), (.int .i64 0), (.slice none 0 0)], 56⟩ := by kernel_rfl
theorem el173 : elemI Try.prog 173 = none := by kernel_rfl
theorem pl173 : placesI Try.prog 173 = some [(0, 4), (4, 1)] := by kernel_rfl
theorem fi173_0 : fieldI Try.prog 173 0 = some (0, 4, true) := by kernel_rfl
theorem fi173_1 : fieldI Try.prog 173 1 = some (4, 1, false) := by kernel_rfl
theorem ty174 : tyI Try.prog 174 = some ⟨true, 5, [(.int .i64 0), (.int .i64 0), (.int .i64 0), (.int .i64 0), (.slice none 0 0)], 56⟩ := by kernel_rfl
theorem el174 : elemI Try.prog 174 = none := by kernel_rfl
theorem pl174 : placesI Try.prog 174 = some [(0, 4), (4, 1)] := by kernel_rfl
theorem fi174_0 : fieldI Try.prog 174 0 = some (0, 4, true) := by kernel_rfl
theorem fi174_1 : fieldI Try.prog 174 1 = some (4, 1, false) := by kernel_rfl
theorem el175 : elemI Try.prog 175 = none := by kernel_rfl
theorem ty176 : tyI Try.prog 176 = some ⟨false, 1, [.nilFunc], 8⟩ := by kernel_rfl
theorem el176 : elemI Try.prog 176 = none := by kernel_rfl
theorem ty177 : tyI Try.prog 177 = some ⟨false, 1, [.nilFunc], 8⟩ := by kernel_rfl
theorem el177 : elemI Try.prog 177 = none := by kernel_rfl
theorem ty178 : tyI Try.prog 178 = some ⟨false, 1, [(.map none)], 8⟩ := by kernel_rfl
theorem el178 : elemI Try.prog 178 = none := by kernel_rfl
theorem mp178 : mapI Try.prog 178 = some ((.c (.v (.int .i64 0))), (.int .i64)) := by kernel_rfl
theorem ty179 : tyI Try.prog 179 = some ⟨false, 1, [.nilFunc], 8⟩ := by kernel_rfl
theorem el179 : elemI Try.prog 179 = none := by kernel_rfl
theorem ty180 : tyI Try.prog 180 = some ⟨false, 1, [.nilFunc], 8⟩ := by kernel_rfl
theorem el180 : elemI Try.prog 180 = none := by kernel_rfl
theorem el181 : elemI Try.prog 181 = none := by kernel_rfl
theorem ty182 : tyI Try.prog 182 = some ⟨false, 1, [.nilFunc], 8⟩ := by kernel_rfl
theorem el182 : elemI Try.prog 182 = none := by kernel_rfl
theorem el183 : elemI Try.prog 183 = none := by kernel_rfl
theorem ty184 : tyI Try.prog 184 = some ⟨false, 1, [.nilFunc], 8⟩ := by kernel_rfl
theorem el184 : elemI Try.prog 184 = none := by kernel_rfl
theorem el185 : elemI Try.prog 185 = none := by kernel_rfl
theorem ty186 : tyI Try.prog 186 = some ⟨false, 1, [.nilFunc], 8⟩ := by kernel_rfl
theorem el186 : elemI Try.prog 186 = none := by kernel_rfl
theorem ty187 : tyI Try.prog 187 = some ⟨false, 1, [.nilFunc], 8⟩ := by kernel_rfl
theorem el187 : elemI Try.prog 187 = none := by kernel_rfl
theorem ty188 : tyI Try.prog 188 = some ⟨false, 1, [.nilFunc], 8⟩ := by kernel_rfl
theorem el188 : elemI Try.prog 188 = none := by kernel_rfl
theorem ty189 : tyI Try.prog 189 = some ⟨false, 1, [.nilFunc], 8⟩ := by kernel_rfl
theorem el189 : elemI Try.prog 189 = none := by kernel_rfl
theorem ty190 : tyI Try.prog 190 = some ⟨false, 1, [.nilFunc], 8⟩ := by kernel_rfl
theorem el190 : elemI Try.prog 190 = none := by kernel_rfl
theorem ty191 : tyI Try.prog 191 = some ⟨true, 6, [(.int .i64 0), (.int .i64 0), (.int .i64 0), (.int .i64 0), (.int .i64 0), (.int .i64 0)], 48⟩ := by kernel_rfl
theorem el191 : elemI Try.prog 191 = none := by kernel_rfl
theorem ar191 : arrI Try.prog 191 = some (3, 38) := by kernel_rfl
theorem pl191 : placesI Try.prog 191 = some [(0, 2), (2, 2), (4, 2)] := by kernel_rfl
theorem ty192 : tyI Try.prog 192 = some ⟨false, 1, [.nilFunc], 8⟩ := by kernel_rfl
theorem el192 : elemI Try.prog 192 = none := by kernel_rfl
theorem ty193 : tyI Try.prog 193 = some ⟨true, 4, [(.int .i64 0), (.int .i64 0), (.int .i64 0), (.int .i64 0)], 32⟩ := by kernel_rfl
theorem el193 : elemI Try.prog 193 = none := by kernel_rfl
theorem ar193 : arrI Try.prog 193 = some (2, 38) := by kernel_rfl
theorem pl193 : placesI Try.prog 193 = some [(0, 2), (2, 2)] := by kernel_rfl
theorem ty194 : tyI Try.prog 194 = some ⟨false, 1, [.nilFunc], 8⟩ := by kernel_rfl
theorem el194 : elemI Try.prog 194 = none := by kernel_rfl
theorem ty195 : tyI Try.prog 195 = some ⟨false, 1, [.nilFunc], 8⟩ := by kernel_rfl
theorem el195 : elemI Try.prog 195 = none := by kernel_rfl
theorem ty196 : tyI Try.prog 196 = some ⟨false, 1, [.nilFunc], 8⟩ := by kernel_rfl
theorem el196 : elemI Try.prog 196 = none := by kernel_rfl
theorem ty197 : tyI Try.prog 197 = some ⟨false, 1, [.nilFunc], 8⟩ := by kernel_rfl
theorem el197 : elemI Try.prog 197 = none := by kernel_rfl
theorem ty198 : tyI Try.prog 198 = some ⟨false, 1, [.nilFunc], 8⟩ := by kernel_rfl
theorem el198 : elemI Try.prog 198 = none := by kernel_rfl
theorem ty199 : tyI Try.prog 199 = some ⟨false, 1, [.nilFunc], 8⟩ := by kernel_rfl
theorem el199 : elemI Try.prog 199 = none := by kernel_rfl
theorem el200 : elemI Try.prog 200 = none := by kernel_rfl
theorem ty201 : tyI Try.prog 201 = some ⟨false, 1, [.nilFunc], 8⟩ := by kernel_rfl
theorem el201 : elemI Try.prog 201 = none := by kernel_rfl
theorem ty202 : tyI Try.prog 202 = some ⟨true, 2, [(.bool false), (.int .i64 0)], 16⟩ := by kernel_rfl
theorem el202 : elemI Try.prog 202 = none := by kernel_rfl
theorem eq202 : eqTy Try.prog 202 = some (.st [(0, 1, .bl), (1, 1, .it)]) := by kernel_rfl
theorem pl202 : placesI Try.prog 202 = some [(0, 1), (1, 1)] := by kernel_rfl
theorem fi202_0 : fieldI Try.prog 202 0 = some (0, 1, false) := by kernel_rfl
theorem fi202_1 : fieldI Try.prog 202 1 = some (1, 1, false) := by kernel_rfl
theorem ty203 : tyI Try.prog 203 = some ⟨false, 1, [(.slice none 0 0)], 24⟩ := by kernel_rfl
theorem el203 : elemI Try.prog 203 = some 202 := by kernel_rfl
theorem ty204 : tyI Try.prog 204 = some ⟨false, 1, [.nilFunc], 8⟩ := by kernel_rfl
theorem el204 : elemI Try.prog 204 = none := by kernel_rfl
theorem ty205 : tyI Try.prog 205 = some ⟨true, 2, [(.int .i64 0), (.int .i64 0)], 16⟩ := by kernel_rfl
theorem el205 : elemI Try.prog 205 = none := by kernel_rfl
theorem eq205 : eqTy Try.prog 205 = some (.st [(0, 1, .it), (1, 1, .it)]) := by kernel_rfl
theorem pl205 : placesI Try.prog 205 = some [(0, 1), (1, 1)] := by kernel_rfl
theorem fi205_0 : fieldI Try.prog 205 0 = some (0, 1, false) := by kernel_rfl
theorem fi205_1 : fieldI Try.prog 205 1 = some (1, 1, false) := by kernel_rfl
theorem ty206 : tyI Try.prog 206 = some ⟨true, 2, [(.int .i64 0), (.int .i64 0)], 16⟩ := by kernel_rfl
theorem el206 : elemI Try.prog 206 = none := by kernel_rfl
theorem eq206 : eqTy Try.prog 206 = some (.st [(0, 1, .it), (1, 1, .it)]) := by kernel_rfl
theorem pl206 : placesI Try.prog 206 = some [(0, 1), (1, 1)] := by kernel_rfl
theorem fi206_0 : fieldI Try.prog 206 0 = some (0, 1, false) := by kernel_rfl
theorem fi206_1 : fieldI Try.prog 206 1 = some (1, 1, false) := by kernel_rfl
theorem ty207 : tyI Try.prog 207 = some ⟨false, 1, [(.slice none 0 0)], 24⟩ := by kernel_rfl
theorem el207 : elemI Try.prog 207 = some 206 := by kernel_rfl
theorem ty208 : tyI Try.prog 208 = some ⟨false, 1, [.nilFunc], 8⟩ := by kernel_rfl
theorem el208 : elemI Try.prog 208 = none := by kernel_rfl
theorem ty209 : tyI Try.prog 209 = some ⟨false, 1, [.nilFunc], 8⟩ := by kernel_rfl
theorem el209 : elemI Try.prog 209 = none := by kernel_rfl
theorem ty210 : tyI Try.prog 210 = some ⟨false, 1, [.nilFunc], 8⟩ := by kernel_rfl
theorem el210 : elemI Try.prog 210 = none := by kernel_rfl
theorem ty211 : tyI Try.prog 211 = some ⟨false, 1, [.nilFunc], 8⟩ := by kernel_rfl
theorem el211 : elemI Try.prog 211 = none := by kernel_rfl
theorem ty212 : tyI Try.prog 212 = some ⟨false, 1, [.nilFunc], 8⟩ := by kernel_rfl
theorem el212 : elemI Try.prog 212 = none := by kernel_rfl
theorem ty213 : tyI Try.prog 213 = some ⟨false, 1, [.nilFunc], 8⟩ := by kernel_rfl
theorem el213 : elemI Try.prog 213 = none := by kernel_rfl
theorem ty214 : tyI Try.prog 214 = some ⟨false, 1, [.nilFunc], 8⟩ := by kernel_rfl
theorem el214 : elemI Try.prog 214 = none := by kernel_rfl
theorem ty215 : tyI Try.prog 215 = some ⟨false, 1, [.nilFunc], 8⟩ := by kernel_rfl
theorem el215 : elemI Try.prog 215 = none := by kernel_rfl
theorem ty216 : tyI Try.prog 216 = some ⟨false, 1, [.nilFunc], 8⟩ := by kernel_rfl
theorem el216 : elemI Try.prog 216 = none := by kernel_rfl
theorem ty217 : tyI Try.prog 217 = some ⟨false, 1, [.nilFunc], 8⟩ := by kernel_rfl
theorem el217 : elemI Try.prog 217 = none := by kernel_rfl
theorem ty218 : tyI Try.prog 218 = some ⟨false, 1, [.nilFunc], 8⟩ := by kernel_rfl
theorem el218 : elemI Try.prog 218 = none := by kernel_rfl
theorem ty219 : tyI Try.prog 219 = some ⟨false, 1, [.nilFunc], 8⟩ := by kernel_rfl
theorem el219 : elemI Try.prog 219 = none := by kernel_rfl
theorem ty220 : tyI Try.prog 220 = some ⟨false, 1, [.nilFunc], 8⟩ := by kernel_rfl
theorem el220 : elemI Try.prog 220 = none := by kernel_rfl
theorem ty221 : tyI Try.prog 221 = some ⟨false, 1, [.nilFunc], 8⟩ := by kernel_rfl
theorem el221 : elemI Try.prog 221 = none := by kernel_rfl
theorem ty222 : tyI Try.prog 222 = some ⟨false, 1, [.nilFunc], 8⟩ := by kernel_rfl
theorem el222 : elemI Try.prog 222 = none := by kernel_rfl
theorem ty223 : tyI Try.prog 223 = some ⟨false, 1, [.nilFunc], 8⟩ := by kernel_rfl
theorem el223 : elemI Try.prog 223 = none := by kernel_rfl
theorem el224 : elemI Try.prog 224 = none := by kernel_rfl
theorem ty225 : tyI Try.prog 225 = some ⟨false, 1, [.nilFunc], 8⟩ := by kernel_rfl
theorem el225 : elemI Try.prog 225 = none := by kernel_rfl
theorem ty226 : tyI Try.prog 226 = some ⟨false, 1, [.nilFunc], 8⟩ := by kernel_rfl
theorem el226 : elemI Try.prog 226 = none := by kernel_rfl
theorem ty227 : tyI Try.prog 227 = some ⟨false, 1, [.nilFunc], 8⟩ := by kernel_rfl
theorem el227 : elemI Try.prog 227 = none := by kernel_rfl
theorem ty228 : tyI Try.prog 228 = some ⟨false, 1, [.nilFunc], 8⟩ := by kernel_rfl
theorem el228 : elemI Try.prog 228 = none := by kernel_rfl
theorem ty229 : tyI Try.prog 229 = some ⟨false, 1, [(.slice none 0 0)], 24⟩ := by kernel_rfl
theorem el229 : elemI Try.prog 229 = some 123 := by kernel_rfl
theorem ty230 : tyI Try.prog 230 = some ⟨false, 1, [.nilFunc], 8⟩ := by kernel_rfl
theorem el230 : elemI Try.prog 230 = none := by kernel_rfl
theorem ty231 : tyI Try.prog 231 = some ⟨false, 1, [.nilFunc], 8⟩ := by kernel_rfl
theorem el231 : elemI Try.prog 231 = none := by kernel_rfl
theorem ty232 : tyI Try.prog 232 = some ⟨false, 1, [.nilFunc], 8⟩ := by kernel_rfl
theorem el232 : elemI Try.prog 232 = none := by kernel_rfl
theorem el233 : elemI Try.prog 233 = none := by kernel_rfl
theorem ty234 : tyI Try.prog 234 = some ⟨false, 1, [.nilFunc], 8⟩ := by kernel_rfl
theorem el234 : elemI Try.prog 234 = none := by kernel_rfl
theorem ty235 : tyI Try.prog 235 = some ⟨false, 1, [.nilFunc], 8⟩ := by kernel_rfl
theorem el235 : elemI Try.prog 235 = none := by kernel_rfl
theorem ty236 : tyI Try.prog 236 = some ⟨false, 1, [.nilFunc], 8⟩ := by kernel_rfl
theorem el236 : elemI Try.prog 236 = none := by kernel_rfl
theorem ty237 : tyI Try.prog 237 = some ⟨false, 1, [.nilFunc], 8⟩ := by kernel_rfl
theorem el237 : elemI Try.prog 237 = none := by kernel_rfl
theorem ty238 : tyI Try.prog 238 = some ⟨false, 1, [.nilFunc], 8⟩ := by kernel_rfl
theorem el238 : elemI Try.prog 238 = none := by kernel_rfl
theorem ty239 : tyI Try.prog 239 = some ⟨false, 1, [.nilFunc], 8⟩ := by kernel_rfl
theorem el239 : elemI Try.prog 239 = none := by kernel_rfl
theorem ty240 : tyI Try.prog 240 = some ⟨false, 1, [.nilFunc], 8⟩ := by kernel_rfl
theorem el240 : elemI Try.prog 240 = none := by kernel_rfl
theorem ty241 : tyI Try.prog 241 = some ⟨false, 1, [.nilFunc], 8⟩ := by kernel_rfl
theorem el241 : elemI Try.prog 241 = none := by kernel_rfl
theorem ty242 : tyI Try.prog 242 = some ⟨false, 1, [.nilFunc], 8⟩ := by kernel_rfl
theorem el242 : elemI Try.prog 242 = none := by kernel_rfl
theorem ty243 : tyI Try.prog 243 = some ⟨false, 1, [.nilFunc], 8⟩ := by kernel_rfl
theorem el243 : elemI Try.prog 243 = none := by kernel_rfl
theorem ty244 : tyI Try.prog 244 = some ⟨false, 1, [(.pointer none)], 8⟩ := by kernel_rfl
theorem el244 : elemI Try.prog 244 = none := by kernel_rfl
theorem ty245 : tyI Try.prog 245 = some ⟨false, 1, [.nilFunc], 8⟩ := by kernel_rfl
theorem el245 : elemI Try.prog 245 = none := by kernel_rfl
theorem ty246 : tyI Try.prog 246 = some ⟨true, 9, [(.int .i64 0), (.int .i64 0), (.int .i64 0), (.int .i64 0), (.slice none 0 0), (.slice none 0 0), (.slice none 0 0), (.int .i64 0), (.bool false)], 120⟩ := by kernel_rfl
theorem el246 : elemI Try.prog 246 = none := by kernel_rfl
theorem pl246 : placesI Try.prog 246 = some [(0, 5), (5, 1), (6, 1), (7, 1), (8, 1)] := by kernel_rfl
theorem fi246_0 : fieldI Try.prog 246 0 = some (0, 5, true) := by kernel_rfl
theorem fi246_1 : fieldI Try.prog 246 1 = some (5, 1, false) := by kernel_rfl
theorem fi246_2 : fieldI Try.prog 246 2 = some (6, 1, false) := by kernel_rfl
theorem fi246_3 : fieldI Try.prog 246 3 = some (7, 1, false) := by kernel_rfl
theorem fi246_4 : fieldI Try.prog 246 4 = some (8, 1, false) := by kernel_rfl
theorem ty247 : tyI Try.prog 247 = some ⟨true, 9, [(.int .i64 0), (.int .i64 0), (.int .i64 0), (.int .i64 0), (.slice none 0 0), (.slice none 0 0), (.slice none 0 0), (.int .i64 0), (.bool false)], 120⟩ := by kernel_rfl
theorem el247 : elemI Try.prog 247 = none := by kernel_rfl
theorem pl247 : placesI Try.prog 247 = some [(0, 5), (5, 1), (6, 1), (7, 1), (8, 1)] := by kernel_rfl
theorem fi247_0 : fieldI Try.prog 247 0 = some (0, 5, true) := by kernel_rfl
theorem fi247_1 : fieldI Try.prog 247 1 = some (5, 1, false) := by kernel_rfl
theorem fi247_2 : fieldI Try.prog 247 2 = some (6, 1, false) := by kernel_rfl
theorem fi247_3 : fieldI Try.prog 247 3 = some (7, 1, false) := by kernel_rfl
theorem fi247_4 : fieldI Try.prog 247 4 = some (8, 1, false) := by kernel_rfl
theorem ty248 : tyI Try.prog 248 = some ⟨false, 1, [.nilFunc], 8⟩ := by kernel_rfl
theorem el248 : elemI Try.prog 248 = none := by kernel_rfl
theorem ty249 : tyI Try.prog 249 = some ⟨false, 1, [.nilFunc], 8⟩ := by kernel_rfl
theorem el249 : elemI Try.prog 249 = none := by kernel_rfl
theorem ty250 : tyI Try.prog 250 = some ⟨false, 1, [.nilFunc], 8⟩ := by kernel_rfl
theorem el250 : elemI Try.prog 250 = none := by kernel_rfl
theorem ty251 : tyI Try.prog 251 = some ⟨false, 1, [.nilFunc], 8⟩ := by kernel_rfl
theorem el251 : elemI Try.prog 251 = none := by kernel_rfl
theorem ty252 : tyI Try.prog 252 = some ⟨false, 1, [.nilFunc], 8⟩ := by kernel_rfl
theorem el252 : elemI Try.prog 252 = none := by kernel_rfl
theorem ty253 : tyI Try.prog 253 = some ⟨false, 1, [.nilFunc], 8⟩ := by kernel_rfl
theorem el253 : elemI Try.prog 253 = none := by kernel_rfl
theorem ty254 : tyI Try.prog 254 = some ⟨false, 1, [.nilFunc], 8⟩ := by kernel_rfl
theorem el254 : elemI Try.prog 254 = none := by kernel_rfl
theorem ty255 : tyI Try.prog 255 = some ⟨false, 1, [.nilFunc], 8⟩ := by kernel_rfl
theorem el255 : elemI Try.prog 255 = none := by kernel_rfl
theorem ty256 : tyI Try.prog 256 = some ⟨false, 1, [.nilFunc], 8⟩ := by kernel_rfl
theorem el256 : elemI Try.prog 256 = none := by kernel_rfl
theorem ty257 : tyI Try.prog 257 = some ⟨false, 1, [.nilFunc], 8⟩ := by kernel_rfl
theorem el257 : elemI Try.prog 257 = none := by kernel_rfl
theorem ty258 : tyI Try.prog 258 = some ⟨false, 1, [.nilFunc], 8⟩ := by kernel_rfl
theorem el258 : elemI Try.prog 258 = none := by kernel_rfl
theorem ty259 : tyI Try.prog 259 = some ⟨false, 1, [.nilFunc], 8⟩ := by kernel_rfl
theorem el259 : elemI Try.prog 259 = none := by kernel_rfl
theorem el260 : elemI Try.prog 260 = none := by kernel_rfl
theorem ty261 : tyI Try.prog 261 = some ⟨false, 1, [.nilFunc], 8⟩ := by kernel_rfl
theorem el261 : elemI Try.prog 261 = none := by kernel_rfl
theorem ty262 : tyI Try.prog 262 = some ⟨false, 1, [.nilFunc], 8⟩ := by kernel_rfl
theorem el262 : elemI Try.prog 262 = none := by kernel_rfl
theorem ty263 : tyI Try.prog 263 = some ⟨false, 1, [.nilFunc], 8⟩ := by kernel_rfl
theorem el263 : elemI Try.prog 263 = none := by kernel_rfl
theorem ty264 : tyI Try.prog 264 = some ⟨false, 1, [(.int .u32 0)], 4⟩ := by kernel_rfl
theorem el264 : elemI Try.prog 264 = none := by kernel_rfl
theorem it264 : intI Try.prog 264 = some .u32 := by kernel_rfl
theorem el265 : elemI Try.prog 265 = none := by kernel_rfl
theorem ty266 : tyI Try.prog 266 = some ⟨false, 1, [.nilFunc], 8⟩ := by kernel_rfl
theorem el266 : elemI Try.prog 266 = none := by kernel_rfl
theorem ty267 : tyI Try.prog 267 = some ⟨false, 1, [(.int .u64 0)], 8⟩ := by kernel_rfl
theorem el267 : elemI Try.prog 267 = none := by kernel_rfl
theorem it267 : intI Try.prog 267 = some .u64 := by kernel_rfl
theorem el268 : elemI Try.prog 268 = none := by kernel_rfl
theorem ty269 : tyI Try.prog 269 = some ⟨false, 1, [.nilFunc], 8⟩ := by kernel_rfl
theorem el269 : elemI Try.prog 269 = none := by kernel_rfl
theorem ty270 : tyI Try.prog 270 = some ⟨false, 1, [.nilFunc], 8⟩ := by kernel_rfl
theorem el270 : elemI Try.prog 270 = none := by kernel_rfl
theorem ty271 : tyI Try.prog 271 = some ⟨true, 4, [(.pointer none), (.pointer none), (.pointer none), (.string ⟨#[]⟩)], 40⟩ := by kernel_rfl
theorem el271 : elemI Try.prog 271 = none := by kernel_rfl
theorem pl271 : placesI Try.prog 271 = some [(0, 1), (1, 1), (2, 1), (3, 1)] := by kernel_rfl
theorem fi271_0 : fieldI Try.prog 271 0 = some (0, 1, false) := by kernel_rfl
theorem fi271_1 : fieldI Try.prog 271 1 = some (1, 1, false) := by kernel_rfl
theorem fi271_2 : fieldI Try.prog 271 2 = some (2, 1, false) := by kernel_rfl
theorem fi271_3 : fieldI Try.prog 271 3 = some (3, 1, false) := by kernel_rfl
theorem ty272 : tyI Try.prog 272 = some ⟨true, 4, [(.pointer none), (.pointer none), (.pointer none), (.string ⟨#[]⟩)], 40⟩ := by kernel_rfl
theorem el272 : elemI Try.prog 272 = none := by kernel_rfl
theorem pl272 : placesI Try.prog 272 = some [(0, 1), (1, 1), (2, 1), (3, 1)] := by kernel_rfl
theorem fi272_0 : fieldI Try.prog 272 0 = some (0, 1, false) := by kernel_rfl
theorem fi272_1 : fieldI Try.prog 272 1 = some (1, 1, false) := by kernel_rfl
theorem fi272_2 : fieldI Try.prog 272 2 = some (2, 1, false) := by kernel_rfl
theorem fi272_3 : fieldI Try.prog 272 3 = some (3, 1, false) := by kernel_rfl
theorem ty273 : tyI Try.prog 273 = some ⟨true, 0, [], 0⟩ := by kernel_rfl
theorem el273 : elemI Try.prog 273 = none := by kernel_rfl
theorem ar273 : arrI Try.prog 273 = some (0, 16) := by kernel_rfl
theorem pl273 : placesI Try.prog 273 = some [] := by kernel_rfl
theorem ty274 : tyI Try.prog 274 = some ⟨true, 0, [], 0⟩ := by kernel_rfl
theorem el274 : elemI Try.prog 274 = none := by kernel_rfl
theorem pl274 : placesI Try.prog 274 = some [(0, 0)] := by kernel_rfl
theorem ty275 : tyI Try.prog 275 = some ⟨true, 0, [], 0⟩ := by kernel_rfl
theorem el275 : elemI Try.prog 275 = none := by kernel_rfl
theorem pl275 : placesI Try.prog 275 = some [(0, 0)] := by kernel_rfl
theorem ty276 : tyI Try.prog 276 = some ⟨false, 1, [(.int .u8 0)], 1⟩ := by kernel_rfl
theorem el276 : elemI Try.prog 276 = none := by kernel_rfl
theorem it276 : intI Try.prog 276 = some .u8 := by kernel_rfl
theorem ty277 : tyI Try.prog 277 = some ⟨false, 1, [(.int .u8 0)], 1⟩ := by kernel_rfl
theorem el277 : elemI Try.prog 277 = none := by kernel_rfl
theorem it277 : intI Try.prog 277 = some .u8 := by kernel_rfl
theorem ty278 : tyI Try.prog 278 = some ⟨false, 1, [.nilFunc], 8⟩ := by kernel_rfl
theorem el278 : elemI Try.prog 278 = none := by kernel_rfl
theorem ty279 : tyI Try.prog 279 = some ⟨false, 1, [(.pointer none)], 8⟩ := by kernel_rfl
theorem el279 : elemI Try.prog 279 = none := by kernel_rfl
theorem ty280 : tyI Try.prog 280 = some ⟨false, 1, [(.int .i32 0)], 4⟩ := by kernel_rfl
theorem el280 : elemI Try.prog 280 = none := by kernel_rfl
theorem it280 : intI Try.prog 280 = some .i32 := by kernel_rfl
theorem ty281 : tyI Try.prog 281 = some ⟨false, 1, [(.int .i32 0)], 4⟩ := by kernel_rfl
theorem el281 : elemI Try.prog 281 = none := by kernel_rfl
theorem it281 : intI Try.prog 281 = some .i32 := by kernel_rfl
theorem ty282 : tyI Try.prog 282 = some ⟨true, 11, [(.int .u64 0), (.int .u64 0), (.int .u32 0), (.int .u8 0), (.int .u8 0), (.int .u8 0), (.int .u8 0), .nilFunc, (.pointer none), (.int .i32 0), (.int .i32 0)], 48⟩ := by kernel_rfl
theorem el282 : elemI Try.prog 282 = none := by kernel_rfl
theorem pl282 : placesI Try.prog 282 = some [(0, 1), (1, 1), (2, 1), (3, 1), (4, 1), (5, 1), (6, 1), (7, 1), (8, 1), (9, 1), (10, 1)] := by kernel_rfl
theorem fi282_0 : fieldI Try.prog 282 0 = some (0, 1, false) := by kernel_rfl
theorem fi282_1 : fieldI Try.prog 282 1 = some (1, 1, false) := by kernel_rfl
theorem fi282_2 : fieldI Try.prog 282 2 = some (2, 1, false) := by kernel_rfl
theorem fi282_3 : fieldI Try.prog 282 3 = some (3, 1, false) := by kernel_rfl
theorem fi282_4 : fieldI Try.prog 282 4 = some (4, 1, false) := by kernel_rfl
theorem fi282_5 : fieldI Try.prog 282 5 = some (5, 1, false) := by kernel_rfl
theorem fi282_6 : fieldI Try.prog 282 6 = some (6, 1, false) := by kernel_rfl
theorem fi282_7 : fieldI Try.prog 282 7 = some (7, 1, false) := by kernel_rfl
theorem fi282_8 : fieldI Try.prog 282 8 = some (8, 1, false) := by kernel_rfl
theorem fi282_9 : fieldI Try.prog 282 9 = some (9, 1, false) := by kernel_rfl
theorem fi282_10 : fieldI Try.prog 282 10 = some (10, 1, false) := by kernel_rfl
theorem ty283 : tyI Try.prog 283 = some ⟨true, 11, [(.int .u64 0), (.int .u64 0), (.int .u32 0), (.int .u8 0), (.int .u8 0), (.int .u8 0), (.int .u8 0), .nilFunc, (.pointer none), (.int .i32 0), (.int .i32 0)], 48⟩ := by kernel_rfl
theorem el283 : elemI Try.prog 283 = none := by kernel_rfl
theorem pl283 : placesI Try.prog 283 = some [(0, 1), (1, 1), (2, 1), (3, 1), (4, 1), (5, 1), (6, 1), (7, 1), (8, 1), (9, 1), (10, 1)] := by kernel_rfl
theorem fi283_0 : fieldI Try.prog 283 0 = some (0, 1, false) := by kernel_rfl
theorem fi283_1 : fieldI Try.prog 283 1 = some (1, 1, false) := by kernel_rfl
theorem fi283_2 : fieldI Try.prog 283 2 = some (2, 1, false) := by kernel_rfl
theorem fi283_3 : fieldI Try.prog 283 3 = some (3, 1, false) := by kernel_rfl
theorem fi283_4 : fieldI Try.prog 283 4 = some (4, 1, false) := by kernel_rfl
theorem fi283_5 : fieldI Try.prog 283 5 = some (5, 1, false) := by kernel_rfl
theorem fi283_6 : fieldI Try.prog 283 6 = some (6, 1, false) := by kernel_rfl
theorem fi283_7 : fieldI Try.prog 283 7 = some (7, 1, false) := by kernel_rfl
theorem fi283_8 : fieldI Try.prog 283 8 = some (8, 1, false) := by kernel_rfl
theorem fi283_9 : fieldI Try.prog 283 9 = some (9, 1, false) := by kernel_rfl
theorem fi283_10 : fieldI Try.prog 283 10 = some (10, 1, false) := by kernel_rfl
theorem ty284 : tyI Try.prog 284 = some ⟨false, 1, [.nilFunc], 8⟩ := by kernel_rfl
theorem el284 : elemI Try.prog 284 = none := by kernel_rfl
theorem ty285 : tyI Try.prog 285 = some ⟨false, 1, [.nilFunc], 8⟩ := by kernel_rfl
theorem el285 : elemI Try.prog 285 = none := by kernel_rfl
theorem ty286 : tyI Try.prog 286 = some ⟨false, 1, [(.pointer none)], 8⟩ := by kernel_rfl
theorem el286 : elemI Try.prog 286 = none := by kernel_rfl
attribute [go_sem] el0 ty1 el1 ty2 el2 it2 ty3 el3 it3 ty4 el4 bl4 ty5 el5 it5 ty6 el6 it6 ty7 el7 eq7 pl7 fi7_0 fi7_1 fi7_2 fi7_3 ty8 el8 eq8 pl8 fi8_0 fi8_1 fi8_2 fi8_3 ty9 el9 ty10 el10 ty11 el11 ty12 el12 it12 ty13 el13 pl13 fi13_0 fi13_1 ty14 el14 pl14 fi14_0 fi14_1 ty15 el15 ty16 el16 ty17 el17 ty18 el18 pl18 fi18_0 ty19 el19 pl19 fi19_0 ty20 el20 ty21 el21 it21 ty22 el22 ty23 el23 ty24 el24 ty25 el25 pl25 fi25_0 fi25_1 fi25_2 ty26 el26 pl26 fi26_0 fi26_1 fi26_2 ty27 el27 ar27 pl27 ty28 el28 ty29 el29 ty30 el30 pl30 fi30_0 fi30_1 ty31 el31 pl31 fi31_0 fi31_1 ty32 el32 ty33 el33 ty34 el34 pl34 fi34_0 fi34_1 ty35 el35 pl35 fi35_0 fi35_1 ty36 el36 ty37 el37 eq37 pl37 fi37_0 fi37_1 ty38 el38 eq38 pl38 fi38_0 fi38_1 ty39 el39 it39 el40 ty41 el41 ty42 el42 ty43 el43 ty44 el44 ty45 el45 ty46 el46 eq46 pl46 fi46_0 fi46_1 fi46_2 fi46_3 fi46_4 fi46_5 ty47 el47 eq47 pl47 fi47_0 fi47_1 fi47_2 fi47_3 fi47_4 fi47_5 ty48 el48 pl48 fi48_0 fi48_1 fi48_2 fi48_3 fi48_4 fi48_5 fi48_6 ty49 el49 pl49 fi49_0 fi49_1 fi49_2 fi49_3 fi49_4 fi49_5 fi49_6 el50 ty51 el51 ty52 el52 el53 ty54 el54 ty55 el55 el56 ty57 el57 ty58 el58 ty59 el59 ty60 el60 ar60 pl60 ty61 el61 ar61 pl61 el62 ty63 el63 ty64 el64 it64 ty65 el65 ty66 el66 pl66 fi66_0 fi66_1 fi66_2 ty67 el67 pl67 fi67_0 fi67_1 fi67_2 ty68 el68 ty69 el69 ty70 el70 eq70 pl70 fi70_0 fi70_1 ty71 el71 eq71 pl71 fi71_0 fi71_1 ty72 el72 el73 ty74 el74 ty75 el75 el76 ty77 el77 ty78 el78 el79 ty80 el80 ty81 el81 eq81 pl81 fi81_0 fi81_1 ty82 el82 eq82 pl82 fi82_0 fi82_1 ty83 el83 ty84 el84 ty85 el85 ar85 pl85 ty86 el86 ar86 pl86 ty87 el87 ar87 pl87 ty88 el88 ar88 pl88 ty89 el89 pl89 fi89_0 fi89_1 fi89_2 ty90 el90 pl90 fi90_0 fi90_1 fi90_2 ty91 el91 ar91 pl91 ty92 el92 ar92 pl92 ty93 el93 ar93 pl93 ty94 el94 pl94 fi94_0 fi94_1 fi94_2 ty95 el95 pl95 fi95_0 fi95_1 fi95_2 ty96 el96 el97 ty98 el98 ty99 el99 eq99 pl99 fi99_0 fi99_1 fi99_2 ty100 el100 eq100 pl100 fi100_0 fi100_1 fi100_2 ty101 el101 ty102 el102 el103 ty104 el104 el105 ty106 el106 ty107 el107 ty108 el108 ty109 el109 pl109 fi109_0 fi109_1 ty110 el110 pl110 fi110_0 fi110_1 ty111 el111 eq111 pl111 fi111_0 fi111_1 ty112 el112 eq112 pl112 fi112_0 fi112_1 ty113 el113 eq113 pl113 fi113_0 fi113_1 fi113_2 ty114 el114 eq114 pl114 fi114_0 fi114_1 fi114_2 ty115 el115 ty116 el116 ar116 pl116 el117 ty118 el118 ty119 el119 ar119 pl119 ty120 el120 eq120 pl120 fi120_0 fi120_1 ty121 el121 eq121 pl121 fi121_0 fi121_1 ty122 el122 ty123 el123 it123 ty124 el124 eq124 pl124 fi124_0 fi124_1 fi124_2 fi124_3 fi124_4 fi124_5 ty125 el125 eq125 pl125 fi125_0 fi125_1 fi125_2 fi125_3 fi125_4 fi125_5 ty126 el126 ar126 pl126 ty127 el127 ty128 el128 pl128 fi128_0 fi128_1 fi128_2 ty129 el129 pl129 fi129_0 fi129_1 fi129_2 el130 ty131 el131 el132 ty133 el133 el134 ty135 el135 ty136 el136 ty137 el137 ty138 el138 ty139 el139 eq139 pl139 fi139_0 fi139_1 ty140 el140 eq140 pl140 fi140_0 fi140_1 ty141 el141 ty142 el142 ty143 el143 pl143 fi143_0 ty144 el144 pl144 fi144_0 ty145 el145 ty146 el146 eq146 pl146 fi146_0 fi146_1 ty147 el147 eq147 pl147 fi147_0 fi147_1 ty148 el148 ty149 el149 ty150 el150 ty151 el151 ty152 el152 ty153 el153 pl153 fi153_0 ty154 el154 pl154 fi154_0 el155 ty156 el156 ty157 el157 ty158 el158 ty159 el159 ty160 el160 ty161 el161 el162 ty163 el163 ty164 el164 ty165 el165 ty166 el166 ty167 el167 ty168 el168 ty169 el169 ty170 el170 ty171 el171 ty172 el172 ty173 el173 pl173 fi173_0 fi173_1 ty174 el174 pl174 fi174_0 fi174_1 el175 ty176 el176 ty177 el177 ty178 el178 mp178 ty179 el179 ty180 el180 el181 ty182 el182 el183 ty184 el184 el185 ty186 el186 ty187 el187 ty188 el188 ty189 el189 ty190 el190 ty191 el191 ar191 pl191 ty192 el192 ty193 el193 ar193 pl193 ty194 el194 ty195 el195 ty196 el196 ty197 el197 ty198 el198 ty199 el199 el200 ty201 el201 ty202 el202 eq202 pl202 fi202_0 fi202_1 ty203 el203 ty204 el204 ty205 el205 eq205 pl205 fi205_0 fi205_1 ty206 el206 eq206 pl206 fi206_0 fi206_1 ty207 el207 ty208 el208 ty209 el209 ty210 el210 ty211 el211 ty212 el212 ty213 el213 ty214 el214 ty215 el215 ty216 el216 ty217 el217 ty218 el218 ty219 el219 ty220 el220 ty221 el221 ty222 el222 ty223 el223 el224 ty225 el225 ty226 el226 ty227 el227 ty228 el228 ty229 el229 ty230 el230 ty231 el231 ty232 el232 el233 ty234 el234 ty235 el235 ty236 el236 ty237 el237 ty238 el238 ty239 el239 ty240 el240 ty241 el241 ty242 el242 ty243 el243 ty244 el244 ty245 el245 ty246 el246 pl246 fi246_0 fi246_1 fi246_2 fi246_3 fi246_4 ty247 el247 pl247 fi247_0 fi247_1 fi247_2 fi247_3 fi247_4 ty248 el248 ty249 el249 ty250 el250 ty251 el251 ty252 el252 ty253 el253 ty254 el254 ty255 el255 ty256 el256 ty257 el257 ty258 el258 ty259 el259 el260 ty261 el261 ty262 el262 ty263 el263 ty264 el264 it264 el265 ty266 el266 ty267 el267 it267 el268 ty269 el269 ty270 el270 ty271 el271 pl271 fi271_0 fi271_1 fi271_2 fi271_3 ty272 el272 pl272 fi272_0 fi272_1 fi272_2 fi272_3 ty273 el273 ar273 pl273 ty274 el274 pl274 ty275 el275 pl275 ty276 el276 it276 ty277 el277 it277 ty278 el278 ty279 el279 ty280 el280 it280 ty281 el281 it281 ty282 el282 pl282 fi282_0 fi282_1 fi282_2 fi282_3 fi282_4 fi282_5 fi282_6 fi282_7 fi282_8 fi282_9 fi282_10 ty283 el283 pl283 fi283_0 fi283_1 fi283_2 fi283_3 fi283_4 fi283_5 fi283_6 fi283_7 fi283_8 fi283_9 fi283_10 ty284 el284 ty285 el285 ty286 el286
end Go.Dw.Seat
end
section
namespace Go.Dw.Seat
open Go Go.Dw
def Tm (n : Nat) : Operand := .tmp n
def Kn (n : Int) : Operand := .const (.int .i64 n)
def Kb (b : Bool) : Operand := .const (.bool b)
def Mv (a c : Nat) : SO := ⟨some a, .move (.tmp c), none⟩
def Sg (a c : Nat) : SO := ⟨some a, .assign (.tmp c), none⟩
def Sk (a : Nat) (c : Operand) : SO := ⟨some a, .assign c, none⟩
def Ld (a b c : Nat) : SO := ⟨some a, .load b (.tmp c), none⟩
def Fa (a b c d : Nat) : SO := ⟨some a, .fieldAddr b (.tmp c) d, none⟩
def Xt (a c d : Nat) : SO := ⟨some a, .extract (.tmp c) d, none⟩
def Ix (a b c d : Nat) : SO := ⟨some a, .indexAddr b (.tmp c) (.tmp d), none⟩
def Lq (a c t : Nat) : SO := ⟨some a, .call { callee := .builtin .len, args := #[.tmp c], argTypes := #[t] }, none⟩
def Cl (a f : Nat) (x : Array Operand) (y : Array TypeId) : SO := ⟨some a, .call { callee := .value (.func f), args := x, argTypes := y }, none⟩
def Bo (a : Nat) (o : BinOp) (t : Nat) (x y : Operand) (u : Nat) : SO := ⟨some a, .binOp o t x y u, none⟩
def Pk (a x : Nat) (y z : Operand) : SO := ⟨some a, .pick (.tmp x) y z, none⟩
def Sr (t : Nat) (x y : Operand) : SO := ⟨none, .store t x y, none⟩
def Nk (a c : Nat) : SO := ⟨some a, .nilCheck (.tmp c), none⟩
def Oo (a : Nat) (o : Op) : SO := ⟨some a, o, none⟩
def Gm (a c g : Nat) (b : Bool) : SO := ⟨some a, .move (.tmp c), some (g, b)⟩
def Gl (a t c g : Nat) (b : Bool) : SO := ⟨some a, .load t (.tmp c), some (g, b)⟩
def Gf (a t c d g : Nat) (b : Bool) : SO := ⟨some a, .fieldAddr t (.tmp c) d, some (g, b)⟩
def Gx (a t c d g : Nat) (b : Bool) : SO := ⟨some a, .indexAddr t (.tmp c) (.tmp d), some (g, b)⟩
def Gc (a f : Nat) (x : Array Operand) (y : Array TypeId) (g : Nat) (b : Bool) : SO := ⟨some a, .call { callee := .value (.func f), args := x, argTypes := y }, some (g, b)⟩
def Gb (a : Nat) (o : BinOp) (t : Nat) (x y : Operand) (u g : Nat) (b : Bool) : SO := ⟨some a, .binOp o t x y u, some (g, b)⟩
def Og (a : Nat) (o : Op) (g : Nat) (b : Bool) : SO := ⟨some a, o, some (g, b)⟩
abbrev R0 (l : List SO) : SC := .reg false l
abbrev R1 (l : List SO) : SC := .reg true l
attribute [go_sem] Tm Kn Kb Mv Sg Sk Ld Fa Xt Ix Lq Cl Bo Pk Sr Nk Oo Gm Gl Gf Gx Gc Gb Og
end Go.Dw.Seat
namespace Go.Dw.Seat
open Go Go.Dw Go.Proofs
def o3_0 : SO := (Ld 31 31 7)
def o3_1 : SO := (Cl 32 9 #[Tm 31] #[31])
def o3_2 : SO := (Ld 33 35 8)
def o3_3 : SO := (Cl 34 10 #[Tm 33] #[35])
def o3_4 : SO := (Cl 35 8 #[Tm 32, Tm 34] #[31, 35])
def o3_5 : SO := (Mv 30 35)
def o3_6 : SO := (Xt 36 30 0)
def o3_7 : SO := (Oo 9 (.alloc 38))
def o3_8 : SO := (Oo 10 (.alloc 38))
def o3_9 : SO := (Xt 37 30 1)
def o3_10 : SO := (Xt 38 30 2)
def o3_11 : SO := (Sr 38 (Tm 9) (Tm 36))
def o3_12 : SO := (Sr 38 (Tm 10) (Tm 37))
def o3_13 : SO := (Sg 11 38)
def o3_14 : SO := (Ld 152 49 13)
def o3_15 : SO := (Cl 153 16 #[Tm 152] #[49])
def o3_16 : SO := (Ld 154 47 12)
def o3_17 : SO := (Cl 155 17 #[Tm 153, Tm 154] #[49, 47])
def o3_18 : SO := (Mv 151 155)
def o3_19 : SO := (Xt 156 151 0)
def o3_20 : SO := (Oo 18 (.alloc 38))
def o3_21 : SO := (Xt 157 151 1)
def o3_22 : SO := (Sr 38 (Tm 18) (Tm 156))
def o3_23 : SO := (Sg 19 157)
def o3_24 : SO := (Ld 173 47 12)
def o3_25 : SO := (Mv 174 20)
def o3_26 : SO := (Mv 175 20)
def o3_27 : SO := (Cl 176 13 #[Tm 174, Tm 175] #[3, 3])
def o3_28 : SO := (Oo 177 (.indexAddr 27 (Tm 5) (Kn 3)))
def o3_29 : SO := (Ld 178 5 177)
def o3_30 : SO := (Oo 179 (.convert 5 3 (Tm 178)))
def o3_31 : SO := (Bo 180 .rem 3 (Tm 179) (Kn 50) 3)
def o3_32 : SO := (Cl 181 14 #[Tm 173, Tm 176, Tm 180] #[47, 38, 3])
def o3_33 : SO := (Mv 172 181)
def o3_34 : SO := (Xt 182 172 0)
def o3_35 : SO := (Oo 23 (.alloc 49))
def o3_36 : SO := (Sr 49 (Tm 23) (Tm 182))
def o3_37 : SO := (Xt 183 172 1)
def o3_38 : SO := (Xt 184 172 2)
def o3_39 : SO := (Sg 24 183)
def o3_40 : SO := (Sg 25 184)
def s3 : SF := ⟨239, [.tmp 6], (.seq (R0 [Oo 3 (.box 26 (Tm 0)), Oo 5 (.box 27 (Tm 2)), Sk 6 (Kb false)]) (.seq (R1 [Ld 26 26 3, Cl 27 6 #[Tm 26] #[26], Ld 28 26 3, Cl 29 7 #[Tm 28] #[26], Oo 7 (.alloc 31), Oo 8 (.alloc 35), Sr 31 (Tm 7) (Tm 27), Sr 35 (Tm 8) (Tm 29)]) (.seq (.ord (.op o3_0 (.op o3_1 (.op o3_2 (.op o3_3 (.op o3_4 (.op o3_5 (.op o3_6 (.op o3_7 (.op o3_8 (.alt (.op o3_9 (.alt (.op o3_10 (.op o3_11 (.op o3_12 (.op o3_13 .done)))) (.op o3_11 (.alt (.op o3_10 (.op o3_12 (.op o3_13 .done))) (.op o3_12 (.op o3_10 (.op o3_13 .done))))))) (.alt (.op o3_10 (.alt (.op o3_9 (.op o3_11 (.op o3_12 (.op o3_13 .done)))) (.op o3_11 (.op o3_9 (.op o3_12 (.op o3_13 .done)))))) (.op o3_11 (.op o3_9 (.alt (.op o3_10 (.op o3_12 (.op o3_13 .done))) (.op o3_12 (.op o3_10 (.op o3_13 .done)))))))))))))))))) (.seq (.seq (R0 [Mv 39 11, Bo 40 .neq 39 (Tm 39) (Kn 0) 39, Mv 41 40, Gf 42 38 10 0 41 false, Gl 43 3 42 41 false, Gb 44 .lss 3 (Tm 43) (Kn 1) 3 41 false, Pk 45 41 (Kb true) (Tm 44)]) (.cond (Tm 45) (.seq (R0 [Sk 6 (Kb false)]) .ret) .skip)) (.seq (.seq (R0 [Fa 46 38 10 1, Ld 47 3 46, Bo 48 .gtr 3 (Tm 47) (Kn 10000) 3]) (.cond (Tm 48) (.seq (R0 [Cl 49 11 #[] #[], Mv 50 49, Gc 51 12 #[] #[] 50 true, Pk 52 50 (Tm 51) (Kb false), Sg 6 52]) .ret) .skip)) (.seq (R1 [Oo 53 (.indexAddr 27 (Tm 5) (Kn 0)), Ld 54 5 53, Oo 55 (.convert 5 3 (Tm 54)), Bo 56 .add 3 (Kn 50) (Tm 55) 3, Oo 57 (.indexAddr 27 (Tm 5) (Kn 0)), Ld 58 5 57, Oo 59 (.convert 5 3 (Tm 58)), Bo 60 .add 3 (Kn 50) (Tm 59) 3, Oo 61 (.indexAddr 27 (Tm 5) (Kn 4)), Ld 62 5 61, Oo 63 (.convert 5 3 (Tm 62)), Bo 64 .rem 3 (Tm 63) (Kn 4) 3, Bo 65 .add 3 (Tm 60) (Tm 64) 3, Cl 66 13 #[Tm 56, Tm 65] #[3, 3], Oo 67 (.indexAddr 27 (Tm 5) (Kn 1)), Ld 68 5 67, Oo 69 (.convert 5 3 (Tm 68)), Bo 70 .add 3 (Kn 40) (Tm 69) 3, Oo 71 (.indexAddr 27 (Tm 5) (Kn 1)), Ld 72 5 71, Oo 73 (.convert 5 3 (Tm 72)), Bo 74 .add 3 (Kn 40) (Tm 73) 3, Oo 75 (.indexAddr 27 (Tm 5) (Kn 4)), Ld 76 5 75, Oo 77 (.convert 5 3 (Tm 76)), Bo 78 .quo 3 (Tm 77) (Kn 4) 3, Bo 79 .rem 3 (Tm 78) (Kn 4) 3, Bo 80 .add 3 (Tm 74) (Tm 79) 3, Cl 81 13 #[Tm 70, Tm 80] #[3, 3], Oo 82 (.indexAddr 27 (Tm 5) (Kn 2)), Ld 83 5 82, Oo 84 (.convert 5 3 (Tm 83)), Bo 85 .add 3 (Kn 30) (Tm 84) 3, Oo 86 (.indexAddr 27 (Tm 5) (Kn 2)), Ld 87 5 86, Oo 88 (.convert 5 3 (Tm 87)), Bo 89 .add 3 (Kn 30) (Tm 88) 3, Oo 90 (.indexAddr 27 (Tm 5) (Kn 4)), Ld 91 5 90, Oo 92 (.convert 5 3 (Tm 91)), Bo 93 .quo 3 (Tm 92) (Kn 16) 3, Bo 94 .rem 3 (Tm 93) (Kn 4) 3, Bo 95 .add 3 (Tm 89) (Tm 94) 3, Cl 96 13 #[Tm 85, Tm 95] #[3, 3], Oo 97 (.indexAddr 27 (Tm 5) (Kn 5)), Ld 98 5 97, Oo 99 (.convert 5 3 (Tm 98)), Oo 100 (.unOp .neg 3 (Tm 99)), Bo 101 .rem 3 (Tm 100) (Kn 8) 3, Oo 102 (.indexAddr 27 (Tm 5) (Kn 5)), Ld 103 5 102, Oo 104 (.convert 5 3 (Tm 103)), Bo 105 .quo 3 (Tm 104) (Kn 8) 3, Bo 106 .rem 3 (Tm 105) (Kn 4) 3, Cl 107 13 #[Tm 101, Tm 106] #[3, 3], Oo 108 (.indexAddr 27 (Tm 5) (Kn 3)), Ld 109 5 108, Oo 110 (.convert 5 3 (Tm 109)), Cl 111 13 #[Kn (-100), Tm 110] #[3, 3], Oo 112 (.indexAddr 27 (Tm 5) (Kn 5)), Ld 113 5 112, Bo 114 .quo 5 (Tm 113) (.const (.int .u8 32)) 5, Bo 115 .rem 5 (Tm 114) (.const (.int .u8 4)) 5, Bo 116 .eql 5 (Tm 115) (.const (.int .u8 0)) 5, Oo 117 (.build 47 #[(0, (Tm 66)), (1, (Tm 81)), (2, (Tm 96)), (3, (Tm 107)), (4, (Tm 111)), (5, (Tm 116))]), Oo 12 (.alloc 47), Sr 47 (Tm 12) (Tm 117)]) (.seq (R0 [Ld 119 47 12, Ld 120 38 10, Oo 121 (.indexAddr 27 (Tm 5) (Kn 3)), Ld 122 5 121, Oo 123 (.convert 5 3 (Tm 122)), Bo 124 .rem 3 (Tm 123) (Kn 50) 3, Cl 125 14 #[Tm 119, Tm 120, Tm 124] #[47, 38, 3], Mv 118 125, Xt 126 118 0, Xt 127 118 1, Xt 128 118 2, Oo 13 (.alloc 49), Sr 49 (Tm 13) (Tm 126), Sg 14 127, Sg 15 128]) (.seq (.seq (R0 [Mv 129 15, Bo 130 .eql 39 (Tm 129) (Kn 9) 39]) (.cond (Tm 130) (.seq (R0 [Mv 131 14, Bo 132 .geq 3 (Tm 131) (Kn 0) 3, Mv 133 132, Gm 134 14 133 true, Gb 135 .leq 3 (Tm 134) (Kn 9) 3 133 true, Pk 136 133 (Tm 135) (Kb false), Mv 137 136, Gc 138 11 #[] #[] 137 true, Pk 139 137 (Tm 138) (Kb false), Mv 140 139, Gc 141 12 #[] #[] 140 true, Pk 142 140 (Tm 141) (Kb false), Sg 6 142]) .ret) .skip)) (.seq (R1 [Ld 144 49 13, Cl 145 16 #[Tm 144] #[49], Ld 146 47 12, Ld 147 38 10, Cl 148 15 #[Tm 145, Tm 146, Tm 147] #[49, 47, 38], Mv 143 148, Xt 149 143 0, Xt 150 143 1, Sg 16 149, Sg 17 150]) (.seq (.ord (.op o3_14 (.op o3_15 (.op o3_16 (.op o3_17 (.op o3_18 (.op o3_19 (.op o3_20 (.alt (.op o3_21 (.op o3_22 (.op o3_23 .done))) (.op o3_22 (.op o3_21 (.op o3_23 .done)))))))))))) (.seq (R0 [Ld 158 31 7, Ld 159 35 8, Mv 160 1, Cl 161 18 #[Tm 158, Tm 159, Tm 160] #[31, 35, 24], Sg 20 161]) (.seq (R1 [Ld 163 49 13, Cl 164 16 #[Tm 163] #[49], Ld 165 47 12, Mv 166 20, Mv 167 20, Cl 168 13 #[Tm 166, Tm 167] #[3, 3], Cl 169 15 #[Tm 164, Tm 165, Tm 168] #[49, 47, 38], Mv 162 169, Xt 170 162 0, Xt 171 162 1, Sg 21 170, Sg 22 171]) (.seq (.ord (.op o3_24 (.op o3_25 (.op o3_26 (.op o3_27 (.op o3_28 (.op o3_29 (.op o3_30 (.op o3_31 (.op o3_32 (.op o3_33 (.op o3_34 (.op o3_35 (.app o3_36 [172, 172] [183, 184] (.op o3_37 (.op o3_38 (.op o3_39 (.op o3_40 .done)))))))))))))))))) (.seq (R0 [Mv 185 15, Bo 186 .eql 39 (Tm 185) (Kn 0) 39, Mv 187 186, Gm 188 17 187 true, Gb 189 .eql 39 (Tm 188) (Kn 0) 39 187 true, Pk 190 187 (Tm 189) (Kb false), Mv 191 190, Gm 192 19 191 true, Gb 193 .eql 39 (Tm 192) (Kn 0) 39 191 true, Pk 194 191 (Tm 193) (Kb false), Mv 195 194, Gm 196 22 195 true, Gb 197 .eql 39 (Tm 196) (Kn 0) 39 195 true, Pk 198 195 (Tm 197) (Kb false), Mv 199 198, Gm 200 25 199 true, Gb 201 .eql 39 (Tm 200) (Kn 0) 39 199 true, Pk 202 199 (Tm 201) (Kb false), Mv 203 202, Gm 204 16 203 true, Og 205 (.call { callee := .builtin .len, args := #[Tm 204], argTypes := #[52] }) 203 true, Gb 206 .eql 3 (Tm 205) (Kn 0) 3 203 true, Pk 207 203 (Tm 206) (Kb false), Mv 208 207, Gm 209 21 208 true, Og 210 (.call { callee := .builtin .len, args := #[Tm 209], argTypes := #[52] }) 208 true, Gb 211 .eql 3 (Tm 210) (Kn 0) 3 208 true, Pk 212 208 (Tm 211) (Kb false), Mv 213 212, Gf 214 38 18 0 213 true, Gl 215 3 214 213 true, Gf 216 38 10 0 213 true, Gl 217 3 216 213 true, Gb 218 .leq 3 (Tm 215) (Tm 217) 3 213 true, Pk 219 213 (Tm 218) (Kb false), Mv 220 219, Gf 221 38 18 1 220 true, Gl 222 3 221 220 true, Gf 223 38 10 1 220 true, Gl 224 3 223 220 true, Gb 225 .geq 3 (Tm 222) (Tm 224) 3 220 true, Pk 226 220 (Tm 225) (Kb false), Mv 227 226, Gf 228 49 23 1 227 true, Gl 229 33 228 227 true, Og 230 (.call { callee := .builtin .len, args := #[Tm 229], argTypes := #[33] }) 227 true, Gb 231 .eql 3 (Tm 230) (Kn 4) 3 227 true, Pk 232 227 (Tm 231) (Kb false), Mv 233 232, Gc 234 11 #[] #[] 233 true, Pk 235 233 (Tm 234) (Kb false), Mv 236 235, Gc 237 12 #[] #[] 236 true, Pk 238 236 (Tm 237) (Kb false), Sg 6 238]) .ret))))))))))))))⟩
theorem sf3 : sfOf Try.f3 = some s3 := by kernel_rfl
theorem hb3 : hasBody Try.prog 3 = true := by kernel_rfl
def o4_0 : SO := (Ld 98 3 10)
def o4_1 : SO := (Oo 99 (.makeSlice 33 (Tm 98) (Tm 98)))
def o4_2 : SO := (Oo 13 (.alloc 33))
def o4_3 : SO := (Sr 33 (Tm 13) (Tm 99))
def o4_4 : SO := (Fa 100 49 7 3)
def o4_5 : SO := (Ld 101 33 100)
def o4_6 : SO := (Oo 102 (.indexAddr 33 (Tm 101) (Kn 0)))
def o4_7 : SO := (Ld 103 3 102)
def o4_8 : SO := (Fa 104 49 7 3)
def o4_9 : SO := (Ld 105 33 104)
def o4_10 : SO := (Oo 106 (.indexAddr 33 (Tm 105) (Kn 1)))
def o4_11 : SO := (Ld 107 3 106)
def o4_12 : SO := (Oo 108 (.call { callee := .builtin .max, args := #[Tm 103, Tm 107], argTypes := #[3, 3] }))
def o4_13 : SO := (Sk 14 (Kn 0))
def o4_14 : SO := (Sk 15 (Kn 0))
def o4_15 : SO := (Sg 16 108)
def s4 : SF := ⟨377, [.tmp 6], (.seq (R0 [Oo 3 (.box 60 (Tm 0)), Oo 4 (.box 61 (Tm 1)), Sk 6 (Kb false)]) (.seq (R0 [Oo 33 (.indexAddr 60 (Tm 3) (Kn 4)), Ld 34 5 33, Oo 35 (.convert 5 3 (Tm 34)), Bo 36 .rem 3 (Tm 35) (Kn 2) 3, Bo 37 .add 3 (Kn 1) (Tm 36) 3, Oo 38 (.indexAddr 60 (Tm 3) (Kn 5)), Ld 39 5 38, Oo 40 (.convert 5 3 (Tm 39)), Bo 41 .rem 3 (Tm 40) (Kn 2) 3, Oo 42 (.indexAddr 60 (Tm 3) (Kn 6)), Ld 43 5 42, Oo 44 (.convert 5 3 (Tm 43)), Bo 45 .rem 3 (Tm 44) (Kn 2) 3, Oo 46 (.buildSlice 33 2 #[(0, (Tm 41)), (1, (Tm 45))]), Oo 47 (.indexAddr 60 (Tm 3) (Kn 7)), Ld 48 5 47, Oo 49 (.convert 5 3 (Tm 48)), Bo 50 .rem 3 (Tm 49) (Kn 2) 3, Oo 51 (.indexAddr 60 (Tm 3) (Kn 8)), Ld 52 5 51, Oo 53 (.convert 5 3 (Tm 52)), Bo 54 .rem 3 (Tm 53) (Kn 2) 3, Oo 55 (.buildSlice 33 2 #[(0, (Tm 50)), (1, (Tm 54))]), Oo 56 (.build 49 #[(2, (Tm 37)), (3, (Tm 46)), (4, (Tm 55))]), Oo 7 (.alloc 49), Sr 49 (Tm 7) (Tm 56)]) (.seq (.seq (R0 [Sk 8 (Kn 0)]) (.block 0 (.loop (.seq (.seq (R0 [Mv 57 8, Bo 58 .lss 3 (Tm 57) (Kn 4) 3]) (.cond (Tm 58) .skip (.exit 0))) (.seq (.block 1 (R1 [Fa 61 49 7 1, Ld 62 33 61, Mv 63 8, Ix 64 60 3 63, Ld 65 5 64, Oo 66 (.convert 5 3 (Tm 65)), Bo 67 .rem 3 (Tm 66) (Kn 2) 3, Bo 68 .add 3 (Kn 1) (Tm 67) 3, Oo 69 (.buildSlice 33 1 #[(0, (Tm 68))]), Oo 70 (.call { callee := .builtin .append, args := #[Tm 62, Tm 69], argTypes := #[33, 33] }), Fa 71 49 7 1, Sr 33 (Tm 71) (Tm 70)])) (R0 [Mv 59 8, Bo 60 .add 3 (Tm 59) (Kn 1) 3, Sg 8 60])))))) (.seq (R0 [Ld 73 49 7, Cl 74 16 #[Tm 73] #[49], Cl 75 19 #[Tm 74] #[49], Mv 72 75, Xt 76 72 0, Xt 77 72 1, Xt 78 72 2, Xt 79 72 3, Oo 9 (.alloc 3), Oo 10 (.alloc 3), Sr 3 (Tm 9) (Tm 76), Sr 3 (Tm 10) (Tm 77), Sg 11 78, Sg 12 79]) (.seq (.seq (R0 [Mv 80 12, Bo 81 .neq 39 (Tm 80) (Kn 0) 39, Mv 82 81, Gl 83 3 9 82 false, Gb 84 .lss 3 (Tm 83) (Kn 4) 3 82 false, Pk 85 82 (Kb true) (Tm 84), Mv 86 85, Gl 87 3 9 86 false, Gb 88 .gtr 3 (Tm 87) (Kn 8) 3 86 false, Pk 89 86 (Kb true) (Tm 88), Mv 90 89, Gl 91 3 10 90 false, Gb 92 .lss 3 (Tm 91) (Kn 1) 3 90 false, Pk 93 90 (Kb true) (Tm 92), Mv 94 93, Gl 95 3 10 94 false, Gb 96 .gtr 3 (Tm 95) (Kn 4) 3 94 false, Pk 97 94 (Kb true) (Tm 96)]) (.cond (Tm 97) (.seq (R0 [Sk 6 (Kb false)]) .ret) .skip)) (.seq (.ord (.op o4_0 (.op o4_1 (.op o4_2 (.app o4_3 [7, 100, 101, 102, 7, 104, 105, 106, 103, 107] [100, 101, 102, 103, 104, 105, 106, 107, 108] (.op o4_4 (.op o4_5 (.op o4_6 (.op o4_7 (.op o4_8 (.op o4_9 (.op o4_10 (.op o4_11 (.op o4_12 (.op o4_13 (.op o4_14 (.op o4_15 .done))))))))))))))))) (.seq (.seq (R0 [Sk 17 (Kn 0)]) (.block 2 (.loop (.seq (.seq (R0 [Mv 109 17, Bo 110 .lss 3 (Tm 109) (Kn 4) 3]) (.cond (Tm 110) .skip (.exit 2))) (.seq (.block 3 (.seq (.seq (R0 [Mv 113 14, Sg 18 113]) (.block 4 (.loop (.seq (.seq (R0 [Mv 114 18, Mv 115 14, Fa 116 49 7 1, Ld 117 33 116, Mv 118 17, Ix 119 33 117 118, Ld 120 3 119, Bo 121 .add 3 (Tm 115) (Tm 120) 3, Bo 122 .lss 3 (Tm 114) (Tm 121) 3]) (.cond (Tm 122) .skip (.exit 4))) (.seq (.block 5 (.seq (R0 [Mv 125 16, Fa 126 49 7 3, Ld 127 33 126, Mv 128 17, Bo 129 .rem 3 (Tm 128) (Kn 2) 3, Ix 130 33 127 129, Ld 131 3 130, Bo 132 .sub 3 (Tm 125) (Tm 131) 3, Sg 19 132]) (.block 6 (.loop (.seq (.seq (R1 [Mv 133 19, Mv 134 16, Fa 135 49 7 2, Ld 136 3 135, Bo 137 .add 3 (Tm 134) (Tm 136) 3, Fa 138 49 7 4, Ld 139 33 138, Mv 140 17, Bo 141 .rem 3 (Tm 140) (Kn 2) 3, Ix 142 33 139 141, Ld 143 3 142, Bo 144 .add 3 (Tm 137) (Tm 143) 3, Bo 145 .lss 3 (Tm 133) (Tm 144) 3, Mv 146 145, Gm 147 19 146 true, Gl 148 3 10 146 true, Gb 149 .lss 3 (Tm 147) (Tm 148) 3 146 true, Pk 150 146 (Tm 149) (Kb false)]) (.cond (Tm 150) .skip (.exit 6))) (.seq (.block 7 (.seq (R0 [Ld 153 33 13, Mv 154 19, Ix 155 33 153 154, Ld 156 3 155, Mv 157 18, Oo 158 (.convert 3 64 (Tm 157)), Bo 159 .shl 3 (Kn 1) (Tm 158) 64, Bo 160 .or 3 (Tm 156) (Tm 159) 3, Ix 161 33 153 154, Sr 3 (Tm 161) (Tm 160)]) (R0 [Mv 162 15, Bo 163 .add 3 (Tm 162) (Kn 1) 3, Sg 15 163]))) (R0 [Mv 151 19, Bo 152 .add 3 (Tm 151) (Kn 1) 3, Sg 19 152]))))))) (R0 [Mv 123 18, Bo 124 .add 3 (Tm 123) (Kn 1) 3, Sg 18 124])))))) (R0 [Mv 164 14, Fa 165 49 7 1, Ld 166 33 165, Mv 167 17, Ix 168 33 166 167, Ld 169 3 168, Bo 170 .add 3 (Tm 164) (Tm 169) 3, Sg 14 170]))) (R0 [Mv 111 17, Bo 112 .add 3 (Tm 111) (Kn 1) 3, Sg 17 112])))))) (.seq (R0 [Oo 171 (.makeFunc (.func 20) #[] #[Tm 9, Tm 10, Tm 13]), Sg 20 171]) (.seq (R1 [Oo 172 (.indexAddr 61 (Tm 4) (Kn 0)), Ld 173 5 172, Oo 174 (.convert 5 3 (Tm 173)), Oo 175 (.unOp .neg 3 (Tm 174)), Bo 176 .rem 3 (Tm 175) (Kn 3) 3, Oo 177 (.indexAddr 61 (Tm 4) (Kn 0)), Ld 178 5 177, Oo 179 (.convert 5 3 (Tm 178)), Bo 180 .quo 3 (Tm 179) (Kn 8) 3, Bo 181 .rem 3 (Tm 180) (Kn 3) 3, Cl 182 13 #[Tm 176, Tm 181] #[3, 3], Oo 183 (.indexAddr 61 (Tm 4) (Kn 1)), Ld 184 5 183, Oo 185 (.convert 5 3 (Tm 184)), Oo 186 (.unOp .neg 3 (Tm 185)), Bo 187 .rem 3 (Tm 186) (Kn 3) 3, Oo 188 (.indexAddr 61 (Tm 4) (Kn 1)), Ld 189 5 188, Oo 190 (.convert 5 3 (Tm 189)), Bo 191 .quo 3 (Tm 190) (Kn 8) 3, Bo 192 .rem 3 (Tm 191) (Kn 3) 3, Cl 193 13 #[Tm 187, Tm 192] #[3, 3], Oo 194 (.build 71 #[(0, (Tm 182)), (1, (Tm 193))]), Oo 21 (.alloc 71), Sr 71 (Tm 21) (Tm 194)]) (.seq (R0 [Mv 196 20, Oo 197 (.call { callee := .value (Tm 196), args := #[], argTypes := #[] }), Oo 198 (.build 71 #[]), Oo 199 (.buildSlice 75 1 #[(0, (Tm 198))]), Mv 200 2, Oo 201 (.convert 5 3 (Tm 200)), Cl 202 22 #[Tm 197, Tm 199, Tm 201] #[67, 75, 3], Mv 195 202, Xt 203 195 0, Xt 204 195 1, Sg 22 203, Sg 23 204]) (.seq (R1 [Mv 206 20, Oo 207 (.call { callee := .value (Tm 206), args := #[], argTypes := #[] }), Ld 208 71 21, Oo 209 (.buildSlice 75 1 #[(0, (Tm 208))]), Mv 210 2, Oo 211 (.convert 5 3 (Tm 210)), Cl 212 22 #[Tm 207, Tm 209, Tm 211] #[67, 75, 3], Mv 205 212, Xt 213 205 0, Xt 214 205 1, Sg 24 213, Sg 25 214]) (.seq (R1 [Mv 216 20, Oo 217 (.call { callee := .value (Tm 216), args := #[], argTypes := #[] }), Ld 218 71 21, Oo 219 (.buildSlice 75 1 #[(0, (Tm 218))]), Cl 220 23 #[Tm 217, Tm 219] #[67, 75], Mv 215 220, Xt 221 215 0, Xt 222 215 1, Xt 223 215 2, Sg 26 221, Sg 27 222, Sg 28 223]) (.seq (R0 [Mv 225 20, Oo 226 (.call { callee := .value (Tm 225), args := #[], argTypes := #[] }), Oo 227 (.build 82 #[]), Oo 228 (.buildSlice 83 1 #[(0, (Tm 227))]), Cl 229 24 #[Tm 226, Tm 228] #[67, 83], Mv 224 229, Xt 230 224 0, Xt 231 224 1, Sg 29 230, Sg 30 231]) (.seq (.seq (R0 [Mv 232 23, Bo 233 .neq 39 (Tm 232) (Kn 0) 39, Mv 234 233, Gm 235 25 234 false, Gb 236 .neq 39 (Tm 235) (Kn 0) 39 234 false, Pk 237 234 (Kb true) (Tm 236), Mv 238 237, Gm 239 28 238 false, Gb 240 .neq 39 (Tm 239) (Kn 0) 39 238 false, Pk 241 238 (Kb true) (Tm 240), Mv 242 241, Gm 243 30 242 false, Gb 244 .neq 39 (Tm 243) (Kn 0) 39 242 false, Pk 245 242 (Kb true) (Tm 244), Mv 246 245, Gm 247 22 246 false, Og 248 (.call { callee := .builtin .len, args := #[Tm 247], argTypes := #[72] }) 246 false, Gb 249 .neq 3 (Tm 248) (Kn 1) 3 246 false, Pk 250 246 (Kb true) (Tm 249), Mv 251 250, Gm 252 24 251 false, Og 253 (.call { callee := .builtin .len, args := #[Tm 252], argTypes := #[72] }) 251 false, Gb 254 .neq 3 (Tm 253) (Kn 1) 3 251 false, Pk 255 251 (Kb true) (Tm 254), Mv 256 255, Gm 257 26 256 false, Og 258 (.call { callee := .builtin .len, args := #[Tm 257], argTypes := #[33] }) 256 false, Gl 259 3 10 256 false, Gb 260 .neq 3 (Tm 258) (Tm 259) 3 256 false, Pk 261 256 (Kb true) (Tm 260), Mv 262 261, Gm 263 27 262 false, Og 264 (.call { callee := .builtin .len, args := #[Tm 263], argTypes := #[33] }) 262 false, Gl 265 3 10 262 false, Gb 266 .neq 3 (Tm 264) (Tm 265) 3 262 false, Pk 267 262 (Kb true) (Tm 266), Mv 268 267, Gm 269 29 268 false, Og 270 (.call { callee := .builtin .len, args := #[Tm 269], argTypes := #[78] }) 268 false, Gl 271 3 10 268 false, Gb 272 .neq 3 (Tm 270) (Tm 271) 3 268 false, Pk 273 268 (Kb true) (Tm 272)]) (.cond (Tm 273) (.seq (R0 [Sk 6 (Kb false)]) .ret) .skip)) (.seq (.seq (R1 [Mv 274 22, Oo 275 (.indexAddr 72 (Tm 274) (Kn 0)), Ld 276 38 275, Mv 277 15, Mv 278 2, Oo 279 (.convert 5 3 (Tm 278)), Bo 280 .mul 3 (Tm 277) (Tm 279) 3, Mv 281 15, Mv 282 2, Oo 283 (.convert 5 3 (Tm 282)), Bo 284 .mul 3 (Tm 281) (Tm 283) 3, Cl 285 13 #[Tm 280, Tm 284] #[3, 3], Bo 286 .neq 38 (Tm 276) (Tm 285) 38, Mv 287 286, Gm 288 24 287 false, Og 289 (.indexAddr 72 (Tm 288) (Kn 0)) 287 false, Gf 290 38 289 1 287 false, Gl 291 3 290 287 false, Gm 292 22 287 false, Og 293 (.indexAddr 72 (Tm 292) (Kn 0)) 287 false, Gf 294 38 293 1 287 false, Gl 295 3 294 287 false, Gb 296 .gtr 3 (Tm 291) (Tm 295) 3 287 false, Pk 297 287 (Kb true) (Tm 296), Mv 298 297, Gm 299 24 298 false, Og 300 (.indexAddr 72 (Tm 299) (Kn 0)) 298 false, Gf 301 38 300 0 298 false, Gl 302 3 301 298 false, Gm 303 24 298 false, Og 304 (.indexAddr 72 (Tm 303) (Kn 0)) 298 false, Gf 305 38 304 1 298 false, Gl 306 3 305 298 false, Gb 307 .gtr 3 (Tm 302) (Tm 306) 3 298 false, Pk 308 298 (Kb true) (Tm 307), Mv 309 308, Gm 310 24 309 false, Og 311 (.indexAddr 72 (Tm 310) (Kn 0)) 309 false, Gf 312 38 311 0 309 false, Gl 313 3 312 309 false, Gb 314 .lss 3 (Tm 313) (Kn 0) 3 309 false, Pk 315 309 (Kb true) (Tm 314)]) (.cond (Tm 315) (.seq (R0 [Sk 6 (Kb false)]) .ret) .skip)) (.seq (.seq (R0 [Sk 31 (Kn 0)]) (.block 8 (.loop (.seq (.seq (R0 [Mv 316 31, Ld 317 3 10, Bo 318 .lss 3 (Tm 316) (Tm 317) 3]) (.cond (Tm 318) .skip (.exit 8))) (.seq (.block 9 (.seq (.seq (R1 [Mv 321 26, Mv 322 31, Ix 323 33 321 322, Ld 324 3 323, Ld 325 33 13, Mv 326 31, Ix 327 33 325 326, Ld 328 3 327, Bo 329 .andNot 3 (Tm 324) (Tm 328) 3, Bo 330 .neq 3 (Tm 329) (Kn 0) 3, Mv 331 330, Gm 332 27 331 false, Gm 333 31 331 false, Gx 334 33 332 333 331 false, Gl 335 3 334 331 false, Gm 336 26 331 false, Gm 337 31 331 false, Gx 338 33 336 337 331 false, Gl 339 3 338 331 false, Gb 340 .andNot 3 (Tm 335) (Tm 339) 3 331 false, Gb 341 .neq 3 (Tm 340) (Kn 0) 3 331 false, Pk 342 331 (Kb true) (Tm 341), Mv 343 342, Gm 344 29 343 false, Gm 345 31 343 false, Gx 346 78 344 345 343 false, Gl 347 9 346 343 false, Og 348 (.call { callee := .builtin .len, args := #[Tm 347], argTypes := #[9] }) 343 false, Gl 349 3 9 343 false, Gb 350 .neq 3 (Tm 348) (Tm 349) 3 343 false, Pk 351 343 (Kb true) (Tm 350)]) (.cond (Tm 351) (.seq (R0 [Sk 6 (Kb false)]) .ret) .skip)) (.seq (R0 [Sk 32 (Kn 0)]) (.block 10 (.loop (.seq (.seq (R0 [Mv 352 32, Ld 353 3 9, Bo 354 .lss 3 (Tm 352) (Tm 353) 3]) (.cond (Tm 354) .skip (.exit 10))) (.seq (.block 11 (.seq (R1 [Mv 357 29, Mv 358 31, Ix 359 78 357 358, Ld 360 9 359, Mv 361 32, Oo 362 (.index 9 (Tm 360) (Tm 361)), Ld 363 33 13, Mv 364 31, Ix 365 33 363 364, Ld 366 3 365, Mv 367 32, Oo 368 (.convert 3 64 (Tm 367)), Bo 369 .shr 3 (Tm 366) (Tm 368) 64, Bo 370 .and 3 (Tm 369) (Kn 1) 3, ⟨some 371, .index 9 (.const (.string ⟨#[48, 49]⟩)) (Tm 370), none⟩, Bo 372 .neq 5 (Tm 362) (Tm 371) 5]) (.cond (Tm 372) (.seq (R0 [Sk 6 (Kb false)]) .ret) .skip))) (R0 [Mv 355 32, Bo 356 .add 3 (Tm 355) (Kn 1) 3, Sg 32 356])))))))) (R0 [Mv 319 31, Bo 320 .add 3 (Tm 319) (Kn 1) 3, Sg 31 320])))))) (.seq (R0 [Cl 373 12 #[] #[], Mv 374 373, Gc 375 25 #[] #[] 374 true, Pk 376 374 (Tm 375) (Kb false), Sg 6 376]) .ret)))))))))))))))))⟩
def s5 : SF := ⟨215, [.tmp 4], (.seq (R0 [Oo 2 (.box 90 (Tm 0)), Oo 3 (.box 95 (Tm 1)), Sk 4 (Kb false)]) (.seq (R0 [Ld 31 90 2, Cl 32 26 #[Tm 31] #[90], Mv 30 32, Xt 33 30 0, Xt 34 30 1, Xt 35 30 2, Xt 36 30 3, Sg 5 33, Sg 6 34, Sg 7 35, Sg 8 36]) (.seq (.seq (R0 [Mv 37 8, Oo 38 (.unOp .not 4 (Tm 37))]) (.cond (Tm 38) (.seq (R0 [Sk 4 (Kb false)]) .ret) .skip)) (.seq (R0 [Ld 40 90 2, Mv 41 7, Cl 42 27 #[Tm 40, Tm 41] #[90, 33], Mv 39 42, Xt 43 39 0, Xt 44 39 1, Xt 45 39 2, Oo 9 (.alloc 100), Sr 100 (Tm 9) (Tm 43), Sg 10 44, Sg 11 45]) (.seq (.regL [Ld 47 100 9, Mv 48 10, Cl 49 29 #[Tm 48] #[101], Mv 50 11, Cl 51 30 #[Tm 50] #[102]] (Cl 52 28 #[Tm 47, Tm 49, Tm 51] #[100, 101, 102]) [Mv 46 52, Xt 53 46 0, Xt 54 46 1, Xt 55 46 2, Xt 56 46 3, Sg 12 53, Sg 13 54, Sg 14 55, Sg 15 56]) (.seq (.seq (R0 [Mv 57 15, Bo 58 .neq 39 (Tm 57) (Kn 0) 39, Mv 59 58, Gm 60 12 59 false, Og 61 (.call { callee := .builtin .len, args := #[Tm 60], argTypes := #[33] }) 59 false, Gb 62 .neq 3 (Tm 61) (Kn 3) 3 59 false, Pk 63 59 (Kb true) (Tm 62)]) (.cond (Tm 63) (.seq (R0 [Sk 4 (Kb false)]) .ret) .skip)) (.seq (R0 [Sk 16 (Kn 0), Sk 17 (Kn 0)]) (.seq (.seq (R0 [Sk 18 (Kn 0)]) (.block 0 (.loop (.seq (.seq (R0 [Mv 64 18, Mv 65 11, Lq 66 65 102, Bo 67 .lss 3 (Tm 64) (Tm 66) 3]) (.cond (Tm 67) .skip (.exit 0))) (.seq (.block 1 (R0 [Mv 70 16, Mv 71 11, Mv 72 18, Ix 73 102 71 72, Fa 74 110 73 1, Ld 75 3 74, Bo 76 .add 3 (Tm 70) (Tm 75) 3, Sg 16 76])) (R0 [Mv 68 18, Bo 69 .add 3 (Tm 68) (Kn 1) 3, Sg 18 69])))))) (.seq (.seq (R0 [Sk 19 (Kn 0)]) (.block 2 (.loop (.seq (.seq (R0 [Mv 77 19, Bo 78 .lss 3 (Tm 77) (Kn 3) 3]) (.cond (Tm 78) .skip (.exit 2))) (.seq (.block 3 (R1 [Mv 81 17, Mv 82 10, Mv 83 19, Ix 84 101 82 83, Fa 85 112 84 0, Ld 86 3 85, Mv 87 12, Mv 88 19, Ix 89 33 87 88, Ld 90 3 89, Bo 91 .mul 3 (Tm 86) (Tm 90) 3, Bo 92 .add 3 (Tm 81) (Tm 91) 3, Sg 17 92])) (R0 [Mv 79 19, Bo 80 .add 3 (Tm 79) (Kn 1) 3, Sg 19 80])))))) (.seq (.seq (R0 [Fa 93 100 9 0, Ld 94 3 93, Mv 95 16, Bo 96 .mul 3 (Tm 94) (Tm 95) 3, Mv 97 17, Mv 98 13, Bo 99 .add 3 (Tm 97) (Tm 98) 3, Bo 100 .neq 3 (Tm 96) (Tm 99) 3]) (.cond (Tm 100) (.seq (R0 [Sk 4 (Kb false)]) .ret) .skip)) (.seq (R0 [Ld 101 95 3, Cl 102 31 #[Tm 101] #[95], Oo 20 (.alloc 31), Sr 31 (Tm 20) (Tm 102)]) (.seq (R0 [Fa 103 31 20 1, Ld 104 29 103, Oo 105 (.indexAddr 29 (Tm 104) (Kn 0)), Fa 106 114 105 0, Ld 107 3 106, Sg 21 107]) (.seq (R0 [Oo 108 (.build 116 #[]), Oo 22 (.alloc 116), Sr 116 (Tm 22) (Tm 108)]) (.seq (.seq (R0 [Sk 23 (Kn 0)]) (.block 4 (.loop (.seq (.seq (R0 [Mv 109 23, Bo 110 .lss 3 (Tm 109) (Kn 3) 3]) (.cond (Tm 110) .skip (.exit 4))) (.seq (.block 5 (.seq (R1 [Ld 114 31 20, Cl 115 33 #[Tm 114] #[31], Cl 116 34 #[] #[], Mv 117 17, Mv 118 13, Fa 119 100 9 0, Ld 120 3 119, Mv 121 16, Bo 122 .mul 3 (Tm 120) (Tm 121) 3, Oo 123 (.build 119 #[(0, (Tm 117)), (1, (Tm 118)), (2, (Tm 122))]), Mv 124 23, Oo 125 (.index 119 (Tm 123) (Tm 124)), Cl 126 32 #[Tm 115, Tm 116, Tm 125] #[31, 35, 3], Mv 113 126, Xt 127 113 0, Xt 128 113 1, Sg 24 127, Sg 25 128]) (.seq (.seq (R0 [Mv 129 25, Bo 130 .neq 39 (Tm 129) (Kn 0) 39, Mv 131 130, Gm 132 24 131 false, Og 133 (.call { callee := .builtin .len, args := #[Tm 132], argTypes := #[115] }) 131 false, Gb 134 .neq 3 (Tm 133) (Kn 3) 3 131 false, Pk 135 131 (Kb true) (Tm 134)]) (.cond (Tm 135) (.seq (R0 [Sk 4 (Kb false)]) .ret) .skip)) (.seq (.seq (R0 [Sk 26 (Kn 0)]) (.block 6 (.loop (.seq (.seq (R0 [Mv 136 26, Bo 137 .lss 3 (Tm 136) (Kn 3) 3]) (.cond (Tm 137) .skip (.exit 6))) (.seq (.block 7 (.seq (R0 [Mv 140 24, Mv 141 26, Ix 142 115 140 141, Fa 143 121 142 1, Ld 144 3 143, Bo 145 .lss 3 (Tm 144) (Kn 1) 3, Mv 146 145, Gm 147 21 146 false, Gm 148 24 146 false, Gm 149 26 146 false, Gx 150 115 148 149 146 false, Gf 151 121 150 1 146 false, Gl 152 3 151 146 false, Gb 153 .rem 3 (Tm 147) (Tm 152) 3 146 false, Gb 154 .neq 3 (Tm 153) (Kn 0) 3 146 false, Pk 155 146 (Kb true) (Tm 154), Mv 156 155, Gm 157 24 156 false, Gm 158 26 156 false, Gx 159 115 157 158 156 false, Gf 160 121 159 0 156 false, Gl 161 3 160 156 false, Gb 162 .lss 3 (Tm 161) (Kn 0) 3 156 false, Pk 163 156 (Kb true) (Tm 162), Mv 164 163, Gm 165 24 164 false, Gm 166 26 164 false, Gx 167 115 165 166 164 false, Gf 168 121 167 0 164 false, Gl 169 3 168 164 false, Gb 170 .gtr 3 (Tm 169) (Kn 35184372088832) 3 164 false, Pk 171 164 (Kb true) (Tm 170)]) (.cond (Tm 171) (.seq (R0 [Sk 4 (Kb false)]) .ret) .skip))) (R0 [Mv 138 26, Bo 139 .add 3 (Tm 138) (Kn 1) 3, Sg 26 139])))))) (R0 [Mv 172 23, Mv 173 24, Ix 174 116 22 172, Sr 115 (Tm 174) (Tm 173)]))))) (R0 [Mv 111 23, Bo 112 .add 3 (Tm 111) (Kn 1) 3, Sg 23 112])))))) (.seq (.seq (R0 [Sk 27 (Kn 0)]) (.block 8 (.loop (.seq (.seq (R0 [Mv 175 27, Bo 176 .lss 3 (Tm 175) (Kn 3) 3]) (.cond (Tm 176) .skip (.exit 8))) (.seq (.block 9 (.seq (R0 [Oo 179 (.build 119 #[]), Oo 28 (.alloc 119), Sr 119 (Tm 28) (Tm 179)]) (.seq (.seq (R0 [Sk 29 (Kn 0)]) (.block 10 (.loop (.seq (.seq (R0 [Mv 180 29, Bo 181 .lss 3 (Tm 180) (Kn 3) 3]) (.cond (Tm 181) .skip (.exit 10))) (.seq (.block 11 (R1 [Mv 184 29, Mv 185 29, Ix 186 116 22 185, Ld 187 115 186, Mv 188 27, Ix 189 115 187 188, Fa 190 121 189 0, Ld 191 3 190, Mv 192 21, Mv 193 29, Ix 194 116 22 193, Ld 195 115 194, Mv 196 27, Ix 197 115 195 196, Fa 198 121 197 1, Ld 199 3 198, Bo 200 .quo 3 (Tm 192) (Tm 199) 3, Bo 201 .mul 3 (Tm 191) (Tm 200) 3, Ix 202 119 28 184, Sr 3 (Tm 202) (Tm 201)])) (R0 [Mv 182 29, Bo 183 .add 3 (Tm 182) (Kn 1) 3, Sg 29 183])))))) (.seq (R0 [Oo 203 (.indexAddr 119 (Tm 28) (Kn 0)), Ld 204 3 203, Oo 205 (.indexAddr 119 (Tm 28) (Kn 1)), Ld 206 3 205, Bo 207 .add 3 (Tm 204) (Tm 206) 3, Oo 208 (.indexAddr 119 (Tm 28) (Kn 2)), Ld 209 3 208, Bo 210 .neq 3 (Tm 207) (Tm 209) 3]) (.cond (Tm 210) (.seq (R0 [Sk 4 (Kb false)]) .ret) .skip))))) (R0 [Mv 177 27, Bo 178 .add 3 (Tm 177) (Kn 1) 3, Sg 27 178])))))) (.seq (R0 [Cl 211 35 #[] #[], Mv 212 211, Gc 213 36 #[] #[] 212 true, Pk 214 212 (Tm 213) (Kb false), Sg 4 214]) .ret))))))))))))))))⟩
def s6 : SF := ⟨159, [.cell 2 31], (.seq (R0 [Oo 1 (.box 26 (Tm 0)), Oo 2 (.alloc 31)]) (.seq (R0 [Oo 10 (.build 31 #[]), Oo 3 (.alloc 31), Sr 31 (Tm 3) (Tm 10)]) (.seq (.seq (R0 [Sk 4 (Kn 0)]) (.block 0 (.loop (.seq (.seq (R0 [Mv 11 4, Bo 12 .lss 3 (Tm 11) (Kn 2) 3, Mv 13 12, Gm 14 4 13 false, Gf 15 26 1 0 13 false, Gl 16 22 15 13 false, Og 17 (.call { callee := .builtin .len, args := #[Tm 16], argTypes := #[22] }) 13 false, Gb 18 .lss 3 (Tm 14) (Tm 17) 3 13 false, Gm 19 18 13 false, Gm 20 4 19 true, Gb 21 .lss 3 (Tm 20) (Kn 5) 3 19 true, Og 22 (.pick (Tm 19) (Tm 21) (Kb false)) 13 false, Pk 23 13 (Kb true) (Tm 22)]) (.cond (Tm 23) .skip (.exit 0))) (.seq (.block 1 (.seq (R0 [Mv 26 4, Oo 27 (.convert 3 5 (Tm 26)), Oo 28 (.build 27 #[(0, (Tm 27)), (1, (.const (.int .u8 120))), (2, (.const (.int .u8 20))), (3, (.const (.int .u8 7))), (4, (.const (.int .u8 30))), (5, (.const (.int .u8 20)))]), Oo 5 (.alloc 27), Sr 27 (Tm 5) (Tm 28)]) (.seq (.seq (R0 [Mv 29 4, Fa 30 26 1 0, Ld 31 22 30, Lq 32 31 22, Bo 33 .lss 3 (Tm 29) (Tm 32) 3]) (.cond (Tm 33) (R0 [Fa 34 26 1 0, Ld 35 22 34, Mv 36 4, Ix 37 22 35 36, Ld 38 27 37, Sr 27 (Tm 5) (Tm 38)]) .skip)) (.seq (R1 [Mv 39 4, Bo 40 .add 3 (Kn 1) (Tm 39) 3, Oo 41 (.indexAddr 27 (Tm 5) (Kn 1)), Ld 42 5 41, Oo 43 (.convert 5 3 (Tm 42)), Bo 44 .add 3 (Kn 50) (Tm 43) 3, Oo 45 (.indexAddr 27 (Tm 5) (Kn 2)), Ld 46 5 45, Oo 47 (.convert 5 3 (Tm 46)), Bo 48 .add 3 (Kn 50) (Tm 47) 3, Oo 49 (.indexAddr 27 (Tm 5) (Kn 2)), Ld 50 5 49, Oo 51 (.convert 5 3 (Tm 50)), Bo 52 .add 3 (Kn 50) (Tm 51) 3, Oo 53 (.indexAddr 27 (Tm 5) (Kn 0)), Ld 54 5 53, Oo 55 (.convert 5 3 (Tm 54)), Bo 56 .quo 3 (Tm 55) (Kn 8) 3, Bo 57 .add 3 (Tm 52) (Tm 56) 3, Cl 58 13 #[Tm 48, Tm 57] #[3, 3], Oo 59 (.indexAddr 27 (Tm 5) (Kn 3)), Ld 60 5 59, Oo 61 (.convert 5 3 (Tm 60)), Bo 62 .rem 3 (Tm 61) (Kn 100) 3, Oo 63 (.indexAddr 27 (Tm 5) (Kn 3)), Ld 64 5 63, Oo 65 (.convert 5 3 (Tm 64)), Bo 66 .rem 3 (Tm 65) (Kn 100) 3, Oo 67 (.indexAddr 27 (Tm 5) (Kn 3)), Ld 68 5 67, Oo 69 (.convert 5 3 (Tm 68)), Bo 70 .quo 3 (Tm 69) (Kn 16) 3, Bo 71 .add 3 (Tm 66) (Tm 70) 3, Cl 72 13 #[Tm 62, Tm 71] #[3, 3], Oo 73 (.indexAddr 27 (Tm 5) (Kn 4)), Ld 74 5 73, Oo 75 (.convert 5 3 (Tm 74)), Bo 76 .mul 3 (Kn 1000) (Tm 75) 3, Oo 77 (.indexAddr 27 (Tm 5) (Kn 5)), Ld 78 5 77, Oo 79 (.convert 5 3 (Tm 78)), Bo 80 .mul 3 (Kn 10) (Tm 79) 3, Oo 81 (.build 125 #[(0, (Tm 40)), (1, (Tm 44)), (2, (Tm 58)), (3, (Tm 72)), (4, (Tm 76)), (5, (Tm 80))]), Oo 6 (.alloc 125), Sr 125 (Tm 6) (Tm 81)]) (.seq (.seq (R0 [Mv 82 4, Bo 83 .gtr 3 (Tm 82) (Kn 1) 3]) (.cond (Tm 83) (R0 [Oo 84 (.indexAddr 27 (Tm 5) (Kn 0)), Ld 85 5 84, Bo 86 .rem 5 (Tm 85) (.const (.int .u8 2)) 5, Bo 87 .add 5 (.const (.int .u8 1)) (Tm 86) 5, Oo 88 (.convert 5 123 (Tm 87)), Fa 89 125 6 0, Sr 123 (Tm 89) (Tm 88)]) .skip)) (R0 [Fa 90 31 3 0, Ld 91 28 90, Ld 92 125 6, Oo 93 (.buildSlice 28 1 #[(0, (Tm 92))]), Oo 94 (.call { callee := .builtin .append, args := #[Tm 91, Tm 93], argTypes := #[28, 28] }), Fa 95 31 3 0, Sr 28 (Tm 95) (Tm 94)])))))) (R0 [Mv 24 4, Bo 25 .add 3 (Tm 24) (Kn 1) 3, Sg 4 25])))))) (.seq (.seq (R0 [Sk 7 (Kn 0)]) (.block 2 (.loop (.seq (.seq (R0 [Mv 96 7, Bo 97 .eql 3 (Tm 96) (Kn 0) 3, Mv 98 97, Gm 99 7 98 false, Gf 100 26 1 1 98 false, Gl 101 23 100 98 false, Og 102 (.call { callee := .builtin .len, args := #[Tm 101], argTypes := #[23] }) 98 false, Gb 103 .lss 3 (Tm 99) (Tm 102) 3 98 false, Gm 104 103 98 false, Gm 105 7 104 true, Gb 106 .lss 3 (Tm 105) (Kn 3) 3 104 true, Og 107 (.pick (Tm 104) (Tm 106) (Kb false)) 98 false, Pk 108 98 (Kb true) (Tm 107)]) (.cond (Tm 108) .skip (.exit 2))) (.seq (.block 3 (.seq (R0 [Oo 111 (.build 87 #[(0, (.const (.int .u8 80))), (1, (.const (.int .u8 128))), (2, (.const (.int .u8 36)))]), Oo 8 (.alloc 87), Sr 87 (Tm 8) (Tm 111)]) (.seq (.seq (R0 [Mv 112 7, Fa 113 26 1 1, Ld 114 23 113, Lq 115 114 23, Bo 116 .lss 3 (Tm 112) (Tm 115) 3]) (.cond (Tm 116) (R0 [Fa 117 26 1 1, Ld 118 23 117, Mv 119 7, Ix 120 23 118 119, Ld 121 87 120, Sr 87 (Tm 8) (Tm 121)]) .skip)) (.seq (R0 [Oo 122 (.indexAddr 87 (Tm 8) (Kn 0)), Ld 123 5 122, Oo 124 (.convert 5 3 (Tm 123)), Bo 125 .mul 3 (Kn 35) (Tm 124) 3, Bo 126 .add 3 (Kn 1000) (Tm 125) 3, Sg 9 126]) (R1 [Fa 127 31 3 1, Ld 128 29 127, Mv 129 9, Mv 130 9, Mv 131 9, Oo 132 (.indexAddr 87 (Tm 8) (Kn 1)), Ld 133 5 132, Oo 134 (.convert 5 3 (Tm 133)), Bo 135 .mul 3 (Tm 131) (Tm 134) 3, Bo 136 .quo 3 (Tm 135) (Kn 255) 3, Bo 137 .add 3 (Tm 130) (Tm 136) 3, Oo 138 (.indexAddr 87 (Tm 8) (Kn 2)), Ld 139 5 138, Oo 140 (.convert 5 3 (Tm 139)), Bo 141 .mul 3 (Kn 10) (Tm 140) 3, Bo 142 .add 3 (Kn 500) (Tm 141) 3, Oo 143 (.indexAddr 87 (Tm 8) (Kn 2)), Ld 144 5 143, Oo 145 (.convert 5 3 (Tm 144)), Bo 146 .mul 3 (Kn 10) (Tm 145) 3, Bo 147 .add 3 (Kn 500) (Tm 146) 3, Oo 148 (.indexAddr 87 (Tm 8) (Kn 1)), Ld 149 5 148, Oo 150 (.convert 5 3 (Tm 149)), Bo 151 .rem 3 (Tm 150) (Kn 90) 3, Bo 152 .add 3 (Tm 147) (Tm 151) 3, Cl 153 13 #[Tm 142, Tm 152] #[3, 3], Oo 154 (.build 114 #[(0, (Tm 129)), (1, (Tm 137)), (2, (Tm 153))]), Oo 155 (.buildSlice 29 1 #[(0, (Tm 154))]), Oo 156 (.call { callee := .builtin .append, args := #[Tm 128, Tm 155], argTypes := #[29, 29] }), Fa 157 31 3 1, Sr 29 (Tm 157) (Tm 156)]))))) (R0 [Mv 109 7, Bo 110 .add 3 (Tm 109) (Kn 1) 3, Sg 7 110])))))) (.seq (R0 [Ld 158 31 3, Sr 31 (Tm 2) (Tm 158)]) .ret)))))⟩
theorem sf6 : sfOf Try.f6 = some s6 := by kernel_rfl
theorem hb6 : hasBody Try.prog 6 = true := by kernel_rfl
def s7 : SF := ⟨87, [.cell 2 35], (.seq (R0 [Oo 1 (.box 26 (Tm 0)), Oo 2 (.alloc 35)]) (.seq (R0 [Ld 11 26 1, Cl 12 6 #[Tm 11] #[26], Oo 13 (.build 35 #[]), Oo 3 (.alloc 31), Oo 4 (.alloc 35), Sr 31 (Tm 3) (Tm 12), Sr 35 (Tm 4) (Tm 13)]) (.seq (R0 [Oo 14 (.build 126 #[]), Oo 5 (.alloc 126), Sr 126 (Tm 5) (Tm 14)]) (.seq (.seq (R0 [Sk 6 (Kn 0)]) (.block 0 (.loop (.seq (.seq (R0 [Mv 15 6, Fa 16 31 3 0, Ld 17 28 16, Lq 18 17 28, Bo 19 .lss 3 (Tm 15) (Tm 18) 3]) (.cond (Tm 19) .skip (.exit 0))) (.seq (.block 1 (.seq (R0 [Fa 22 31 3 0, Ld 23 28 22, Mv 24 6, Ix 25 28 23 24, Fa 26 125 25 0, Ld 27 123 26, Bo 28 .sub 3 (Tm 27) (Kn 1) 3, Sg 7 28]) (R0 [Mv 29 7, Mv 30 7, Ix 31 126 5 30, Ld 32 33 31, Mv 33 6, Oo 34 (.buildSlice 33 1 #[(0, (Tm 33))]), Oo 35 (.call { callee := .builtin .append, args := #[Tm 32, Tm 34], argTypes := #[33, 33] }), Ix 36 126 5 29, Sr 33 (Tm 36) (Tm 35)]))) (R0 [Mv 20 6, Bo 21 .add 3 (Tm 20) (Kn 1) 3, Sg 6 21])))))) (.seq (R0 [Fa 37 26 1 2, Ld 38 24 37, Cl 39 37 #[Tm 38, Kn 0] #[24, 3], Bo 40 .rem 3 (Tm 39) (Kn 2) 3, Bo 41 .add 3 (Kn 1) (Tm 40) 3, Sg 8 41]) (.seq (.seq (R0 [Sk 9 (Kn 0)]) (.block 2 (.loop (.seq (.seq (R0 [Mv 42 9, Mv 43 8, Bo 44 .mul 3 (Kn 2) (Tm 43) 3, Bo 45 .add 3 (Tm 44) (Kn 1) 3, Bo 46 .lss 3 (Tm 42) (Tm 45) 3]) (.cond (Tm 46) .skip (.exit 2))) (.seq (.block 3 (.seq (R0 [Mv 49 9, Bo 50 .rem 3 (Tm 49) (Kn 2) 3, Ix 51 126 5 50, Ld 52 33 51, Sg 10 52]) (.seq (R1 [Fa 53 35 4 0, Ld 54 33 53, Mv 55 10, Fa 56 26 1 2, Ld 57 24 56, Mv 58 9, Bo 59 .add 3 (Tm 58) (Kn 1) 3, Cl 60 37 #[Tm 57, Tm 59] #[24, 3], Mv 61 10, Lq 62 61 33, Bo 63 .rem 3 (Tm 60) (Tm 62) 3, Ix 64 33 55 63, Ld 65 3 64, Oo 66 (.buildSlice 33 1 #[(0, (Tm 65))]), Oo 67 (.call { callee := .builtin .append, args := #[Tm 54, Tm 66], argTypes := #[33, 33] }), Fa 68 35 4 0, Sr 33 (Tm 68) (Tm 67)]) (.seq (R0 [Mv 69 9, Bo 70 .rem 3 (Tm 69) (Kn 2) 3, Bo 71 .eql 3 (Tm 70) (Kn 1) 3]) (.cond (Tm 71) (R1 [Fa 72 35 4 1, Ld 73 33 72, Fa 74 26 1 2, Ld 75 24 74, Mv 76 9, Bo 77 .add 3 (Tm 76) (Kn 6) 3, Cl 78 37 #[Tm 75, Tm 77] #[24, 3], Fa 79 31 3 1, Ld 80 29 79, Lq 81 80 29, Bo 82 .rem 3 (Tm 78) (Tm 81) 3, Oo 83 (.buildSlice 33 1 #[(0, (Tm 82))]), Oo 84 (.call { callee := .builtin .append, args := #[Tm 73, Tm 83], argTypes := #[33, 33] }), Fa 85 35 4 1, Sr 33 (Tm 85) (Tm 84)]) .skip))))) (R0 [Mv 47 9, Bo 48 .add 3 (Tm 47) (Kn 1) 3, Sg 9 48])))))) (.seq (R0 [Ld 86 35 4, Sr 35 (Tm 2) (Tm 86)]) .ret)))))))⟩
theorem sf7 : sfOf Try.f7 = some s7 := by kernel_rfl
theorem hb7 : hasBody Try.prog 7 = true := by kernel_rfl
def o8_0 : SO := (Ld 16 38 4)
def o8_1 : SO := (Ld 17 38 5)
def o8_2 : SO := (Mv 18 6)
def o8_3 : SO := (Sr 38 (Tm 4) (Tm 16))
def o8_4 : SO := (Sr 38 (Tm 5) (Tm 17))
def o8_5 : SO := (Sg 6 18)
def o8_6 : SO := (Ld 24 38 4)
def o8_7 : SO := (Ld 25 38 5)
def o8_8 : SO := (Sr 38 (Tm 4) (Tm 24))
def o8_9 : SO := (Sr 38 (Tm 5) (Tm 25))
def o8_10 : SO := (Sk 6 (Kn 0))
def s8 : SF := ⟨26, [.cell 4 38, .cell 5 38, .tmp 6], (.seq (R0 [Oo 2 (.box 31 (Tm 0)), Oo 3 (.box 35 (Tm 1)), Oo 4 (.alloc 38), Oo 5 (.alloc 38), Sk 6 (Kn 0)]) (.seq (R0 [Ld 9 31 2, Ld 10 35 3, Cl 11 38 #[Tm 9, Tm 10] #[31, 35], Mv 8 11, Xt 12 8 0, Xt 13 8 1, Oo 7 (.alloc 129), Sr 129 (Tm 7) (Tm 12), Sg 6 13]) (.seq (.seq (R0 [Mv 14 6, Bo 15 .neq 39 (Tm 14) (Kn 0) 39]) (.cond (Tm 15) (.seq (.ord (.op o8_0 (.alt (.op o8_1 (.alt (.op o8_2 (.op o8_3 (.op o8_4 (.op o8_5 .done)))) (.op o8_3 (.alt (.op o8_2 (.op o8_4 (.op o8_5 .done))) (.op o8_4 (.op o8_2 (.op o8_5 .done))))))) (.alt (.op o8_2 (.alt (.op o8_1 (.op o8_3 (.op o8_4 (.op o8_5 .done)))) (.op o8_3 (.op o8_1 (.op o8_4 (.op o8_5 .done)))))) (.op o8_3 (.op o8_1 (.alt (.op o8_2 (.op o8_4 (.op o8_5 .done))) (.op o8_4 (.op o8_2 (.op o8_5 .done)))))))))) .ret) .skip)) (.seq (R0 [Ld 20 129 7, Cl 21 39 #[Tm 20] #[129], Mv 19 21, Xt 22 19 0, Xt 23 19 1, Sr 38 (Tm 4) (Tm 22), Sr 38 (Tm 5) (Tm 23)]) (.seq (.ord (.op o8_6 (.alt (.op o8_7 (.op o8_8 (.op o8_9 (.op o8_10 .done)))) (.op o8_8 (.op o8_7 (.op o8_9 (.op o8_10 .done))))))) .ret)))))⟩
theorem sf8 : sfOf Try.f8 = some s8 := by kernel_rfl
theorem hb8 : hasBody Try.prog 8 = true := by kernel_rfl
def o9_0 : SO := (Oo 3 (.buildSlice 28 0 #[]))
def o9_1 : SO := (Fa 4 31 1 0)
def o9_2 : SO := (Ld 5 28 4)
def o9_3 : SO := (Oo 6 (.call { callee := .builtin .append, args := #[Tm 3, Tm 5], argTypes := #[28, 28] }))
def o9_4 : SO := (Oo 7 (.buildSlice 29 0 #[]))
def o9_5 : SO := (Fa 8 31 1 1)
def o9_6 : SO := (Ld 9 29 8)
def o9_7 : SO := (Oo 10 (.call { callee := .builtin .append, args := #[Tm 7, Tm 9], argTypes := #[29, 29] }))
def o9_8 : SO := (Oo 11 (.build 31 #[(0, (Tm 6)), (1, (Tm 10))]))
def o9_9 : SO := (Sr 31 (Tm 2) (Tm 11))
def s9 : SF := ⟨12, [.cell 2 31], (.seq (R0 [Oo 1 (.box 31 (Tm 0)), Oo 2 (.alloc 31)]) (.seq (.ord (.op o9_0 (.op o9_1 (.op o9_2 (.app o9_3 [1, 8] [7, 8, 9] (.op o9_4 (.op o9_5 (.op o9_6 (.op o9_7 (.op o9_8 (.op o9_9 .done))))))))))) .ret))⟩
theorem sf9 : sfOf Try.f9 = some s9 := by kernel_rfl
theorem hb9 : hasBody Try.prog 9 = true := by kernel_rfl
def s10 : SF := ⟨10, [.cell 2 35], (.seq (R0 [Oo 1 (.box 35 (Tm 0)), Oo 2 (.alloc 35)]) (.seq (R1 [Fa 3 35 1 0, Ld 4 33 3, Cl 5 21 #[Tm 4] #[33], Fa 6 35 1 1, Ld 7 33 6, Cl 8 21 #[Tm 7] #[33], Oo 9 (.build 35 #[(0, (Tm 5)), (1, (Tm 8))]), Sr 35 (Tm 2) (Tm 9)]) .ret))⟩
theorem sf10 : sfOf Try.f10 = some s10 := by kernel_rfl
theorem hb10 : hasBody Try.prog 10 = true := by kernel_rfl
def s11 : SF := ⟨55, [.tmp 0], (.seq (R0 [Sk 0 (Kb false)]) (.seq (R0 [Cl 8 13 #[Kn 250, Kn 270] #[3, 3], Cl 9 13 #[Kn 60, Kn 80] #[3, 3], Oo 10 (.build 125 #[(0, (Kn 1)), (1, (Kn 200)), (2, (Tm 8)), (3, (Tm 9)), (4, (Kn 400000)), (5, (Kn 300))]), Cl 11 13 #[Kn 180, Kn 190] #[3, 3], Cl 12 13 #[Kn 70, Kn 90] #[3, 3], Oo 13 (.build 125 #[(0, (Kn 2)), (1, (Kn 120)), (2, (Tm 11)), (3, (Tm 12)), (4, (Kn 300000)), (5, (Kn 200))]), Oo 14 (.buildSlice 28 2 #[(0, (Tm 10)), (1, (Tm 13))]), Cl 15 13 #[Kn 3600, Kn 3700] #[3, 3], Oo 16 (.build 114 #[(0, (Kn 8000)), (1, (Kn 12000)), (2, (Tm 15))]), Oo 17 (.buildSlice 29 1 #[(0, (Tm 16))]), Oo 18 (.build 31 #[(0, (Tm 14)), (1, (Tm 17))]), Oo 1 (.alloc 31), Sr 31 (Tm 1) (Tm 18)]) (.seq (R0 [Oo 19 (.buildSlice 33 3 #[(0, (Kn 0)), (1, (Kn 1)), (2, (Kn 0))]), Oo 20 (.buildSlice 33 1 #[(0, (Kn 0))]), Oo 21 (.build 35 #[(0, (Tm 19)), (1, (Tm 20))]), Oo 2 (.alloc 35), Sr 35 (Tm 2) (Tm 21)]) (.seq (R0 [Ld 23 31 1, Ld 24 35 2, Cl 25 8 #[Tm 23, Tm 24] #[31, 35], Mv 22 25, Xt 26 22 0, Xt 27 22 1, Xt 28 22 2, Oo 3 (.alloc 38), Oo 4 (.alloc 38), Sr 38 (Tm 3) (Tm 26), Sr 38 (Tm 4) (Tm 27), Sg 5 28]) (.seq (R0 [Ld 30 31 1, Ld 31 35 2, Cl 32 40 #[Tm 30, Tm 31] #[31, 35], Mv 29 32, Xt 33 29 0, Xt 34 29 1, Sg 6 33, Sg 7 34]) (.seq (R1 [Mv 35 5, Bo 36 .eql 39 (Tm 35) (Kn 0) 39, Mv 37 36, Gm 38 7 37 true, Gb 39 .eql 39 (Tm 38) (Kn 0) 39 37 true, Pk 40 37 (Tm 39) (Kb false), Mv 41 40, Gl 42 38 3 41 true, Gc 43 13 #[Kn 616, Kn 628] #[3, 3] 41 true, Gb 44 .eql 38 (Tm 42) (Tm 43) 38 41 true, Pk 45 41 (Tm 44) (Kb false), Mv 46 45, Gl 47 38 4 46 true, Gc 48 13 #[Kn 4100, Kn 4240] #[3, 3] 46 true, Gb 49 .eql 38 (Tm 47) (Tm 48) 38 46 true, Pk 50 46 (Tm 49) (Kb false), Mv 51 50, Gm 52 6 51 true, Gb 53 .eql 3 (Tm 52) (Kn 900) 3 51 true, Pk 54 51 (Tm 53) (Kb false), Sg 0 54]) .ret))))))⟩
theorem sf11 : sfOf Try.f11 = some s11 := by kernel_rfl
theorem hb11 : hasBody Try.prog 11 = true := by kernel_rfl
def s12 : SF := ⟨52, [.tmp 0], (.seq (R0 [Sk 0 (Kb false)]) (.seq (R0 [Oo 9 (.buildSlice 33 4 #[(0, (Kn 304)), (1, (Kn 204)), (2, (Kn 304)), (3, (Kn 204))]), Oo 10 (.buildSlice 33 2 #[(0, (Kn 101)), (1, (Kn 101))]), Oo 11 (.buildSlice 33 2 #[(0, (Kn 101)), (1, (Kn 101))]), Oo 12 (.build 49 #[(0, (Kn 35)), (1, (Tm 9)), (2, (Kn 208)), (3, (Tm 10)), (4, (Tm 11)), (5, (Kn 6))]), Oo 1 (.alloc 49), Sr 49 (Tm 1) (Tm 12)]) (.seq (R0 [Cl 13 13 #[Kn 300, Kn 301] #[3, 3], Cl 14 13 #[Kn 200, Kn 201] #[3, 3], Cl 15 13 #[Kn 200, Kn 202] #[3, 3], Cl 16 13 #[Kn (-3), Kn 0] #[3, 3], Cl 17 13 #[Kn 0, Kn 200] #[3, 3], Oo 18 (.build 47 #[(0, (Tm 13)), (1, (Tm 14)), (2, (Tm 15)), (3, (Tm 16)), (4, (Tm 17))]), Oo 2 (.alloc 47), Sr 47 (Tm 2) (Tm 18)]) (.seq (R1 [Ld 20 49 1, Ld 21 47 2, Cl 22 13 #[Kn 3000, Kn 4000] #[3, 3], Cl 23 15 #[Tm 20, Tm 21, Tm 22] #[49, 47, 38], Mv 19 23, Xt 24 19 0, Xt 25 19 1, Sg 3 24, Sg 4 25]) (.seq (R0 [Ld 27 49 1, Cl 28 19 #[Tm 27] #[49], Mv 26 28, Xt 29 26 0, Xt 30 26 1, Xt 31 26 2, Xt 32 26 3, Sg 5 29, Sg 6 30, Sg 7 31, Sg 8 32]) (.seq (R0 [Mv 33 4, Bo 34 .eql 39 (Tm 33) (Kn 0) 39, Mv 35 34, Gm 36 8 35 true, Gb 37 .eql 39 (Tm 36) (Kn 0) 39 35 true, Pk 38 35 (Tm 37) (Kb false), Mv 39 38, Gm 40 3 39 true, Og 41 (.call { callee := .builtin .len, args := #[Tm 40], argTypes := #[52] }) 39 true, Gb 42 .eql 3 (Tm 41) (Kn 0) 3 39 true, Pk 43 39 (Tm 42) (Kb false), Mv 44 43, Gm 45 5 44 true, Gb 46 .eql 3 (Tm 45) (Kn 1051) 3 44 true, Pk 47 44 (Tm 46) (Kb false), Mv 48 47, Gm 49 6 48 true, Gb 50 .eql 3 (Tm 49) (Kn 410) 3 48 true, Pk 51 48 (Tm 50) (Kb false), Sg 0 51]) .ret))))))⟩
theorem sf12 : sfOf Try.f12 = some s12 := by kernel_rfl
theorem hb12 : hasBody Try.prog 12 = true := by kernel_rfl
def s13 : SF := ⟨8, [.cell 4 38], (.seq (R0 [Oo 4 (.alloc 38)]) (.seq (R0 [Mv 5 0, Mv 6 1, Oo 7 (.build 38 #[(0, (Tm 5)), (1, (Tm 6))]), Sr 38 (Tm 4) (Tm 7)]) .ret))⟩
theorem sf13 : sfOf Try.f13 = some s13 := by kernel_rfl
theorem hb13 : hasBody Try.prog 13 = true := by kernel_rfl
def s14 : SF := ⟨35, [.cell 6 49, .tmp 7, .tmp 8], (.seq (R0 [Oo 3 (.box 47 (Tm 0)), Oo 4 (.box 38 (Tm 1)), Oo 6 (.alloc 49), Sk 7 (Kn 0), Sk 8 (Kn 0)]) (.seq (R0 [Ld 9 47 3, Cl 10 41 #[Tm 9] #[47], Sg 8 10]) (.seq (.seq (R0 [Mv 11 8, Bo 12 .eql 39 (Tm 11) (Kn 0) 39]) (.cond (Tm 12) (R0 [Ld 13 38 4, Oo 14 (.buildSlice 72 1 #[(0, (Tm 13))]), Cl 15 42 #[.const (.slice none 0 0), Tm 14] #[96, 72], Sg 8 15]) .skip)) (.seq (.block 0 (.seq (R0 [Mv 17 8, Bo 18 .neq 39 (Tm 17) (Kn 0) 39, Sg 16 18]) (.cond (Tm 16) (.seq (R0 [Ld 19 49 6, Mv 20 8, Sr 49 (Tm 6) (Tm 19), Sk 7 (Kn 0), Sg 8 20]) .ret) (.seq (R0 [Mv 22 2, Oo 23 (.buildSlice 33 1 #[(0, (Tm 22))]), Cl 24 43 #[Kn 0, Kn 100, Tm 23] #[3, 3, 33], Oo 25 (.unOp .not 4 (Tm 24)), Sg 21 25]) (.cond (Tm 21) (.seq (R0 [Ld 26 49 6, Sr 49 (Tm 6) (Tm 26), Sk 7 (Kn 0), Sk 8 (Kn 5)]) .ret) .skip))))) (.seq (R0 [Ld 27 47 3, Ld 28 38 4, Oo 29 (.build 140 #[(0, (Tm 27)), (1, (Tm 28))]), Mv 30 2, Cl 31 44 #[Tm 29, Tm 30] #[140, 3], Xt 32 31 0, Xt 33 31 1, Xt 34 31 2, Sr 49 (Tm 6) (Tm 32), Sg 7 33, Sg 8 34]) .ret)))))⟩
theorem sf14 : sfOf Try.f14 = some s14 := by kernel_rfl
theorem hb14 : hasBody Try.prog 14 = true := by kernel_rfl
def s15 : SF := ⟨55, [.tmp 6, .tmp 7], (.seq (R0 [Oo 3 (.box 49 (Tm 0)), Oo 4 (.box 47 (Tm 1)), Oo 5 (.box 38 (Tm 2)), Oo 6 (.assign (.const (.slice none 0 0))), Sk 7 (Kn 0)]) (.seq (.seq (R0 [Ld 12 49 3, Ld 13 47 4, Ld 14 38 5, Oo 15 (.buildSlice 72 1 #[(0, (Tm 14))]), Cl 16 45 #[Tm 12, Tm 13, Tm 15] #[49, 47, 72], Sg 8 16]) (.seq (R0 [Mv 17 8, Bo 18 .neq 39 (Tm 17) (Kn 0) 39]) (.cond (Tm 18) (.seq (R0 [Mv 19 8, Oo 6 (.assign (.const (.slice none 0 0))), Sg 7 19]) .ret) .skip))) (.seq (.seq (R0 [Oo 20 (.move (Kn 0))]) (.block 0 (.loop (.seq (R0 [Bo 21 .lss 3 (Tm 20) (Kn 10) 3]) (.seq (.cond (Tm 21) .skip (.exit 0)) (.seq (.block 1 (.seq (R0 [Mv 22 20, Sg 9 22]) (.seq (R0 [Ld 23 49 3, Oo 24 (.build 144 #[(0, (Tm 23))]), Ld 25 47 4, Mv 26 9, Cl 27 46 #[Tm 24, Tm 25, Tm 26] #[144, 47, 3], Oo 10 (.alloc 38), Sr 38 (Tm 10) (Tm 27)]) (.seq (R0 [Fa 28 38 5 0, Ld 29 3 28, Sg 11 29]) (.seq (.seq (R0 [Fa 30 38 10 0, Ld 31 3 30, Mv 32 11, Bo 33 .leq 3 (Tm 31) (Tm 32) 3, Mv 34 33, Gm 35 11 34 true, Gf 36 38 10 1 34 true, Gl 37 3 36 34 true, Gb 38 .leq 3 (Tm 35) (Tm 37) 3 34 true, Pk 39 34 (Tm 38) (Kb false)]) (.cond (Tm 39) (R0 [Fa 40 38 10 1, Ld 41 3 40, Bo 42 .add 3 (Tm 41) (Kn 1) 3, Sg 11 42]) .skip)) (.seq (R0 [Mv 43 11, Fa 44 38 5 1, Ld 45 3 44, Bo 46 .leq 3 (Tm 43) (Tm 45) 3]) (.cond (Tm 46) (R0 [Mv 47 6, Mv 48 9, Mv 49 11, Oo 50 (.build 147 #[(0, (Tm 48)), (1, (Tm 49))]), Oo 51 (.buildSlice 52 1 #[(0, (Tm 50))]), Oo 52 (.call { callee := .builtin .append, args := #[Tm 47, Tm 51], argTypes := #[52, 52] }), Sg 6 52]) .skip))))))) (R0 [Bo 53 .add 3 (Tm 20) (Kn 1) 3, Mv 20 53]))))))) (.seq (R0 [Mv 54 6, Sg 6 54, Sk 7 (Kn 0)]) .ret))))⟩
theorem sf15 : sfOf Try.f15 = some s15 := by kernel_rfl
theorem hb15 : hasBody Try.prog 15 = true := by kernel_rfl
def s16 : SF := ⟨16, [.cell 2 49], (.seq (R0 [Oo 1 (.box 49 (Tm 0)), Oo 2 (.alloc 49)]) (.seq (R1 [Fa 3 49 1 1, Ld 4 33 3, Cl 5 21 #[Tm 4] #[33], Fa 6 49 1 3, Ld 7 33 6, Cl 8 21 #[Tm 7] #[33], Fa 9 49 1 4, Ld 10 33 9, Cl 11 21 #[Tm 10] #[33], Fa 12 49 1 1, Sr 33 (Tm 12) (Tm 5), Fa 13 49 1 3, Sr 33 (Tm 13) (Tm 8), Fa 14 49 1 4, Sr 33 (Tm 14) (Tm 11)]) (.seq (R0 [Ld 15 49 1, Sr 49 (Tm 2) (Tm 15)]) .ret)))⟩
theorem sf16 : sfOf Try.f16 = some s16 := by kernel_rfl
theorem hb16 : hasBody Try.prog 16 = true := by kernel_rfl
def s17 : SF := ⟨35, [.cell 4 38, .tmp 5], (.seq (R0 [Oo 2 (.box 49 (Tm 0)), Oo 3 (.box 47 (Tm 1)), Oo 4 (.alloc 38), Sk 5 (Kn 0)]) (.seq (.seq (R0 [Ld 9 49 2, Ld 10 47 3, Cl 11 45 #[Tm 9, Tm 10, .const (.slice none 0 0)] #[49, 47, 72], Sg 6 11]) (.seq (R0 [Mv 12 6, Bo 13 .neq 39 (Tm 12) (Kn 0) 39]) (.cond (Tm 13) (.seq (R0 [Ld 14 38 4, Mv 15 6, Sr 38 (Tm 4) (Tm 14), Sg 5 15]) .ret) .skip))) (.seq (R0 [Cl 16 47 #[] #[], Oo 7 (.alloc 38), Sr 38 (Tm 7) (Tm 16)]) (.seq (.seq (R0 [Oo 17 (.move (Kn 0))]) (.block 0 (.loop (.seq (R0 [Bo 18 .lss 3 (Tm 17) (Kn 10) 3]) (.seq (.cond (Tm 18) .skip (.exit 0)) (.seq (.block 1 (.seq (R0 [Mv 19 17, Sg 8 19]) (R1 [Ld 20 38 7, Ld 21 49 2, Oo 22 (.build 144 #[(0, (Tm 21))]), Ld 23 47 3, Mv 24 8, Cl 25 46 #[Tm 22, Tm 23, Tm 24] #[144, 47, 3], Cl 26 48 #[Tm 20, Tm 25] #[38, 38], Sr 38 (Tm 7) (Tm 26)]))) (R0 [Bo 27 .add 3 (Tm 17) (Kn 1) 3, Mv 17 27]))))))) (.seq (.seq (R0 [Fa 28 38 7 0, Ld 29 3 28, Fa 30 38 7 1, Ld 31 3 30, Bo 32 .gtr 3 (Tm 29) (Tm 31) 3]) (.cond (Tm 32) (.seq (R0 [Ld 33 38 4, Sr 38 (Tm 4) (Tm 33), Sk 5 (Kn 7)]) .ret) .skip)) (.seq (R0 [Ld 34 38 7, Sr 38 (Tm 4) (Tm 34), Sk 5 (Kn 0)]) .ret))))))⟩
theorem sf17 : sfOf Try.f17 = some s17 := by kernel_rfl
theorem hb17 : hasBody Try.prog 17 = true := by kernel_rfl
def s18 : SF := ⟨53, [.tmp 6], (.seq (R0 [Oo 3 (.box 31 (Tm 0)), Oo 4 (.box 35 (Tm 1)), Sk 6 (Kn 0)]) (.seq (R0 [Sk 7 (Kn 0)]) (.seq (.seq (R0 [Sk 8 (Kn 0)]) (.block 0 (.loop (.seq (.seq (R0 [Mv 9 8, Fa 10 35 4 0, Ld 11 33 10, Lq 12 11 33, Bo 13 .lss 3 (Tm 9) (Tm 12) 3]) (.cond (Tm 13) .skip (.exit 0))) (.seq (.block 1 (.seq (R0 [Mv 16 8, Bo 17 .rem 3 (Tm 16) (Kn 2) 3, Bo 18 .eql 3 (Tm 17) (Kn 0) 3]) (.cond (Tm 18) (R1 [Mv 19 7, Fa 20 31 3 0, Ld 21 28 20, Fa 22 35 4 0, Ld 23 33 22, Mv 24 8, Ix 25 33 23 24, Ld 26 3 25, Ix 27 28 21 26, Fa 28 125 27 2, Ld 29 38 28, Mv 30 2, Mv 31 8, Cl 32 37 #[Tm 30, Tm 31] #[24, 3], Cl 33 49 #[Tm 29, Tm 32] #[38, 3], Bo 34 .add 3 (Tm 19) (Tm 33) 3, Sg 7 34]) (R1 [Mv 35 7, Fa 36 31 3 1, Ld 37 29 36, Fa 38 35 4 1, Ld 39 33 38, Mv 40 8, Bo 41 .quo 3 (Tm 40) (Kn 2) 3, Ix 42 33 39 41, Ld 43 3 42, Ix 44 29 37 43, Fa 45 114 44 2, Ld 46 38 45, Mv 47 2, Mv 48 8, Cl 49 37 #[Tm 47, Tm 48] #[24, 3], Cl 50 49 #[Tm 46, Tm 49] #[38, 3], Bo 51 .add 3 (Tm 35) (Tm 50) 3, Sg 7 51])))) (R0 [Mv 14 8, Bo 15 .add 3 (Tm 14) (Kn 1) 3, Sg 8 15])))))) (.seq (R0 [Mv 52 7, Sg 6 52]) .ret))))⟩
theorem sf18 : sfOf Try.f18 = some s18 := by kernel_rfl
theorem hb18 : hasBody Try.prog 18 = true := by kernel_rfl
def s19 : SF := ⟨42, [.tmp 2, .tmp 3, .tmp 4, .tmp 5], (.seq (R0 [Oo 1 (.box 49 (Tm 0)), Sk 2 (Kn 0), Sk 3 (Kn 0), Sk 4 (Kn 0), Sk 5 (Kn 0)]) (.seq (.seq (R0 [Ld 9 49 1, Cl 10 50 #[Tm 9] #[49], Sg 6 10]) (.seq (R0 [Mv 11 6, Bo 12 .neq 39 (Tm 11) (Kn 0) 39]) (.cond (Tm 12) (.seq (R0 [Mv 13 6, Sk 2 (Kn 0), Sk 3 (Kn 0), Sk 4 (Kn 0), Sg 5 13]) .ret) .skip))) (.seq (R0 [Fa 14 49 1 0, Ld 15 3 14, Sg 2 15]) (.seq (.seq (R0 [Fa 16 49 1 1, Ld 17 33 16, Lq 18 17 33, Oo 19 (.move (Kn 0))]) (.block 0 (.loop (.seq (R0 [Bo 20 .lss 3 (Tm 19) (Tm 18) 3]) (.seq (.cond (Tm 20) .skip (.exit 0)) (.seq (.block 1 (.seq (R0 [Ix 21 33 17 19, Ld 22 3 21, Sg 8 22]) (R0 [Mv 23 2, Mv 24 8, Bo 25 .add 3 (Tm 23) (Tm 24) 3, Sg 2 25]))) (R0 [Bo 26 .add 3 (Tm 19) (Kn 1) 3, Mv 19 26]))))))) (.seq (R1 [Fa 27 49 1 3, Ld 28 33 27, Cl 29 51 #[Tm 28] #[33], Fa 30 49 1 2, Ld 31 3 30, Bo 32 .add 3 (Tm 29) (Tm 31) 3, Fa 33 49 1 4, Ld 34 33 33, Cl 35 51 #[Tm 34] #[33], Bo 36 .add 3 (Tm 32) (Tm 35) 3, Sg 3 36]) (.seq (R0 [Mv 37 2, Mv 38 3, Mv 39 2, Mv 40 3, Bo 41 .mul 3 (Tm 39) (Tm 40) 3, Sg 2 37, Sg 3 38, Sg 4 41, Sk 5 (Kn 0)]) .ret))))))⟩
theorem sf19 : sfOf Try.f19 = some s19 := by kernel_rfl
theorem hb19 : hasBody Try.prog 19 = true := by kernel_rfl
def s21 : SF := ⟨6, [.tmp 2], (.seq (R0 [Oo 2 (.assign (.const (.slice none 0 0)))]) (.seq (R0 [Oo 3 (.buildSlice 33 0 #[]), Mv 4 0, Oo 5 (.call { callee := .builtin .append, args := #[Tm 3, Tm 4], argTypes := #[33, 33] }), Sg 2 5]) .ret))⟩
theorem sf21 : sfOf Try.f21 = some s21 := by kernel_rfl
theorem hb21 : hasBody Try.prog 21 = true := by kernel_rfl
end Go.Dw.Seat
end
section
namespace Go.Dw.Seat
open Go Go.Dw Go.Proofs
def s37 : SF := ⟨16, [.tmp 4], (.seq (R0 [Sk 4 (Kn 0)]) (.seq (.seq (R0 [Mv 5 0, Lq 6 5 24, Bo 7 .eql 3 (Tm 6) (Kn 0) 3]) (.cond (Tm 7) (.seq (R0 [Sk 4 (Kn 0)]) .ret) .skip)) (.seq (R0 [Mv 8 0, Mv 9 1, Mv 10 0, Lq 11 10 24, Bo 12 .rem 3 (Tm 9) (Tm 11) 3, Ix 13 24 8 12, Ld 14 5 13, Oo 15 (.convert 5 3 (Tm 14)), Sg 4 15]) .ret)))⟩
theorem sf37 : sfOf Try.f37 = some s37 := by kernel_rfl
theorem hb37 : hasBody Try.prog 37 = true := by kernel_rfl
def s38 : SF := ⟨17, [.cell 4 129, .tmp 5], (.seq (R0 [Oo 2 (.box 31 (Tm 0)), Oo 3 (.box 35 (Tm 1)), Oo 4 (.alloc 129), Sk 5 (Kn 0)]) (.seq (.seq (R0 [Ld 7 31 2, Ld 8 35 3, Cl 9 78 #[Tm 7, Tm 8] #[31, 35], Sg 6 9]) (.seq (R0 [Mv 10 6, Bo 11 .neq 39 (Tm 10) (Kn 0) 39]) (.cond (Tm 11) (.seq (R0 [Ld 12 129 4, Mv 13 6, Sr 129 (Tm 4) (Tm 12), Sg 5 13]) .ret) .skip))) (.seq (R0 [Ld 14 31 2, Ld 15 35 3, Cl 16 79 #[Tm 14, Tm 15] #[31, 35], Sr 129 (Tm 4) (Tm 16), Sk 5 (Kn 0)]) .ret)))⟩
theorem sf38 : sfOf Try.f38 = some s38 := by kernel_rfl
theorem hb38 : hasBody Try.prog 38 = true := by kernel_rfl
def o39_0 : SO := (Ld 6 129 1)
def o39_1 : SO := (Mv 7 4)
def o39_2 : SO := (Cl 8 82 #[Tm 6, Tm 7] #[129, 189])
def o39_3 : SO := (Ld 9 129 1)
def o39_4 : SO := (Mv 10 5)
def o39_5 : SO := (Cl 11 82 #[Tm 9, Tm 10] #[129, 189])
def o39_6 : SO := (Oo 12 (.build 38 #[(0, (Tm 8)), (1, (Tm 11))]))
def o39_7 : SO := (Ld 13 129 1)
def o39_8 : SO := (Mv 14 4)
def o39_9 : SO := (Cl 15 83 #[Tm 13, Tm 14] #[129, 189])
def o39_10 : SO := (Ld 16 129 1)
def o39_11 : SO := (Mv 17 5)
def o39_12 : SO := (Cl 18 83 #[Tm 16, Tm 17] #[129, 189])
def o39_13 : SO := (Sr 38 (Tm 2) (Tm 12))
def o39_14 : SO := (Oo 19 (.build 38 #[(0, (Tm 15)), (1, (Tm 18))]))
def o39_15 : SO := (Sr 38 (Tm 3) (Tm 19))
def s39 : SF := ⟨20, [.cell 2 38, .cell 3 38], (.seq (R0 [Oo 1 (.box 129 (Tm 0)), Oo 2 (.alloc 38), Oo 3 (.alloc 38)]) (.seq (R0 [Oo 4 (.assign (.func 80)), Oo 5 (.assign (.func 81))]) (.seq (.ord (.op o39_0 (.op o39_1 (.op o39_2 (.op o39_3 (.op o39_4 (.op o39_5 (.op o39_6 (.op o39_7 (.op o39_8 (.op o39_9 (.op o39_10 (.op o39_11 (.op o39_12 (.app o39_13 [15, 18] [19] (.op o39_14 (.op o39_15 .done))))))))))))))))) .ret)))⟩
theorem sf39 : sfOf Try.f39 = some s39 := by kernel_rfl
theorem hb39 : hasBody Try.prog 39 = true := by kernel_rfl
def s40 : SF := ⟨19, [.tmp 4, .tmp 5], (.seq (R0 [Oo 2 (.box 31 (Tm 0)), Oo 3 (.box 35 (Tm 1)), Sk 4 (Kn 0), Sk 5 (Kn 0)]) (.seq (R0 [Ld 9 31 2, Ld 10 35 3, Cl 11 38 #[Tm 9, Tm 10] #[31, 35], Mv 8 11, Xt 12 8 0, Xt 13 8 1, Oo 6 (.alloc 129), Sr 129 (Tm 6) (Tm 12), Sg 7 13]) (.seq (.seq (R0 [Mv 14 7, Bo 15 .neq 39 (Tm 14) (Kn 0) 39]) (.cond (Tm 15) (.seq (R0 [Mv 16 7, Sk 4 (Kn 0), Sg 5 16]) .ret) .skip)) (.seq (R0 [Ld 17 129 6, Cl 18 84 #[Tm 17] #[129], Sg 4 18, Sk 5 (Kn 0)]) .ret))))⟩
theorem sf40 : sfOf Try.f40 = some s40 := by kernel_rfl
theorem hb40 : hasBody Try.prog 40 = true := by kernel_rfl
def s41 : SF := ⟨33, [.tmp 2], (.seq (R0 [Oo 1 (.box 47 (Tm 0)), Sk 2 (Kn 0)]) (.seq (.seq (R0 [Fa 7 47 1 0, Ld 8 38 7, Fa 9 47 1 1, Ld 10 38 9, Fa 11 47 1 2, Ld 12 38 11, Oo 13 (.build 191 #[(0, (Tm 8)), (1, (Tm 10)), (2, (Tm 12))]), Oo 14 (.move (Kn 0))]) (.block 0 (.loop (.seq (R0 [Bo 15 .lss 3 (Tm 14) (Kn 3) 3]) (.seq (.cond (Tm 15) .skip (.exit 0)) (.seq (.block 1 (.seq (R0 [Oo 16 (.index 191 (Tm 13) (Tm 14)), Oo 4 (.alloc 38), Sr 38 (Tm 4) (Tm 16)]) (.seq (R0 [Ld 17 38 4, Cl 18 85 #[Tm 17, Kn 0, Kn 3000] #[38, 3, 3], Oo 19 (.unOp .not 4 (Tm 18))]) (.cond (Tm 19) (.seq (R0 [Sk 2 (Kn 2)]) .ret) .skip)))) (R0 [Bo 20 .add 3 (Tm 14) (Kn 1) 3, Mv 14 20]))))))) (.seq (.seq (R0 [Fa 21 47 1 3, Ld 22 38 21, Fa 23 47 1 4, Ld 24 38 23, Oo 25 (.build 193 #[(0, (Tm 22)), (1, (Tm 24))]), Oo 26 (.move (Kn 0))]) (.block 2 (.loop (.seq (R0 [Bo 27 .lss 3 (Tm 26) (Kn 2) 3]) (.seq (.cond (Tm 27) .skip (.exit 2)) (.seq (.block 3 (.seq (R0 [Oo 28 (.index 193 (Tm 25) (Tm 26)), Oo 6 (.alloc 38), Sr 38 (Tm 6) (Tm 28)]) (.seq (R0 [Ld 29 38 6, Cl 30 85 #[Tm 29, Kn (-3000), Kn 3000] #[38, 3, 3], Oo 31 (.unOp .not 4 (Tm 30))]) (.cond (Tm 31) (.seq (R0 [Sk 2 (Kn 2)]) .ret) .skip)))) (R0 [Bo 32 .add 3 (Tm 26) (Kn 1) 3, Mv 26 32]))))))) (.seq (R0 [Sk 2 (Kn 0)]) .ret))))⟩
theorem sf41 : sfOf Try.f41 = some s41 := by kernel_rfl
theorem hb41 : hasBody Try.prog 41 = true := by kernel_rfl
def s42 : SF := ⟨24, [.tmp 4], (.seq (R0 [Sk 4 (Kn 0)]) (.seq (.seq (R0 [Mv 9 0, Lq 10 9 96, Oo 11 (.move (Kn 0))]) (.block 0 (.loop (.seq (R0 [Bo 12 .lss 3 (Tm 11) (Tm 10) 3]) (.seq (.cond (Tm 12) .skip (.exit 0)) (.seq (.block 1 (.seq (R0 [Ix 13 96 9 11, Ld 14 49 13, Oo 6 (.alloc 49), Sr 49 (Tm 6) (Tm 14)]) (.seq (R0 [Ld 15 49 6, Cl 16 50 #[Tm 15] #[49], Sg 7 16]) (.seq (R0 [Mv 17 7, Bo 18 .neq 39 (Tm 17) (Kn 0) 39]) (.cond (Tm 18) (.seq (R0 [Mv 19 7, Sg 4 19]) .ret) .skip))))) (R0 [Bo 20 .add 3 (Tm 11) (Kn 1) 3, Mv 11 20]))))))) (.seq (R0 [Oo 8 (.assign (.func 86))]) (.seq (.seq (R0 [Mv 21 1, Mv 22 8, Cl 23 87 #[Tm 21, Tm 22] #[72, 194]]) (.cond (Tm 23) (.seq (R0 [Sk 4 (Kn 3)]) .ret) .skip)) (.seq (R0 [Sk 4 (Kn 0)]) .ret)))))⟩
theorem sf42 : sfOf Try.f42 = some s42 := by kernel_rfl
theorem hb42 : hasBody Try.prog 42 = true := by kernel_rfl
def s43 : SF := ⟨11, [.tmp 6], (.seq (R0 [Oo 3 (.box 3 (Tm 0)), Oo 4 (.box 3 (Tm 1)), Sk 6 (Kb false)]) (.seq (R0 [Mv 7 2, Oo 8 (.makeFunc (.func 89) #[] #[Tm 3, Tm 4]), Cl 9 88 #[Tm 7, Tm 8] #[33, 197], Oo 10 (.unOp .not 4 (Tm 9)), Sg 6 10]) .ret))⟩
theorem sf43 : sfOf Try.f43 = some s43 := by kernel_rfl
theorem hb43 : hasBody Try.prog 43 = true := by kernel_rfl
def o44_0 : SO := (Ld 98 49 4)
def o44_1 : SO := (Fa 99 202 20 1)
def o44_2 : SO := (Ld 100 3 99)
def o44_3 : SO := (Sr 49 (Tm 4) (Tm 98))
def o44_4 : SO := (Sg 5 100)
def o44_5 : SO := (Sk 6 (Kn 9))
def s44 : SF := ⟨132, [.cell 4 49, .tmp 5, .tmp 6], (.seq (R0 [Oo 2 (.box 140 (Tm 0)), Oo 4 (.alloc 49), Sk 5 (Kn 0), Sk 6 (Kn 0)]) (.seq (R0 [Fa 21 140 2 0, Fa 22 47 21 5, Ld 23 4 22, Oo 24 (.build 49 #[(6, (Tm 23))]), Oo 25 (.build 144 #[(0, (Tm 24))]), Cl 26 90 #[Tm 25] #[144], Sg 7 26]) (.seq (R1 [Ld 27 140 2, Fa 28 140 2 0, Fa 29 47 28 0, Ld 30 38 29, Cl 31 92 #[Tm 27, Tm 30, Kn 1] #[140, 38, 3], Cl 32 91 #[Tm 31] #[38], Ld 33 140 2, Fa 34 140 2 0, Fa 35 47 34 1, Ld 36 38 35, Cl 37 92 #[Tm 33, Tm 36, Kn 1] #[140, 38, 3], Cl 38 91 #[Tm 37] #[38], Ld 39 140 2, Fa 40 140 2 0, Fa 41 47 40 2, Ld 42 38 41, Mv 43 7, Cl 44 92 #[Tm 39, Tm 42, Tm 43] #[140, 38, 3], Cl 45 91 #[Tm 44] #[38], Oo 8 (.alloc 38), Oo 9 (.alloc 38), Oo 10 (.alloc 38), Sr 38 (Tm 8) (Tm 32), Sr 38 (Tm 9) (Tm 38), Sr 38 (Tm 10) (Tm 45)]) (.seq (R0 [Ld 47 140 2, Ld 48 38 8, Fa 49 140 2 0, Fa 50 47 49 4, Ld 51 38 50, Cl 52 93 #[Tm 47, Tm 48, Tm 51] #[140, 38, 38], Mv 46 52, Xt 53 46 0, Xt 54 46 1, Xt 55 46 2, Sg 11 53, Sg 12 54, Sg 13 55]) (.seq (R0 [Ld 57 140 2, Ld 58 38 9, Fa 59 140 2 0, Fa 60 47 59 3, Ld 61 38 60, Cl 62 93 #[Tm 57, Tm 58, Tm 61] #[140, 38, 38], Mv 56 62, Xt 63 56 0, Xt 64 56 1, Xt 65 56 2, Sg 14 63, Sg 15 64, Sg 16 65]) (.seq (R0 [Sk 17 (Kn 5)]) (.seq (.seq (R0 [Fa 66 140 2 0, Fa 67 47 66 5, Ld 68 4 67]) (.cond (Tm 68) (R0 [Mv 69 17, Bo 70 .add 3 (Tm 69) (Kn 2) 3, Sg 17 70]) .skip)) (.seq (R1 [Ld 71 38 8, Cl 72 94 #[Tm 71] #[38], Oo 73 (.build 202 #[(0, (Tm 72)), (1, (Kn 0))]), Ld 74 38 9, Cl 75 94 #[Tm 74] #[38], Oo 76 (.build 202 #[(0, (Tm 75)), (1, (Kn 1))]), Ld 77 38 10, Cl 78 94 #[Tm 77] #[38], Oo 79 (.build 202 #[(0, (Tm 78)), (1, (Kn 4))]), Mv 80 16, Oo 81 (.unOp .not 4 (Tm 80)), Mv 82 17, Oo 83 (.build 202 #[(0, (Tm 81)), (1, (Tm 82))]), Mv 84 13, Oo 85 (.unOp .not 4 (Tm 84)), Mv 86 17, Bo 87 .add 3 (Tm 86) (Kn 1) 3, Oo 88 (.build 202 #[(0, (Tm 85)), (1, (Tm 87))]), Oo 89 (.buildSlice 203 5 #[(0, (Tm 73)), (1, (Tm 76)), (2, (Tm 79)), (3, (Tm 83)), (4, (Tm 88))]), Sg 18 89]) (.seq (.seq (R0 [Mv 90 18, Lq 91 90 203, Oo 92 (.move (Kn 0))]) (.block 0 (.loop (.seq (R0 [Bo 93 .lss 3 (Tm 92) (Tm 91) 3]) (.seq (.cond (Tm 93) .skip (.exit 0)) (.seq (.block 1 (.seq (R0 [Ix 94 203 90 92, Ld 95 202 94, Oo 20 (.alloc 202), Sr 202 (Tm 20) (Tm 95)]) (.seq (R0 [Fa 96 202 20 0, Ld 97 4 96]) (.cond (Tm 97) (.seq (.ord (.op o44_0 (.alt (.op o44_1 (.alt (.op o44_2 (.op o44_3 (.op o44_4 (.op o44_5 .done)))) (.op o44_3 (.op o44_2 (.op o44_4 (.op o44_5 .done)))))) (.op o44_3 (.op o44_1 (.op o44_2 (.op o44_4 (.op o44_5 .done)))))))) .ret) .skip)))) (R0 [Bo 101 .add 3 (Tm 92) (Kn 1) 3, Mv 92 101]))))))) (.seq (R1 [Mv 102 1, Mv 103 11, Mv 104 14, Fa 105 38 8 0, Ld 106 3 105, Fa 107 38 9 0, Ld 108 3 107, Oo 109 (.buildSlice 33 4 #[(0, (Tm 103)), (1, (Tm 104)), (2, (Tm 106)), (3, (Tm 108))]), Fa 110 38 10 0, Ld 111 3 110, Mv 112 15, Mv 113 12, Oo 114 (.buildSlice 33 2 #[(0, (Tm 112)), (1, (Tm 113))]), Mv 115 15, Mv 116 12, Oo 117 (.buildSlice 33 2 #[(0, (Tm 115)), (1, (Tm 116))]), Fa 118 140 2 1, Fa 119 38 118 1, Ld 120 3 119, Cl 121 95 #[Tm 120, Kn 1000] #[3, 3], Fa 122 140 2 0, Fa 123 47 122 5, Ld 124 4 123, Oo 125 (.build 49 #[(0, (Tm 102)), (1, (Tm 109)), (2, (Tm 111)), (3, (Tm 114)), (4, (Tm 117)), (5, (Tm 121)), (6, (Tm 124))]), Sr 49 (Tm 4) (Tm 125)]) (.seq (.seq (R0 [Fa 126 140 2 0, Fa 127 47 126 5, Ld 128 4 127]) (.cond (Tm 128) (R0 [Oo 129 (.makeSlice 33 (Kn 2) (Kn 2)), Fa 130 49 4 3, Sr 33 (Tm 130) (Tm 129)]) .skip)) (.seq (R0 [Ld 131 49 4, Sr 49 (Tm 4) (Tm 131), Sk 5 (Kn 0), Sk 6 (Kn 0)]) .ret))))))))))))⟩
theorem sf44 : sfOf Try.f44 = some s44 := by kernel_rfl
theorem hb44 : hasBody Try.prog 44 = true := by kernel_rfl
def s45 : SF := ⟨21, [.tmp 6], (.seq (R0 [Oo 3 (.box 49 (Tm 0)), Oo 4 (.box 47 (Tm 1)), Sk 6 (Kn 0)]) (.seq (.seq (R0 [Ld 9 49 3, Cl 10 50 #[Tm 9] #[49], Sg 7 10]) (.seq (R0 [Mv 11 7, Bo 12 .neq 39 (Tm 11) (Kn 0) 39]) (.cond (Tm 12) (.seq (R0 [Mv 13 7, Sg 6 13]) .ret) .skip))) (.seq (.seq (R0 [Ld 14 47 4, Cl 15 41 #[Tm 14] #[47], Sg 8 15]) (.seq (R0 [Mv 16 8, Bo 17 .neq 39 (Tm 16) (Kn 0) 39]) (.cond (Tm 17) (.seq (R0 [Mv 18 8, Sg 6 18]) .ret) .skip))) (.seq (R0 [Mv 19 2, Cl 20 42 #[.const (.slice none 0 0), Tm 19] #[96, 72], Sg 6 20]) .ret))))⟩
theorem sf45 : sfOf Try.f45 = some s45 := by kernel_rfl
theorem hb45 : hasBody Try.prog 45 = true := by kernel_rfl
def s46 : SF := ⟨56, [.cell 6 38], (.seq (R0 [Oo 3 (.box 144 (Tm 0)), Oo 4 (.box 47 (Tm 1)), Oo 6 (.alloc 38)]) (.seq (R0 [Mv 8 2, Bo 9 .eql 3 (Tm 8) (Kn 5) 3, Mv 10 9, Gm 11 2 10 false, Gb 12 .eql 3 (Tm 11) (Kn 6) 3 10 false, Pk 13 10 (Kb true) (Tm 12), Sg 7 13]) (.seq (.block 0 (.seq (R0 [Mv 15 2, Bo 16 .eql 3 (Tm 15) (Kn 9) 3, Sg 14 16]) (.cond (Tm 14) (.seq (R1 [Cl 17 47 #[] #[], Fa 18 144 3 0, Fa 19 49 18 5, Ld 20 3 19, Bo 21 .mul 3 (Kn 1000) (Tm 20) 3, Oo 22 (.build 38 #[(0, (Kn 1)), (1, (Tm 21))]), Cl 23 48 #[Tm 17, Tm 22] #[38, 38], Sr 38 (Tm 6) (Tm 23)]) .ret) (.seq (R0 [Mv 25 7, Mv 26 25, Gf 27 144 3 0 26 true, Gf 28 49 27 6 26 true, Gl 29 4 28 26 true, Gm 30 29 26 true, Gf 31 47 4 5 30 false, Gl 32 4 31 30 false, Og 33 (.pick (Tm 30) (Kb true) (Tm 32)) 26 true, Pk 34 26 (Tm 33) (Kb false), Sg 24 34]) (.cond (Tm 24) (.seq (.seq (R0 [Mv 35 2, Bo 36 .eql 3 (Tm 35) (Kn 5) 3, Mv 37 36, Gf 38 144 3 0 37 true, Gf 39 49 38 6 37 true, Gl 40 4 39 37 true, Gf 41 47 4 5 37 true, Gl 42 4 41 37 true, Gb 43 .neq 4 (Tm 40) (Tm 42) 4 37 true, Pk 44 37 (Tm 43) (Kb false)]) (.cond (Tm 44) (.seq (R0 [Oo 45 (.build 38 #[(0, (Kn 1))]), Sr 38 (Tm 6) (Tm 45)]) .ret) .skip)) (.seq (R0 [Cl 46 47 #[] #[], Sr 38 (Tm 6) (Tm 46)]) .ret)) .skip))))) (.seq (R1 [Ld 47 144 3, Cl 48 96 #[Tm 47] #[144], Mv 49 2, Ix 50 207 48 49, Ld 51 206 50, Ld 52 47 4, Mv 53 2, Cl 54 98 #[Tm 52, Tm 53] #[47, 3], Cl 55 97 #[Tm 51, Tm 54] #[206, 38], Sr 38 (Tm 6) (Tm 55)]) .ret))))⟩
theorem sf46 : sfOf Try.f46 = some s46 := by kernel_rfl
theorem hb46 : hasBody Try.prog 46 = true := by kernel_rfl
def s47 : SF := ⟨2, [.cell 0 38], (.seq (R0 [Oo 0 (.alloc 38)]) (.seq (R0 [Oo 1 (.build 38 #[(0, (Kn 1)), (1, (Kn 10000))]), Sr 38 (Tm 0) (Tm 1)]) .ret))⟩
theorem sf47 : sfOf Try.f47 = some s47 := by kernel_rfl
theorem hb47 : hasBody Try.prog 47 = true := by kernel_rfl
def s48 : SF := ⟨16, [.cell 4 38], (.seq (R0 [Oo 2 (.box 38 (Tm 0)), Oo 3 (.box 38 (Tm 1)), Oo 4 (.alloc 38)]) (.seq (R0 [Fa 5 38 2 0, Ld 6 3 5, Fa 7 38 3 0, Ld 8 3 7, Oo 9 (.call { callee := .builtin .max, args := #[Tm 6, Tm 8], argTypes := #[3, 3] }), Fa 10 38 2 1, Ld 11 3 10, Fa 12 38 3 1, Ld 13 3 12, Oo 14 (.call { callee := .builtin .min, args := #[Tm 11, Tm 13], argTypes := #[3, 3] }), Oo 15 (.build 38 #[(0, (Tm 9)), (1, (Tm 14))]), Sr 38 (Tm 4) (Tm 15)]) .ret))⟩
theorem sf48 : sfOf Try.f48 = some s48 := by kernel_rfl
theorem hb48 : hasBody Try.prog 48 = true := by kernel_rfl
def s49 : SF := ⟨16, [.tmp 4], (.seq (R0 [Oo 2 (.box 38 (Tm 0)), Sk 4 (Kn 0)]) (.seq (R0 [Fa 5 38 2 0, Ld 6 3 5, Mv 7 1, Fa 8 38 2 1, Ld 9 3 8, Fa 10 38 2 0, Ld 11 3 10, Bo 12 .sub 3 (Tm 9) (Tm 11) 3, Bo 13 .mul 3 (Tm 7) (Tm 12) 3, Bo 14 .quo 3 (Tm 13) (Kn 255) 3, Bo 15 .add 3 (Tm 6) (Tm 14) 3, Sg 4 15]) .ret))⟩
theorem sf49 : sfOf Try.f49 = some s49 := by kernel_rfl
theorem hb49 : hasBody Try.prog 49 = true := by kernel_rfl
def s50 : SF := ⟨53, [.tmp 2], (.seq (R0 [Oo 1 (.box 49 (Tm 0)), Sk 2 (Kn 0)]) (.seq (.block 0 (.seq (.seq (R0 [Fa 4 49 1 1, Ld 5 33 4, Lq 6 5 33, Bo 7 .neq 3 (Tm 6) (Kn 4) 3, Sg 3 7]) (.cond (Tm 3) .skip (.seq (R0 [Fa 8 49 1 3, Ld 9 33 8, Lq 10 9 33, Bo 11 .neq 3 (Tm 10) (Kn 2) 3, Sg 3 11]) (.cond (Tm 3) .skip (R0 [Fa 12 49 1 4, Ld 13 33 12, Lq 14 13 33, Bo 15 .neq 3 (Tm 14) (Kn 2) 3, Sg 3 15]))))) (.cond (Tm 3) (.seq (R0 [Sk 2 (Kn 4)]) .ret) (.seq (.seq (R0 [Fa 17 49 1 0, Ld 18 3 17, Oo 19 (.buildSlice 33 1 #[(0, (Tm 18))]), Cl 20 43 #[Kn 0, Kn 100, Tm 19] #[3, 3, 33], Oo 21 (.unOp .not 4 (Tm 20)), Sg 16 21]) (.cond (Tm 16) .skip (.seq (R0 [Fa 22 49 1 1, Ld 23 33 22, Cl 24 99 #[Kn 1, Tm 23] #[3, 33], Oo 25 (.unOp .not 4 (Tm 24)), Sg 16 25]) (.cond (Tm 16) .skip (.seq (R0 [Fa 26 49 1 2, Ld 27 3 26, Oo 28 (.buildSlice 33 1 #[(0, (Tm 27))]), Cl 29 99 #[Kn 1, Tm 28] #[3, 33], Oo 30 (.unOp .not 4 (Tm 29)), Sg 16 30]) (.cond (Tm 16) .skip (.seq (R0 [Fa 31 49 1 3, Ld 32 33 31, Fa 33 49 1 4, Ld 34 33 33, Oo 35 (.buildSlice 65 2 #[(0, (Tm 32)), (1, (Tm 34))]), Cl 36 100 #[Tm 35] #[65], Cl 37 99 #[Kn 0, Tm 36] #[3, 33], Oo 38 (.unOp .not 4 (Tm 37)), Sg 16 38]) (.cond (Tm 16) .skip (R0 [Fa 39 49 1 5, Ld 40 3 39, Oo 41 (.buildSlice 33 1 #[(0, (Tm 40))]), Cl 42 43 #[Kn 0, Kn 20, Tm 41] #[3, 3, 33], Oo 43 (.unOp .not 4 (Tm 42)), Sg 16 43]))))))))) (.cond (Tm 16) (.seq (R0 [Sk 2 (Kn 2)]) .ret) (.seq (R0 [Fa 45 49 1 6, Ld 46 4 45, Mv 47 46, Gf 48 49 1 3 47 true, Gl 49 33 48 47 true, Gc 50 43 #[Kn 0, Kn 0, Tm 49] #[3, 3, 33] 47 true, Og 51 (.unOp .not 4 (Tm 50)) 47 true, Pk 52 47 (Tm 51) (Kb false), Sg 44 52]) (.cond (Tm 44) (.seq (R0 [Sk 2 (Kn 2)]) .ret) .skip))))))) (.seq (R0 [Sk 2 (Kn 0)]) .ret)))⟩
theorem sf50 : sfOf Try.f50 = some s50 := by kernel_rfl
theorem hb50 : hasBody Try.prog 50 = true := by kernel_rfl
def s51 : SF := ⟨25, [.tmp 2], (.seq (R0 [Sk 2 (Kn 0)]) (.seq (.seq (R0 [Mv 5 0, Lq 6 5 33, Bo 7 .lss 3 (Tm 6) (Kn 1) 3]) (.cond (Tm 7) (R0 [⟨some 8, .makeInterface 9 (.const (.string ⟨#[115, 108, 105, 99, 101, 115, 46, 77, 97, 120, 58, 32, 101, 109, 112, 116, 121, 32, 108, 105, 115, 116]⟩)), none⟩, ⟨none, .panic (Tm 8), none⟩]) .skip)) (.seq (R0 [Mv 9 0, Oo 10 (.indexAddr 33 (Tm 9) (Kn 0)), Ld 11 3 10, Sg 3 11]) (.seq (.seq (R0 [Sk 4 (Kn 1)]) (.block 0 (.loop (.seq (.seq (R0 [Mv 12 4, Mv 13 0, Lq 14 13 33, Bo 15 .lss 3 (Tm 12) (Tm 14) 3]) (.cond (Tm 15) .skip (.exit 0))) (.seq (.block 1 (R0 [Mv 18 3, Mv 19 0, Mv 20 4, Ix 21 33 19 20, Ld 22 3 21, Oo 23 (.call { callee := .builtin .max, args := #[Tm 18, Tm 22], argTypes := #[3, 3] }), Sg 3 23])) (R0 [Mv 16 4, Bo 17 .add 3 (Tm 16) (Kn 1) 3, Sg 4 17])))))) (.seq (R0 [Mv 24 3, Sg 2 24]) .ret)))))⟩
theorem sf51 : sfOf Try.f51 = some s51 := by kernel_rfl
theorem hb51 : hasBody Try.prog 51 = true := by kernel_rfl
end Go.Dw.Seat
end
section
namespace Go.Dw.Seat
open Go Go.Dw Go.Proofs
def s71 : SF := ⟨11, [.tmp 6], (.seq (R0 [Oo 3 (.box 3 (Tm 0)), Oo 4 (.box 3 (Tm 1)), Sk 6 (Kb false)]) (.seq (R0 [Mv 7 2, Oo 8 (.makeFunc (.func 121) #[] #[Tm 3, Tm 4]), Cl 9 88 #[Tm 7, Tm 8] #[33, 197], Oo 10 (.unOp .not 4 (Tm 9)), Sg 6 10]) .ret))⟩
theorem sf71 : sfOf Try.f71 = some s71 := by kernel_rfl
theorem hb71 : hasBody Try.prog 71 = true := by kernel_rfl
def s72 : SF := ⟨47, [], (.seq (R0 [Oo 2 (.box 129 (Tm 0))]) (.seq (R0 [Fa 8 129 2 0, Fa 9 35 8 0, Ld 10 33 9, Lq 11 10 33, Oo 12 (.move (Kn 0))]) (.block 0 (.loop (.seq (R0 [Bo 13 .lss 3 (Tm 12) (Tm 11) 3]) (.seq (.cond (Tm 13) .skip (.exit 0)) (.seq (.block 1 (.seq (R0 [Mv 14 12, Ix 15 33 10 12, Ld 16 3 15, Sg 4 14, Sg 5 16]) (.seq (R0 [Fa 17 129 2 2, Ld 18 3 17, Sg 6 18]) (.seq (.seq (R0 [Mv 19 4, Bo 20 .rem 3 (Tm 19) (Kn 2) 3, Bo 21 .eql 3 (Tm 20) (Kn 1) 3]) (.cond (Tm 21) (.seq (R1 [Fa 22 129 2 1, Fa 23 31 22 1, Ld 24 29 23, Fa 25 129 2 0, Fa 26 35 25 1, Ld 27 33 26, Mv 28 4, Bo 29 .quo 3 (Tm 28) (Kn 2) 3, Ix 30 33 27 29, Ld 31 3 30, Ix 32 29 24 31, Ld 33 114 32, Oo 7 (.alloc 114), Sr 114 (Tm 7) (Tm 33)]) (R1 [Mv 34 6, Fa 35 114 7 0, Ld 36 3 35, Bo 37 .quo 3 (Tm 34) (Tm 36) 3, Fa 38 114 7 1, Ld 39 3 38, Bo 40 .mul 3 (Tm 37) (Tm 39) 3, Sg 6 40])) .skip)) (.seq (R0 [Mv 41 1, Mv 42 5, Mv 43 6, Oo 44 (.call { callee := .value (Tm 41), args := #[Tm 42, Tm 43], argTypes := #[3, 3] }), Oo 45 (.unOp .not 4 (Tm 44))]) (.cond (Tm 45) .ret .skip)))))) (R0 [Bo 46 .add 3 (Tm 12) (Kn 1) 3, Mv 12 46]))))))))⟩
theorem sf72 : sfOf Try.f72 = some s72 := by kernel_rfl
theorem hb72 : hasBody Try.prog 72 = true := by kernel_rfl
def s78 : SF := ⟨57, [.tmp 4], (.seq (R0 [Oo 2 (.box 31 (Tm 0)), Oo 3 (.box 35 (Tm 1)), Sk 4 (Kn 0)]) (.seq (.seq (R0 [Ld 8 31 2, Cl 9 128 #[Tm 8] #[31], Sg 5 9]) (.seq (R0 [Mv 10 5, Bo 11 .neq 39 (Tm 10) (Kn 0) 39]) (.cond (Tm 11) (.seq (R0 [Mv 12 5, Sg 4 12]) .ret) .skip))) (.seq (.block 0 (.seq (R0 [Ld 14 35 3, Cl 15 129 #[Tm 14] #[35], Oo 16 (.unOp .not 4 (Tm 15)), Sg 13 16]) (.cond (Tm 13) (.seq (R0 [Sk 4 (Kn 4)]) .ret) (.seq (.seq (R0 [Fa 18 31 2 0, Ld 19 28 18, Lq 20 19 28, Bo 21 .sub 3 (Tm 20) (Kn 1) 3, Fa 22 35 3 0, Ld 23 33 22, Cl 24 71 #[Kn 0, Tm 21, Tm 23] #[3, 3, 33], Oo 25 (.unOp .not 4 (Tm 24)), Sg 17 25]) (.cond (Tm 17) .skip (R0 [Fa 26 31 2 1, Ld 27 29 26, Lq 28 27 29, Bo 29 .sub 3 (Tm 28) (Kn 1) 3, Fa 30 35 3 1, Ld 31 33 30, Cl 32 71 #[Kn 0, Tm 29, Tm 31] #[3, 3, 33], Oo 33 (.unOp .not 4 (Tm 32)), Sg 17 33]))) (.cond (Tm 17) (.seq (R0 [Sk 4 (Kn 7)]) .ret) .skip))))) (.seq (.seq (R0 [Fa 34 35 3 1, Ld 35 33 34, Lq 36 35 33, Cl 37 130 #[Tm 36] #[3], Lq 38 37 229, Oo 39 (.move (Kn 0))]) (.block 1 (.loop (.seq (R0 [Bo 40 .lss 3 (Tm 39) (Tm 38) 3]) (.seq (.cond (Tm 40) .skip (.exit 1)) (.seq (.block 2 (.seq (R0 [Mv 41 39, Ix 42 229 37 39, Ld 43 123 42, Sg 6 41, Sg 7 43]) (.seq (R1 [Fa 44 31 2 0, Ld 45 28 44, Fa 46 35 3 0, Ld 47 33 46, Mv 48 6, Ix 49 33 47 48, Ld 50 3 49, Ix 51 28 45 50, Fa 52 125 51 0, Ld 53 123 52, Mv 54 7, Bo 55 .neq 123 (Tm 53) (Tm 54) 123]) (.cond (Tm 55) (.seq (R0 [Sk 4 (Kn 2)]) .ret) .skip)))) (R0 [Bo 56 .add 3 (Tm 39) (Kn 1) 3, Mv 39 56]))))))) (.seq (R0 [Sk 4 (Kn 0)]) .ret)))))⟩
theorem sf78 : sfOf Try.f78 = some s78 := by kernel_rfl
theorem hb78 : hasBody Try.prog 78 = true := by kernel_rfl
def s79 : SF := ⟨30, [.cell 4 129], (.seq (R0 [Oo 2 (.box 31 (Tm 0)), Oo 3 (.box 35 (Tm 1)), Oo 4 (.alloc 129)]) (.seq (R0 [Ld 8 35 3, Ld 9 31 2, Oo 10 (.build 129 #[(0, (Tm 8)), (1, (Tm 9)), (2, (Kn 1))]), Oo 5 (.alloc 129), Sr 129 (Tm 5) (Tm 10)]) (.seq (.seq (R0 [Fa 11 35 3 1, Ld 12 33 11, Lq 13 12 33, Oo 14 (.move (Kn 0))]) (.block 0 (.loop (.seq (R0 [Bo 15 .lss 3 (Tm 14) (Tm 13) 3]) (.seq (.cond (Tm 15) .skip (.exit 0)) (.seq (.block 1 (.seq (R0 [Ix 16 33 12 14, Ld 17 3 16, Sg 7 17]) (R1 [Fa 18 129 5 2, Ld 19 3 18, Fa 20 31 2 1, Ld 21 29 20, Mv 22 7, Ix 23 29 21 22, Fa 24 114 23 0, Ld 25 3 24, Bo 26 .mul 3 (Tm 19) (Tm 25) 3, Fa 27 129 5 2, Sr 3 (Tm 27) (Tm 26)]))) (R0 [Bo 28 .add 3 (Tm 14) (Kn 1) 3, Mv 14 28]))))))) (.seq (R0 [Ld 29 129 5, Sr 129 (Tm 4) (Tm 29)]) .ret))))⟩
theorem sf79 : sfOf Try.f79 = some s79 := by kernel_rfl
theorem hb79 : hasBody Try.prog 79 = true := by kernel_rfl
def s80 : SF := ⟨5, [.tmp 2], (.seq (R0 [Oo 1 (.box 38 (Tm 0)), Sk 2 (Kn 0)]) (.seq (R0 [Fa 3 38 1 0, Ld 4 3 3, Sg 2 4]) .ret))⟩
theorem sf80 : sfOf Try.f80 = some s80 := by kernel_rfl
theorem hb80 : hasBody Try.prog 80 = true := by kernel_rfl
def s81 : SF := ⟨5, [.tmp 2], (.seq (R0 [Oo 1 (.box 38 (Tm 0)), Sk 2 (Kn 0)]) (.seq (R0 [Fa 3 38 1 1, Ld 4 3 3, Sg 2 4]) .ret))⟩
theorem sf81 : sfOf Try.f81 = some s81 := by kernel_rfl
theorem hb81 : hasBody Try.prog 81 = true := by kernel_rfl
def s82 : SF := ⟨12, [.tmp 4], (.seq (R0 [Oo 2 (.box 129 (Tm 0)), Oo 3 (.box 189 (Tm 1)), Sk 4 (Kn 0)]) (.seq (R1 [Ld 5 129 2, Oo 6 (.makeFunc (.func 131) #[] #[Tm 3]), Cl 7 122 #[Tm 5, Tm 6] #[129, 223], Fa 8 129 2 2, Ld 9 3 8, Bo 10 .mul 3 (Kn 1000) (Tm 9) 3, Bo 11 .quo 3 (Tm 7) (Tm 10) 3, Sg 4 11]) .ret))⟩
theorem sf82 : sfOf Try.f82 = some s82 := by kernel_rfl
theorem hb82 : hasBody Try.prog 82 = true := by kernel_rfl
def s83 : SF := ⟨54, [.tmp 4], (.seq (R0 [Oo 2 (.box 129 (Tm 0)), Sk 4 (Kn 0)]) (.seq (.seq (R0 [Fa 9 129 2 0, Fa 10 35 9 0, Ld 11 33 10, Lq 12 11 33, Oo 13 (.move (Kn 0))]) (.block 0 (.loop (.seq (R0 [Bo 14 .lss 3 (Tm 13) (Tm 12) 3]) (.seq (.cond (Tm 14) .skip (.exit 0)) (.seq (.block 1 (.seq (R0 [Mv 15 13, Ix 16 33 11 13, Ld 17 3 16, Sg 5 15, Sg 6 17]) (.seq (R0 [Mv 18 5, Bo 19 .rem 3 (Tm 18) (Kn 2) 3, Bo 20 .eql 3 (Tm 19) (Kn 0) 3]) (.cond (Tm 20) (R0 [Mv 21 4, Mv 22 1, Fa 23 129 2 1, Fa 24 31 23 0, Ld 25 28 24, Mv 26 6, Ix 27 28 25 26, Fa 28 125 27 2, Ld 29 38 28, Oo 30 (.call { callee := .value (Tm 22), args := #[Tm 29], argTypes := #[38] }), Bo 31 .add 3 (Tm 21) (Tm 30) 3, Sg 4 31]) .skip)))) (R0 [Bo 32 .add 3 (Tm 13) (Kn 1) 3, Mv 13 32]))))))) (.seq (.seq (R0 [Fa 33 129 2 0, Fa 34 35 33 1, Ld 35 33 34, Lq 36 35 33, Oo 37 (.move (Kn 0))]) (.block 2 (.loop (.seq (R0 [Bo 38 .lss 3 (Tm 37) (Tm 36) 3]) (.seq (.cond (Tm 38) .skip (.exit 2)) (.seq (.block 3 (.seq (R0 [Ix 39 33 35 37, Ld 40 3 39, Sg 8 40]) (R0 [Mv 41 4, Mv 42 1, Fa 43 129 2 1, Fa 44 31 43 1, Ld 45 29 44, Mv 46 8, Ix 47 29 45 46, Fa 48 114 47 2, Ld 49 38 48, Oo 50 (.call { callee := .value (Tm 42), args := #[Tm 49], argTypes := #[38] }), Bo 51 .add 3 (Tm 41) (Tm 50) 3, Sg 4 51]))) (R0 [Bo 52 .add 3 (Tm 37) (Kn 1) 3, Mv 37 52]))))))) (.seq (R0 [Mv 53 4, Sg 4 53]) .ret))))⟩
theorem sf83 : sfOf Try.f83 = some s83 := by kernel_rfl
theorem hb83 : hasBody Try.prog 83 = true := by kernel_rfl
def s84 : SF := ⟨8, [.tmp 2], (.seq (R0 [Oo 1 (.box 129 (Tm 0)), Sk 2 (Kn 0)]) (.seq (R1 [Ld 3 129 1, Cl 4 122 #[Tm 3, .func 132] #[129, 223], Fa 5 129 1 2, Ld 6 3 5, Bo 7 .quo 3 (Tm 4) (Tm 6) 3, Sg 2 7]) .ret))⟩
theorem sf84 : sfOf Try.f84 = some s84 := by kernel_rfl
theorem hb84 : hasBody Try.prog 84 = true := by kernel_rfl
def s85 : SF := ⟨22, [.tmp 6], (.seq (R0 [Oo 3 (.box 38 (Tm 0)), Sk 6 (Kb false)]) (.seq (R0 [Mv 7 1, Mv 8 2, Fa 9 38 3 0, Ld 10 3 9, Fa 11 38 3 1, Ld 12 3 11, Oo 13 (.buildSlice 33 2 #[(0, (Tm 10)), (1, (Tm 12))]), Cl 14 43 #[Tm 7, Tm 8, Tm 13] #[3, 3, 33], Mv 15 14, Gf 16 38 3 0 15 true, Gl 17 3 16 15 true, Gf 18 38 3 1 15 true, Gl 19 3 18 15 true, Gb 20 .leq 3 (Tm 17) (Tm 19) 3 15 true, Pk 21 15 (Tm 20) (Kb false), Sg 6 21]) .ret))⟩
theorem sf85 : sfOf Try.f85 = some s85 := by kernel_rfl
theorem hb85 : hasBody Try.prog 85 = true := by kernel_rfl
def s86 : SF := ⟨6, [.tmp 2], (.seq (R0 [Oo 1 (.box 38 (Tm 0)), Sk 2 (Kb false)]) (.seq (R0 [Ld 3 38 1, Cl 4 85 #[Tm 3, Kn 1, Kn 10000] #[38, 3, 3], Oo 5 (.unOp .not 4 (Tm 4)), Sg 2 5]) .ret))⟩
theorem sf86 : sfOf Try.f86 = some s86 := by kernel_rfl
theorem hb86 : hasBody Try.prog 86 = true := by kernel_rfl
def s87 : SF := ⟨9, [.tmp 4], (.seq (R0 [Sk 4 (Kb false)]) (.seq (R0 [Mv 5 0, Mv 6 1, Cl 7 133 #[Tm 5, Tm 6] #[72, 194], Bo 8 .geq 3 (Tm 7) (Kn 0) 3, Sg 4 8]) .ret))⟩
theorem sf87 : sfOf Try.f87 = some s87 := by kernel_rfl
theorem hb87 : hasBody Try.prog 87 = true := by kernel_rfl
def s88 : SF := ⟨9, [.tmp 4], (.seq (R0 [Sk 4 (Kb false)]) (.seq (R0 [Mv 5 0, Mv 6 1, Cl 7 134 #[Tm 5, Tm 6] #[33, 197], Bo 8 .geq 3 (Tm 7) (Kn 0) 3, Sg 4 8]) .ret))⟩
theorem sf88 : sfOf Try.f88 = some s88 := by kernel_rfl
theorem hb88 : hasBody Try.prog 88 = true := by kernel_rfl
def s89 : SF := ⟨13, [.tmp 4], (.seq (R0 [Sk 4 (Kb false)]) (.seq (R0 [Mv 5 0, Ld 6 3 1, Bo 7 .lss 3 (Tm 5) (Tm 6) 3, Mv 8 7, Gm 9 0 8 false, Gl 10 3 2 8 false, Gb 11 .gtr 3 (Tm 9) (Tm 10) 3 8 false, Pk 12 8 (Kb true) (Tm 11), Sg 4 12]) .ret))⟩
theorem sf89 : sfOf Try.f89 = some s89 := by kernel_rfl
theorem hb89 : hasBody Try.prog 89 = true := by kernel_rfl
def s90 : SF := ⟨6, [.tmp 2], (.seq (R0 [Oo 1 (.box 144 (Tm 0)), Sk 2 (Kn 0)]) (.seq (.seq (R0 [Fa 3 144 1 0, Fa 4 49 3 6, Ld 5 4 4]) (.cond (Tm 5) (.seq (R0 [Sk 2 (Kn 1)]) .ret) .skip)) (.seq (R0 [Sk 2 (Kn 2)]) .ret)))⟩
theorem sf90 : sfOf Try.f90 = some s90 := by kernel_rfl
theorem hb90 : hasBody Try.prog 90 = true := by kernel_rfl
def s91 : SF := ⟨6, [.cell 2 38], (.seq (R0 [Oo 1 (.box 38 (Tm 0)), Oo 2 (.alloc 38)]) (.seq (R0 [Oo 3 (.build 38 #[(0, (Kn 1)), (1, (Kn 3000))]), Ld 4 38 1, Cl 5 48 #[Tm 3, Tm 4] #[38, 38], Sr 38 (Tm 2) (Tm 5)]) .ret))⟩
theorem sf91 : sfOf Try.f91 = some s91 := by kernel_rfl
theorem hb91 : hasBody Try.prog 91 = true := by kernel_rfl
def s92 : SF := ⟨28, [.cell 6 38], (.seq (R0 [Oo 3 (.box 140 (Tm 0)), Oo 4 (.box 38 (Tm 1)), Oo 6 (.alloc 38)]) (.seq (R1 [Fa 7 38 4 0, Ld 8 3 7, Bo 9 .mul 3 (Kn 1000) (Tm 8) 3, Mv 10 2, Fa 11 140 3 1, Fa 12 38 11 1, Ld 13 3 12, Bo 14 .mul 3 (Tm 10) (Tm 13) 3, Bo 15 .add 3 (Tm 9) (Tm 14) 3, Cl 16 95 #[Tm 15, Kn 1000] #[3, 3], Fa 17 38 4 1, Ld 18 3 17, Bo 19 .mul 3 (Kn 1000) (Tm 18) 3, Mv 20 2, Fa 21 140 3 1, Fa 22 38 21 0, Ld 23 3 22, Bo 24 .mul 3 (Tm 20) (Tm 23) 3, Bo 25 .add 3 (Tm 19) (Tm 24) 3, Cl 26 135 #[Tm 25, Kn 1000] #[3, 3], Oo 27 (.build 38 #[(0, (Tm 16)), (1, (Tm 26))]), Sr 38 (Tm 6) (Tm 27)]) .ret))⟩
theorem sf92 : sfOf Try.f92 = some s92 := by kernel_rfl
theorem hb92 : hasBody Try.prog 92 = true := by kernel_rfl
def s93 : SF := ⟨30, [.tmp 6, .tmp 7, .tmp 8], (.seq (R0 [Oo 3 (.box 140 (Tm 0)), Oo 4 (.box 38 (Tm 1)), Oo 5 (.box 38 (Tm 2)), Sk 6 (Kn 0), Sk 7 (Kn 0), Sk 8 (Kb false)]) (.seq (.seq (R0 [Fa 12 38 4 0, Ld 13 3 12, Sg 9 13]) (.block 0 (.loop (.seq (.seq (R0 [Mv 14 9, Fa 15 38 4 1, Ld 16 3 15, Bo 17 .leq 3 (Tm 14) (Tm 16) 3]) (.cond (Tm 17) .skip (.exit 0))) (.seq (.block 1 (.seq (R0 [Ld 21 140 3, Mv 22 9, Ld 23 38 5, Cl 24 136 #[Tm 21, Tm 22, Tm 23] #[140, 3, 38], Mv 20 24, Xt 25 20 0, Xt 26 20 1, Sg 10 25, Sg 11 26]) (.seq (R0 [Mv 27 11]) (.cond (Tm 27) (.seq (R0 [Mv 28 9, Mv 29 10, Sg 6 28, Sg 7 29, Sk 8 (Kb true)]) .ret) .skip)))) (R0 [Mv 18 9, Bo 19 .add 3 (Tm 18) (Kn 1) 3, Sg 9 19])))))) (.seq (R0 [Sk 6 (Kn 0), Sk 7 (Kn 0), Sk 8 (Kb false)]) .ret)))⟩
theorem sf93 : sfOf Try.f93 = some s93 := by kernel_rfl
theorem hb93 : hasBody Try.prog 93 = true := by kernel_rfl
def s94 : SF := ⟨8, [.tmp 2], (.seq (R0 [Oo 1 (.box 38 (Tm 0)), Sk 2 (Kb false)]) (.seq (R0 [Fa 3 38 1 0, Ld 4 3 3, Fa 5 38 1 1, Ld 6 3 5, Bo 7 .gtr 3 (Tm 4) (Tm 6) 3, Sg 2 7]) .ret))⟩
theorem sf94 : sfOf Try.f94 = some s94 := by kernel_rfl
theorem hb94 : hasBody Try.prog 94 = true := by kernel_rfl
def s95 : SF := ⟨10, [.tmp 4], (.seq (R0 [Sk 4 (Kn 0)]) (.seq (R0 [Mv 5 0, Oo 6 (.unOp .neg 3 (Tm 5)), Mv 7 1, Cl 8 135 #[Tm 6, Tm 7] #[3, 3], Oo 9 (.unOp .neg 3 (Tm 8)), Sg 4 9]) .ret))⟩
theorem sf95 : sfOf Try.f95 = some s95 := by kernel_rfl
theorem hb95 : hasBody Try.prog 95 = true := by kernel_rfl
def s96 : SF := ⟨54, [.tmp 2], (.seq (R0 [Oo 1 (.box 144 (Tm 0)), Oo 2 (.assign (.const (.slice none 0 0)))]) (.seq (.seq (R0 [Fa 8 144 1 0, Fa 9 49 8 1, Ld 10 33 9, Lq 11 10 33, Oo 12 (.move (Kn 0))]) (.block 0 (.loop (.seq (R0 [Bo 13 .lss 3 (Tm 12) (Tm 11) 3]) (.seq (.cond (Tm 13) .skip (.exit 0)) (.seq (.block 1 (.seq (R0 [Ix 14 33 10 12, Ld 15 3 14, Sg 4 15]) (R0 [Mv 16 2, Mv 17 4, Oo 18 (.build 206 #[(0, (Tm 17)), (1, (Kn 1))]), Oo 19 (.buildSlice 207 1 #[(0, (Tm 18))]), Oo 20 (.call { callee := .builtin .append, args := #[Tm 16, Tm 19], argTypes := #[207, 207] }), Sg 2 20]))) (R0 [Bo 21 .add 3 (Tm 12) (Kn 1) 3, Mv 12 21]))))))) (.seq (R1 [Mv 22 2, Fa 23 144 1 0, Fa 24 49 23 2, Ld 25 3 24, Ld 26 144 1, Cl 27 90 #[Tm 26] #[144], Oo 28 (.build 206 #[(0, (Tm 25)), (1, (Tm 27))]), Oo 29 (.buildSlice 207 1 #[(0, (Tm 28))]), Oo 30 (.call { callee := .builtin .append, args := #[Tm 22, Tm 29], argTypes := #[207, 207] }), Sg 2 30]) (.seq (.seq (R0 [Fa 31 144 1 0, Fa 32 49 31 3, Ld 33 33 32, Fa 34 144 1 0, Fa 35 49 34 4, Ld 36 33 35, Oo 37 (.build 126 #[(0, (Tm 33)), (1, (Tm 36))]), Oo 38 (.move (Kn 0))]) (.block 2 (.loop (.seq (R0 [Bo 39 .lss 3 (Tm 38) (Kn 2) 3]) (.seq (.cond (Tm 39) .skip (.exit 2)) (.seq (.block 3 (.seq (R0 [Oo 40 (.index 126 (Tm 37) (Tm 38)), Sg 6 40]) (.seq (R0 [Oo 41 (.move (Kn 0))]) (.block 4 (.loop (.seq (R0 [Bo 42 .lss 3 (Tm 41) (Kn 2) 3]) (.seq (.cond (Tm 42) .skip (.exit 4)) (.seq (.block 5 (.seq (R0 [Mv 43 41, Sg 7 43]) (R0 [Mv 44 2, Ld 45 144 1, Mv 46 6, Mv 47 7, Cl 48 137 #[Tm 45, Tm 46, Tm 47] #[144, 33, 3], Oo 49 (.buildSlice 207 1 #[(0, (Tm 48))]), Oo 50 (.call { callee := .builtin .append, args := #[Tm 44, Tm 49], argTypes := #[207, 207] }), Sg 2 50]))) (R0 [Bo 51 .add 3 (Tm 41) (Kn 1) 3, Mv 41 51]))))))))) (R0 [Bo 52 .add 3 (Tm 38) (Kn 1) 3, Mv 38 52]))))))) (.seq (R0 [Mv 53 2, Sg 2 53]) .ret)))))⟩
theorem sf96 : sfOf Try.f96 = some s96 := by kernel_rfl
theorem hb96 : hasBody Try.prog 96 = true := by kernel_rfl
def s97 : SF := ⟨26, [.cell 4 38], (.seq (R0 [Oo 2 (.box 206 (Tm 0)), Oo 3 (.box 38 (Tm 1)), Oo 4 (.alloc 38)]) (.seq (R1 [Cl 5 47 #[] #[], Fa 6 206 2 0, Ld 7 3 6, Fa 8 38 3 1, Ld 9 3 8, Bo 10 .sub 3 (Tm 7) (Tm 9) 3, Bo 11 .mul 3 (Kn 1000) (Tm 10) 3, Fa 12 206 2 1, Ld 13 3 12, Cl 14 95 #[Tm 11, Tm 13] #[3, 3], Fa 15 206 2 0, Ld 16 3 15, Fa 17 38 3 0, Ld 18 3 17, Bo 19 .sub 3 (Tm 16) (Tm 18) 3, Bo 20 .mul 3 (Kn 1000) (Tm 19) 3, Fa 21 206 2 1, Ld 22 3 21, Cl 23 135 #[Tm 20, Tm 22] #[3, 3], Oo 24 (.build 38 #[(0, (Tm 14)), (1, (Tm 23))]), Cl 25 48 #[Tm 5, Tm 24] #[38, 38], Sr 38 (Tm 4) (Tm 25)]) .ret))⟩
theorem sf97 : sfOf Try.f97 = some s97 := by kernel_rfl
theorem hb97 : hasBody Try.prog 97 = true := by kernel_rfl
def s98 : SF := ⟨33, [.cell 4 38], (.seq (R0 [Oo 2 (.box 47 (Tm 0)), Oo 4 (.alloc 38)]) (.seq (.block 0 (.seq (R0 [Mv 6 1, Bo 7 .lss 3 (Tm 6) (Kn 4) 3, Mv 8 7, Gm 9 1 8 true, Gb 10 .rem 3 (Tm 9) (Kn 2) 3 8 true, Gb 11 .eql 3 (Tm 10) (Kn 0) 3 8 true, Pk 12 8 (Tm 11) (Kb false), Sg 5 12]) (.cond (Tm 5) (.seq (R0 [Fa 13 47 2 0, Ld 14 38 13, Sr 38 (Tm 4) (Tm 14)]) .ret) (.seq (R0 [Mv 16 1, Bo 17 .lss 3 (Tm 16) (Kn 4) 3, Sg 15 17]) (.cond (Tm 15) (.seq (R0 [Fa 18 47 2 1, Ld 19 38 18, Sr 38 (Tm 4) (Tm 19)]) .ret) (.seq (R0 [Mv 21 1, Bo 22 .eql 3 (Tm 21) (Kn 4) 3, Sg 20 22]) (.cond (Tm 20) (.seq (R0 [Fa 23 47 2 2, Ld 24 38 23, Sr 38 (Tm 4) (Tm 24)]) .ret) (.seq (R0 [Mv 26 1, Bo 27 .rem 3 (Tm 26) (Kn 2) 3, Bo 28 .eql 3 (Tm 27) (Kn 1) 3, Sg 25 28]) (.cond (Tm 25) (.seq (R0 [Fa 29 47 2 3, Ld 30 38 29, Sr 38 (Tm 4) (Tm 30)]) .ret) .skip))))))))) (.seq (R0 [Fa 31 47 2 4, Ld 32 38 31, Sr 38 (Tm 4) (Tm 32)]) .ret)))⟩
theorem sf98 : sfOf Try.f98 = some s98 := by kernel_rfl
theorem hb98 : hasBody Try.prog 98 = true := by kernel_rfl
def s99 : SF := ⟨8, [.tmp 4], (.seq (R0 [Sk 4 (Kb false)]) (.seq (R0 [Mv 5 0, Mv 6 1, Cl 7 43 #[Tm 5, Kn 3000, Tm 6] #[3, 3, 33], Sg 4 7]) .ret))⟩
theorem sf99 : sfOf Try.f99 = some s99 := by kernel_rfl
theorem hb99 : hasBody Try.prog 99 = true := by kernel_rfl
def s100 : SF := ⟨36, [.tmp 2], (.seq (R0 [Oo 2 (.assign (.const (.slice none 0 0)))]) (.seq (R0 [Sk 3 (Kn 0)]) (.seq (.seq (R0 [Mv 9 0, Lq 10 9 65, Oo 11 (.move (Kn 0))]) (.block 0 (.loop (.seq (R0 [Bo 12 .lss 3 (Tm 11) (Tm 10) 3]) (.seq (.cond (Tm 12) .skip (.exit 0)) (.seq (.block 1 (.seq (R0 [Ix 13 65 9 11, Ld 14 33 13, Sg 5 14]) (.seq (R0 [Mv 15 3, Mv 16 5, Lq 17 16 33, Bo 18 .add 3 (Tm 15) (Tm 17) 3, Sg 3 18]) (.seq (R0 [Mv 19 3, Bo 20 .lss 3 (Tm 19) (Kn 0) 3]) (.cond (Tm 20) (R0 [⟨some 21, .makeInterface 9 (.const (.string ⟨#[108, 101, 110, 32, 111, 117, 116, 32, 111, 102, 32, 114, 97, 110, 103, 101]⟩)), none⟩, ⟨none, .panic (Tm 21), none⟩]) .skip))))) (R0 [Bo 22 .add 3 (Tm 11) (Kn 1) 3, Mv 11 22]))))))) (.seq (R0 [Mv 23 3, Cl 24 138 #[.const (.slice none 0 0), Tm 23] #[33, 3], Sg 6 24]) (.seq (.seq (R0 [Mv 25 0, Lq 26 25 65, Oo 27 (.move (Kn 0))]) (.block 2 (.loop (.seq (R0 [Bo 28 .lss 3 (Tm 27) (Tm 26) 3]) (.seq (.cond (Tm 28) .skip (.exit 2)) (.seq (.block 3 (.seq (R0 [Ix 29 65 25 27, Ld 30 33 29, Sg 8 30]) (R0 [Mv 31 6, Mv 32 8, Oo 33 (.call { callee := .builtin .append, args := #[Tm 31, Tm 32], argTypes := #[33, 33] }), Sg 6 33]))) (R0 [Bo 34 .add 3 (Tm 27) (Kn 1) 3, Mv 27 34]))))))) (.seq (R0 [Mv 35 6, Sg 2 35]) .ret))))))⟩
theorem sf100 : sfOf Try.f100 = some s100 := by kernel_rfl
theorem hb100 : hasBody Try.prog 100 = true := by kernel_rfl
def s121 : SF := ⟨13, [.tmp 4], (.seq (R0 [Sk 4 (Kb false)]) (.seq (R0 [Mv 5 0, Ld 6 3 1, Bo 7 .lss 3 (Tm 5) (Tm 6) 3, Mv 8 7, Gm 9 0 8 false, Gl 10 3 2 8 false, Gb 11 .gtr 3 (Tm 9) (Tm 10) 3 8 false, Pk 12 8 (Kb true) (Tm 11), Sg 4 12]) .ret))⟩
theorem sf121 : sfOf Try.f121 = some s121 := by kernel_rfl
theorem hb121 : hasBody Try.prog 121 = true := by kernel_rfl
def s122 : SF := ⟨24, [.cell 4 3], (.seq (R0 [Oo 2 (.box 129 (Tm 0)), Oo 3 (.box 223 (Tm 1)), Oo 4 (.alloc 3)]) (.seq (.seq (R0 [Ld 7 129 2, Oo 8 (.makeFunc (.func 72) #[Tm 7] #[])]) (.block 0 (.rng (Tm 8) [9, 10] (.seq (R0 [Sg 5 9]) (R0 [Sg 6 10])) (.block 1 (R1 [Ld 11 3 4, Ld 12 223 3, Fa 13 129 2 1, Fa 14 31 13 0, Ld 15 28 14, Mv 16 5, Ix 17 28 15 16, Ld 18 125 17, Oo 19 (.call { callee := .value (Tm 12), args := #[Tm 18], argTypes := #[125] }), Mv 20 6, Bo 21 .mul 3 (Tm 19) (Tm 20) 3, Bo 22 .add 3 (Tm 11) (Tm 21) 3, Sr 3 (Tm 4) (Tm 22)]))))) (.seq (R0 [Ld 23 3 4, Sr 3 (Tm 4) (Tm 23)]) .ret)))⟩
theorem sf122 : sfOf Try.f122 = some s122 := by kernel_rfl
theorem hb122 : hasBody Try.prog 122 = true := by kernel_rfl
def s128 : SF := ⟨28, [.tmp 2], (.seq (R0 [Oo 1 (.box 31 (Tm 0)), Sk 2 (Kn 0)]) (.seq (.block 0 (.seq (.seq (R0 [Fa 4 31 1 0, Ld 5 28 4, Lq 6 5 28, Bo 7 .gtr 3 (Tm 6) (Kn 8) 3, Sg 3 7]) (.cond (Tm 3) .skip (R0 [Fa 8 31 1 1, Ld 9 29 8, Lq 10 9 29, Bo 11 .gtr 3 (Tm 10) (Kn 4) 3, Sg 3 11]))) (.cond (Tm 3) (.seq (R0 [Sk 2 (Kn 5)]) .ret) (.seq (.seq (R0 [Fa 13 31 1 0, Ld 14 28 13, Lq 15 14 28, Bo 16 .eql 3 (Tm 15) (Kn 0) 3, Sg 12 16]) (.cond (Tm 12) .skip (R0 [Fa 17 31 1 1, Ld 18 29 17, Lq 19 18 29, Bo 20 .eql 3 (Tm 19) (Kn 0) 3, Sg 12 20]))) (.cond (Tm 12) (.seq (R0 [Sk 2 (Kn 2)]) .ret) (.seq (.seq (R0 [Fa 22 31 1 0, Ld 23 28 22, Cl 24 154 #[Tm 23, .func 155] #[28, 250], Sg 21 24]) (.cond (Tm 21) .skip (R0 [Fa 25 31 1 1, Ld 26 29 25, Cl 27 157 #[Tm 26, .func 158] #[29, 252], Sg 21 27]))) (.cond (Tm 21) (.seq (R0 [Sk 2 (Kn 2)]) .ret) .skip))))))) (.seq (R0 [Sk 2 (Kn 0)]) .ret)))⟩
theorem sf128 : sfOf Try.f128 = some s128 := by kernel_rfl
theorem hb128 : hasBody Try.prog 128 = true := by kernel_rfl
def s129 : SF := ⟨19, [.tmp 2], (.seq (R0 [Oo 1 (.box 35 (Tm 0)), Sk 2 (Kb false)]) (.seq (R1 [Fa 3 35 1 1, Ld 4 33 3, Lq 5 4 33, Oo 6 (.buildSlice 33 1 #[(0, (Tm 5))]), Cl 7 71 #[Kn 1, Kn 2, Tm 6] #[3, 3, 33], Mv 8 7, Gf 9 35 1 0 8 true, Gl 10 33 9 8 true, Og 11 (.call { callee := .builtin .len, args := #[Tm 10], argTypes := #[33] }) 8 true, Gf 12 35 1 1 8 true, Gl 13 33 12 8 true, Og 14 (.call { callee := .builtin .len, args := #[Tm 13], argTypes := #[33] }) 8 true, Gc 15 130 #[Tm 14] #[3] 8 true, Og 16 (.call { callee := .builtin .len, args := #[Tm 15], argTypes := #[229] }) 8 true, Gb 17 .eql 3 (Tm 11) (Tm 16) 3 8 true, Pk 18 8 (Tm 17) (Kb false), Sg 2 18]) .ret))⟩
theorem sf129 : sfOf Try.f129 = some s129 := by kernel_rfl
theorem hb129 : hasBody Try.prog 129 = true := by kernel_rfl
end Go.Dw.Seat
end
section
namespace Go.Dw.Seat
open Go Go.Dw Go.Proofs
def s130 : SF := ⟨13, [.tmp 2], (.seq (R0 [Oo 2 (.assign (.const (.slice none 0 0)))]) (.seq (R0 [Oo 4 (.buildSlice 229 1 #[(0, (Kn 1))]), Sg 3 4]) (.seq (.seq (R0 [Mv 5 0, Oo 6 (.move (Kn 0))]) (.block 0 (.loop (.seq (R0 [Bo 7 .lss 3 (Tm 6) (Tm 5) 3]) (.seq (.cond (Tm 7) .skip (.exit 0)) (.seq (.block 1 (R0 [Mv 8 3, Oo 9 (.buildSlice 229 2 #[(0, (Kn 2)), (1, (Kn 1))]), Oo 10 (.call { callee := .builtin .append, args := #[Tm 8, Tm 9], argTypes := #[229, 229] }), Sg 3 10])) (R0 [Bo 11 .add 3 (Tm 6) (Kn 1) 3, Mv 6 11]))))))) (.seq (R0 [Mv 12 3, Sg 2 12]) .ret))))⟩
theorem sf130 : sfOf Try.f130 = some s130 := by kernel_rfl
theorem hb130 : hasBody Try.prog 130 = true := by kernel_rfl
def s131 : SF := ⟨12, [.tmp 3], (.seq (R0 [Oo 2 (.box 125 (Tm 0)), Sk 3 (Kn 0)]) (.seq (R1 [Fa 4 125 2 1, Ld 5 3 4, Ld 6 189 1, Fa 7 125 2 3, Ld 8 38 7, Oo 9 (.call { callee := .value (Tm 6), args := #[Tm 8], argTypes := #[38] }), Bo 10 .add 3 (Kn 1000) (Tm 9) 3, Bo 11 .mul 3 (Tm 5) (Tm 10) 3, Sg 3 11]) .ret))⟩
theorem sf131 : sfOf Try.f131 = some s131 := by kernel_rfl
theorem hb131 : hasBody Try.prog 131 = true := by kernel_rfl
def s132 : SF := ⟨5, [.tmp 2], (.seq (R0 [Oo 1 (.box 125 (Tm 0)), Sk 2 (Kn 0)]) (.seq (R0 [Fa 3 125 1 5, Ld 4 3 3, Sg 2 4]) .ret))⟩
theorem sf132 : sfOf Try.f132 = some s132 := by kernel_rfl
theorem hb132 : hasBody Try.prog 132 = true := by kernel_rfl
def s133 : SF := ⟨19, [.tmp 4], (.seq (R0 [Sk 4 (Kn 0)]) (.seq (.seq (R0 [Mv 6 0, Lq 7 6 72, Oo 8 (.move (Kn 0))]) (.block 0 (.loop (.seq (R0 [Bo 9 .lss 3 (Tm 8) (Tm 7) 3]) (.seq (.cond (Tm 9) .skip (.exit 0)) (.seq (.block 1 (.seq (R0 [Mv 10 8, Sg 5 10]) (.seq (R0 [Mv 11 1, Mv 12 0, Mv 13 5, Ix 14 72 12 13, Ld 15 38 14, Oo 16 (.call { callee := .value (Tm 11), args := #[Tm 15], argTypes := #[38] })]) (.cond (Tm 16) (.seq (R0 [Mv 17 5, Sg 4 17]) .ret) .skip)))) (R0 [Bo 18 .add 3 (Tm 8) (Kn 1) 3, Mv 8 18]))))))) (.seq (R0 [Sk 4 (Kn (-1))]) .ret)))⟩
theorem sf133 : sfOf Try.f133 = some s133 := by kernel_rfl
theorem hb133 : hasBody Try.prog 133 = true := by kernel_rfl
def s134 : SF := ⟨19, [.tmp 4], (.seq (R0 [Sk 4 (Kn 0)]) (.seq (.seq (R0 [Mv 6 0, Lq 7 6 33, Oo 8 (.move (Kn 0))]) (.block 0 (.loop (.seq (R0 [Bo 9 .lss 3 (Tm 8) (Tm 7) 3]) (.seq (.cond (Tm 9) .skip (.exit 0)) (.seq (.block 1 (.seq (R0 [Mv 10 8, Sg 5 10]) (.seq (R0 [Mv 11 1, Mv 12 0, Mv 13 5, Ix 14 33 12 13, Ld 15 3 14, Oo 16 (.call { callee := .value (Tm 11), args := #[Tm 15], argTypes := #[3] })]) (.cond (Tm 16) (.seq (R0 [Mv 17 5, Sg 4 17]) .ret) .skip)))) (R0 [Bo 18 .add 3 (Tm 8) (Kn 1) 3, Mv 8 18]))))))) (.seq (R0 [Sk 4 (Kn (-1))]) .ret)))⟩
theorem sf134 : sfOf Try.f134 = some s134 := by kernel_rfl
theorem hb134 : hasBody Try.prog 134 = true := by kernel_rfl
def s135 : SF := ⟨16, [.tmp 4], (.seq (R0 [Sk 4 (Kn 0)]) (.seq (R0 [Mv 6 0, Mv 7 1, Bo 8 .quo 3 (Tm 6) (Tm 7) 3, Sg 5 8]) (.seq (.seq (R0 [Mv 9 0, Mv 10 1, Bo 11 .rem 3 (Tm 9) (Tm 10) 3, Bo 12 .lss 3 (Tm 11) (Kn 0) 3]) (.cond (Tm 12) (R0 [Mv 13 5, Bo 14 .sub 3 (Tm 13) (Kn 1) 3, Sg 5 14]) .skip)) (.seq (R0 [Mv 15 5, Sg 4 15]) .ret))))⟩
theorem sf135 : sfOf Try.f135 = some s135 := by kernel_rfl
theorem hb135 : hasBody Try.prog 135 = true := by kernel_rfl
def s136 : SF := ⟨33, [.tmp 6, .tmp 7], (.seq (R0 [Oo 3 (.box 140 (Tm 0)), Oo 5 (.box 38 (Tm 2)), Sk 6 (Kn 0), Sk 7 (Kb false)]) (.seq (R0 [Ld 10 140 3, Ld 11 38 5, Cl 12 92 #[Tm 10, Tm 11, Kn 1] #[140, 38, 3], Oo 8 (.alloc 38), Sr 38 (Tm 8) (Tm 12)]) (.seq (R1 [Oo 13 (.build 38 #[(0, (Kn 0)), (1, (Kn 3000))]), Mv 14 1, Fa 15 38 8 1, Ld 16 3 15, Bo 17 .sub 3 (Tm 14) (Tm 16) 3, Cl 18 95 #[Tm 17, Kn 2] #[3, 3], Mv 19 1, Fa 20 38 8 0, Ld 21 3 20, Bo 22 .sub 3 (Tm 19) (Tm 21) 3, Cl 23 135 #[Tm 22, Kn 2] #[3, 3], Oo 24 (.build 38 #[(0, (Tm 18)), (1, (Tm 23))]), Cl 25 48 #[Tm 13, Tm 24] #[38, 38], Oo 9 (.alloc 38), Sr 38 (Tm 9) (Tm 25)]) (.seq (R1 [Fa 26 38 9 0, Ld 27 3 26, Fa 28 38 9 0, Ld 29 3 28, Fa 30 38 9 1, Ld 31 3 30, Bo 32 .leq 3 (Tm 29) (Tm 31) 3, Sg 6 27, Sg 7 32]) .ret))))⟩
theorem sf136 : sfOf Try.f136 = some s136 := by kernel_rfl
theorem hb136 : hasBody Try.prog 136 = true := by kernel_rfl
def s137 : SF := ⟨21, [.cell 6 206], (.seq (R0 [Oo 3 (.box 144 (Tm 0)), Oo 6 (.alloc 206)]) (.seq (R1 [Fa 7 144 3 0, Fa 8 49 7 1, Ld 9 33 8, Mv 10 2, Bo 11 .sub 3 (Kn 1) (Tm 10) 3, Ix 12 33 9 11, Ld 13 3 12, Mv 14 1, Mv 15 2, Ix 16 33 14 15, Ld 17 3 16, Bo 18 .mul 3 (Kn 2) (Tm 17) 3, Bo 19 .sub 3 (Tm 13) (Tm 18) 3, Oo 20 (.build 206 #[(0, (Tm 19)), (1, (Kn 1))]), Sr 206 (Tm 6) (Tm 20)]) .ret))⟩
theorem sf137 : sfOf Try.f137 = some s137 := by kernel_rfl
theorem hb137 : hasBody Try.prog 137 = true := by kernel_rfl
theorem hb138 : hasBody Try.prog 138 = true := by kernel_rfl
def s154 : SF := ⟨9, [.tmp 4], (.seq (R0 [Sk 4 (Kb false)]) (.seq (R0 [Mv 5 0, Mv 6 1, Cl 7 169 #[Tm 5, Tm 6] #[28, 250], Bo 8 .geq 3 (Tm 7) (Kn 0) 3, Sg 4 8]) .ret))⟩
theorem sf154 : sfOf Try.f154 = some s154 := by kernel_rfl
theorem hb154 : hasBody Try.prog 154 = true := by kernel_rfl
def s155 : SF := ⟨6, [.tmp 2], (.seq (R0 [Oo 1 (.box 125 (Tm 0)), Sk 2 (Kb false)]) (.seq (R0 [Ld 3 125 1, Cl 4 156 #[Tm 3] #[125], Oo 5 (.unOp .not 4 (Tm 4)), Sg 2 5]) .ret))⟩
theorem sf155 : sfOf Try.f155 = some s155 := by kernel_rfl
theorem hb155 : hasBody Try.prog 155 = true := by kernel_rfl
def s156 : SF := ⟨39, [.tmp 2], (.seq (R0 [Oo 1 (.box 125 (Tm 0)), Sk 2 (Kb false)]) (.seq (R0 [Fa 3 125 1 0, Ld 4 123 3, Bo 5 .eql 123 (Tm 4) (Kn 1) 123, Mv 6 5, Gf 7 125 1 0 6 false, Gl 8 123 7 6 false, Gb 9 .eql 123 (Tm 8) (Kn 2) 123 6 false, Pk 10 6 (Kb true) (Tm 9), Mv 11 10, Gf 12 125 1 1 11 true, Gl 13 3 12 11 true, Og 14 (.buildSlice 33 1 #[(0, (Tm 13))]) 11 true, Gc 15 71 #[Kn 1, Kn 1000, Tm 14] #[3, 3, 33] 11 true, Pk 16 11 (Tm 15) (Kb false), Mv 17 16, Gf 18 125 1 2 17 true, Gl 19 38 18 17 true, Gc 20 170 #[Tm 19, Kn 1, Kn 1000] #[38, 3, 3] 17 true, Pk 21 17 (Tm 20) (Kb false), Mv 22 21, Gf 23 125 1 3 22 true, Gl 24 38 23 22 true, Gc 25 170 #[Tm 24, Kn 0, Kn 200] #[38, 3, 3] 22 true, Pk 26 22 (Tm 25) (Kb false), Mv 27 26, Gf 28 125 1 4 27 true, Gl 29 3 28 27 true, Og 30 (.buildSlice 33 1 #[(0, (Tm 29))]) 27 true, Gc 31 71 #[Kn 0, Kn 1000000, Tm 30] #[3, 3, 33] 27 true, Pk 32 27 (Tm 31) (Kb false), Mv 33 32, Gf 34 125 1 5 33 true, Gl 35 3 34 33 true, Og 36 (.buildSlice 33 1 #[(0, (Tm 35))]) 33 true, Gc 37 71 #[Kn 0, Kn 10000, Tm 36] #[3, 3, 33] 33 true, Pk 38 33 (Tm 37) (Kb false), Sg 2 38]) .ret))⟩
theorem sf156 : sfOf Try.f156 = some s156 := by kernel_rfl
theorem hb156 : hasBody Try.prog 156 = true := by kernel_rfl
def s157 : SF := ⟨9, [.tmp 4], (.seq (R0 [Sk 4 (Kb false)]) (.seq (R0 [Mv 5 0, Mv 6 1, Cl 7 171 #[Tm 5, Tm 6] #[29, 252], Bo 8 .geq 3 (Tm 7) (Kn 0) 3, Sg 4 8]) .ret))⟩
theorem sf157 : sfOf Try.f157 = some s157 := by kernel_rfl
theorem hb157 : hasBody Try.prog 157 = true := by kernel_rfl
def s158 : SF := ⟨6, [.tmp 2], (.seq (R0 [Oo 1 (.box 114 (Tm 0)), Sk 2 (Kb false)]) (.seq (R0 [Ld 3 114 1, Cl 4 159 #[Tm 3] #[114], Oo 5 (.unOp .not 4 (Tm 4)), Sg 2 5]) .ret))⟩
theorem sf158 : sfOf Try.f158 = some s158 := by kernel_rfl
theorem hb158 : hasBody Try.prog 158 = true := by kernel_rfl
def s159 : SF := ⟨23, [.tmp 2], (.seq (R0 [Oo 1 (.box 114 (Tm 0)), Sk 2 (Kb false)]) (.seq (R0 [Fa 3 114 1 0, Ld 4 3 3, Oo 5 (.buildSlice 33 1 #[(0, (Tm 4))]), Cl 6 71 #[Kn 1000, Kn 10000, Tm 5] #[3, 3, 33], Mv 7 6, Gf 8 114 1 0 7 true, Gl 9 3 8 7 true, Gf 10 114 1 0 7 true, Gl 11 3 10 7 true, Gb 12 .mul 3 (Kn 2) (Tm 11) 3 7 true, Gf 13 114 1 1 7 true, Gl 14 3 13 7 true, Og 15 (.buildSlice 33 1 #[(0, (Tm 14))]) 7 true, Gc 16 71 #[Tm 9, Tm 12, Tm 15] #[3, 3, 33] 7 true, Pk 17 7 (Tm 16) (Kb false), Mv 18 17, Gf 19 114 1 2 18 true, Gl 20 38 19 18 true, Gc 21 170 #[Tm 20, Kn 1, Kn 10000] #[38, 3, 3] 18 true, Pk 22 18 (Tm 21) (Kb false), Sg 2 22]) .ret))⟩
theorem sf159 : sfOf Try.f159 = some s159 := by kernel_rfl
theorem hb159 : hasBody Try.prog 159 = true := by kernel_rfl
def s169 : SF := ⟨19, [.tmp 4], (.seq (R0 [Sk 4 (Kn 0)]) (.seq (.seq (R0 [Mv 6 0, Lq 7 6 28, Oo 8 (.move (Kn 0))]) (.block 0 (.loop (.seq (R0 [Bo 9 .lss 3 (Tm 8) (Tm 7) 3]) (.seq (.cond (Tm 9) .skip (.exit 0)) (.seq (.block 1 (.seq (R0 [Mv 10 8, Sg 5 10]) (.seq (R0 [Mv 11 1, Mv 12 0, Mv 13 5, Ix 14 28 12 13, Ld 15 125 14, Oo 16 (.call { callee := .value (Tm 11), args := #[Tm 15], argTypes := #[125] })]) (.cond (Tm 16) (.seq (R0 [Mv 17 5, Sg 4 17]) .ret) .skip)))) (R0 [Bo 18 .add 3 (Tm 8) (Kn 1) 3, Mv 8 18]))))))) (.seq (R0 [Sk 4 (Kn (-1))]) .ret)))⟩
theorem sf169 : sfOf Try.f169 = some s169 := by kernel_rfl
theorem hb169 : hasBody Try.prog 169 = true := by kernel_rfl
def s170 : SF := ⟨22, [.tmp 6], (.seq (R0 [Oo 3 (.box 38 (Tm 0)), Sk 6 (Kb false)]) (.seq (R0 [Mv 7 1, Mv 8 2, Fa 9 38 3 0, Ld 10 3 9, Fa 11 38 3 1, Ld 12 3 11, Oo 13 (.buildSlice 33 2 #[(0, (Tm 10)), (1, (Tm 12))]), Cl 14 71 #[Tm 7, Tm 8, Tm 13] #[3, 3, 33], Mv 15 14, Gf 16 38 3 0 15 true, Gl 17 3 16 15 true, Gf 18 38 3 1 15 true, Gl 19 3 18 15 true, Gb 20 .leq 3 (Tm 17) (Tm 19) 3 15 true, Pk 21 15 (Tm 20) (Kb false), Sg 6 21]) .ret))⟩
theorem sf170 : sfOf Try.f170 = some s170 := by kernel_rfl
theorem hb170 : hasBody Try.prog 170 = true := by kernel_rfl
def s171 : SF := ⟨19, [.tmp 4], (.seq (R0 [Sk 4 (Kn 0)]) (.seq (.seq (R0 [Mv 6 0, Lq 7 6 29, Oo 8 (.move (Kn 0))]) (.block 0 (.loop (.seq (R0 [Bo 9 .lss 3 (Tm 8) (Tm 7) 3]) (.seq (.cond (Tm 9) .skip (.exit 0)) (.seq (.block 1 (.seq (R0 [Mv 10 8, Sg 5 10]) (.seq (R0 [Mv 11 1, Mv 12 0, Mv 13 5, Ix 14 29 12 13, Ld 15 114 14, Oo 16 (.call { callee := .value (Tm 11), args := #[Tm 15], argTypes := #[114] })]) (.cond (Tm 16) (.seq (R0 [Mv 17 5, Sg 4 17]) .ret) .skip)))) (R0 [Bo 18 .add 3 (Tm 8) (Kn 1) 3, Mv 8 18]))))))) (.seq (R0 [Sk 4 (Kn (-1))]) .ret)))⟩
theorem sf171 : sfOf Try.f171 = some s171 := by kernel_rfl
theorem hb171 : hasBody Try.prog 171 = true := by kernel_rfl
end Go.Dw.Seat
end
section
namespace Go.Dw.Seat
open Go Go.Dw Go.Proofs Go.IntWalk
theorem qA : type_of% @DW.seq := @DW.seq
theorem qB : type_of% @DW.block := @DW.block
theorem qC : type_of% @DW.skip := @DW.skip
theorem qD : type_of% @DW.exit := @DW.exit
theorem qE : type_of% @DW.ret := @DW.ret
theorem qF : type_of% @DW.reg := @DW.reg
theorem qG : type_of% @DW.cond_tt := @DW.cond_tt
theorem qH : type_of% @DW.cond_ff := @DW.cond_ff
theorem qI : type_of% @DW.cond := @DW.cond
theorem qJ : type_of% @g_split := @g_split
theorem qK : type_of% @call_c := @call_c
theorem qL : type_of% @DW.dreg := @DW.dreg
theorem qM : type_of% @retS_of := @retS_of
theorem qN : type_of% @bm_box := @bm_box
theorem qO : type_of% @bm_row := @bm_row
theorem qP : type_of% @bk_box := @bk_box
theorem qQ : type_of% @bk_row := @bk_row
theorem qR : type_of% @wkT_cons := @wkT_cons
theorem qS : type_of% @wkX_cons := @wkX_cons
theorem qTw : type_of% @wkT_nil := @wkT_nil
theorem qU : type_of% @wkX_nil := @wkX_nil
theorem qV : type_of% @ex_some := @ex_some
theorem qW : type_of% @wk_self := @wk_self
theorem qX : type_of% @wk_top := @wk_top
theorem qY : type_of% @wk_nil := @wk_nil
theorem qZ : type_of% @wkB_self := @wkB_self
theorem rA : type_of% @Int.natCast_add := @Int.natCast_add
theorem rB : type_of% @Int.natCast_one := @Int.natCast_one
theorem rC : type_of% @Int.ofNat_zero := @Int.ofNat_zero
theorem rD : type_of% @Int.natCast_zero := @Int.natCast_zero
theorem rE : type_of% @IntWalk.i64_in := @IntWalk.i64_in
theorem rF : type_of% @List.map_cons := @List.map_cons
theorem rG : type_of% @List.map_nil := @List.map_nil
end Go.Dw.Seat
end
section
set_option linter.unusedSimpArgs false
namespace Go.Dw.Seat
open Go Go.Dw Go.Proofs Go.IntWalk
structure Cause where
 noz : Int
 kind : Int
 frm : Int
instance : DecidableEq Cause := fun a b => decidable_of_iff (a.noz = b.noz ∧ a.kind = b.kind ∧ a.frm = b.frm) (by cases a; cases b; simp)
def eC (c : Cause) : List C := [.v (.int .i64 c.noz), .v (.int .i64 c.kind), .v (.int .i64 c.frm)]
structure Look where
 box : Int
 noz : Int
 step : Int
 glue : Bool
instance : DecidableEq Look := fun a b => decidable_of_iff (a.box = b.box ∧ a.noz = b.noz ∧ a.step = b.step ∧ a.glue = b.glue) (by cases a; cases b; simp)
def eL (c : Look) : List C := [.v (.int .i64 c.box), .v (.int .i64 c.noz), .v (.int .i64 c.step), .v (.bool c.glue)]
structure Room where
 wl : Int
 wh : Int
 dl : Int
 dh : Int
instance : DecidableEq Room := fun a b => decidable_of_iff (a.wl = b.wl ∧ a.wh = b.wh ∧ a.dl = b.dl ∧ a.dh = b.dh) (by cases a; cases b; simp)
def eR (c : Room) : List C := [.v (.int .i64 c.wl), .v (.int .i64 c.wh), .v (.int .i64 c.dl), .v (.int .i64 c.dh)]
def eSb (b : Bool) (s : List Cause) : List C := [.sl b 3 (rows eC s)]
abbrev eS := eSb false
def eG (s : List Int) : List C := [.sl false 1 (rows eI s)]
structure Plan where
 steps : Int
 noz : List Int
abbrev dP (b : Bool) (p : Plan) : D := .agg [.c (.v (.int .i64 p.steps)), .c (.sl b 1 (rows eI p.noz))]
abbrev dCs (b : Bool) (l : List Cause) : D := .c (.sl b 3 (rows eC l))
abbrev dLs (b : Bool) (l : List Look) : D := .c (.sl b 4 (rows eL l))
abbrev dSs (b : Bool) (l : List (List Cause)) : D := .c (.sl b 1 (rows eS l))
theorem rowC_snocC (l : List Cause) (a b c : Int) : rowC (rows eC l) ++ [[D.c (.v (.int .i64 a)), D.c (.v (.int .i64 b)), D.c (.v (.int .i64 c))]] = rowC (rows eC (l ++ [⟨a, b, c⟩])) := by simp [rowC, rows, eC]
theorem rowC_snocL (l : List Look) (a b c : Int) (d : Bool) : rowC (rows eL l) ++ [[D.c (.v (.int .i64 a)), D.c (.v (.int .i64 b)), D.c (.v (.int .i64 c)), D.c (.v (.bool d))]] = rowC (rows eL (l ++ [⟨a, b, c, d⟩])) := by simp [rowC, rows, eL]
theorem rowC_snocS (l : List (List Cause)) (s : List Cause) : rowC (rows (eSb false) l) ++ [[D.c (.sl false 3 (rows eC s))]] = rowC (rows (eSb false) (l ++ [s])) := by simp [rowC, rows, eSb]
attribute [go_sem] rowC_snocC rowC_snocL rowC_snocS
attribute [go_sem] eC eL eR eS eSb eG dP dCs dLs dSs
end Go.Dw.Seat
end
section
set_option linter.unusedSimpArgs false
namespace Go.Dw.Seat
open Go Go.Dw Go.Proofs Go.IntWalk
theorem c122 (b : Bool) (l : List (Int)) (hl : l.length ≤ 2 ^ 36) (g : FuncId) (fs caps : List C) (p : Int → Bool) (hp : ∀ x ∈ l, DCall Try.prog g (fs.map D.c ++ [dI x] ++ caps.map D.c) [] (bD (p x)) []) : DCall Try.prog 134 [.c (.sl b 1 (rows eI l)), .c (.fn (.func g) fs caps)] [] (dI (idxI p l)) [] := by
 refine DCall.of Try.func134 sf134 hb134 (Nat.le_of_ble_eq_true rfl) (okRes_nil fun _ => rfl) ?_; simp only [s134, idxs, Nat.reduceAdd]
 repeat' (first|(with_reducible first|apply qA|apply qB|apply qC|apply qD|apply qE|apply qF)|(simp (disch:=omega) only [go_sem, simprocAttr, Blk.men, Blk.keysIn])|exact qM rfl rfl rfl|(refine qG rfl ?_)|(refine qH rfl ?_)|(refine qI rfl ?_ ?_<;>intro hc<;>(try simp only [go_sem] at hc))|(refine qJ ?_ ?_<;>intro hc<;>(try simp only [hc])<;>(try simp only [go_sem] at hc)))
 refine DW.loop (ι := { i : Nat // i ≤ l.length ∧ ∀ j u, j < i → l[j]? = some u → p u = false }) (fun i => ⟨19, [(8, dI i.1), (7, dI l.length), (1, .c (.fn (.func g) fs caps)), (0, .c (.sl b 1 (rows eI l)))], []⟩) (fun i => l.length - i.1) ⟨0, Nat.zero_le _, fun j u h => by omega⟩ ?_ ?_
 ·refine Ent.to ?_ ?_ <;> simp (disch:=omega) only [qR,qS,qTw,qU,get,Nat.reduceEqDiff,↓reduceIte,qV,qW,qX,qY,qZ,and_self,dI,i64_in,and_true,true_and,rA,rB,rC,rD]
 rintro ⟨i, hi, hij⟩
 rcases at_or l i hi with ⟨v, hv, hlt, hd⟩ | ⟨he, hd⟩
 ·have hcall := hp v (List.mem_of_getElem? hv)
  repeat' (first|(with_reducible first|apply qA|apply qB|apply qC|apply qD|apply qE|apply qF)|(simp (disch:=omega) only [go_sem, simprocAttr, Blk.men, Blk.keysIn, hd, hv, closeDs_fn, rF, rG])|exact qM rfl rfl rfl|(refine qG rfl ?_)|(refine qH rfl ?_)|(refine qI rfl ?_ ?_<;>intro hc<;>(try simp only [go_sem] at hc))|(refine qJ ?_ ?_<;>intro hc<;>(try simp only [hc])<;>(try simp only [go_sem] at hc)))
  refine call_c hcall (by decide) ?_
  simp (disch:=omega) only [go_sem,simprocAttr,Blk.men,Blk.keysIn]
  refine DW.cond rfl ?_ ?_ <;> intro hc
  ·repeat' (first|(with_reducible first|apply qA|apply qB|apply qC|apply qD|apply qE|apply qF)|(simp (disch:=omega) only [go_sem, simprocAttr, Blk.men, Blk.keysIn])|exact qM rfl rfl rfl|(refine qG rfl ?_)|(refine qH rfl ?_)|(refine qI rfl ?_ ?_<;>intro hc<;>(try simp only [go_sem] at hc))|(refine qJ ?_ ?_<;>intro hc<;>(try simp only [hc])<;>(try simp only [go_sem] at hc)))
   refine retS_of rfl ?_ rfl; simp only [oneD, St.op, get, Nat.reduceEqDiff, ↓reduceIte, Option.getD_some, bD, dI]
   simp only [idxI, idxOf_some hij hv hc]
  ·repeat' (first|(with_reducible first|apply qA|apply qB|apply qC|apply qD|apply qE|apply qF)|(simp (disch:=omega) only [go_sem, simprocAttr, Blk.men, Blk.keysIn])|exact qM rfl rfl rfl|(refine qG rfl ?_)|(refine qH rfl ?_)|(refine qI rfl ?_ ?_<;>intro hc<;>(try simp only [go_sem] at hc))|(refine qJ ?_ ?_<;>intro hc<;>(try simp only [hc])<;>(try simp only [go_sem] at hc)))
   refine ⟨⟨i + 1, by omega, fun j u hj hu => by
    rcases Nat.lt_or_ge j i with h | h
    ·exact hij j u h hu
    ·have : j = i := by omega
     subst this
     rw [hv] at hu; cases hu; exact hc⟩, ?_, Ent.to ?_ ?_⟩ <;> first | (show _ < _; (try simp only); omega) | (simp (disch:=omega) only [qR,qS,qTw,qU,get,Nat.reduceEqDiff,↓reduceIte,qV,qW,qX,qY,qZ,and_self,dI,i64_in,and_true,true_and,rA,rB,rC,rD])
 ·repeat' (first|(with_reducible first|apply qA|apply qB|apply qC|apply qD|apply qE|apply qF)|(simp (disch:=omega) only [go_sem, simprocAttr, Blk.men, Blk.keysIn, hd])|exact qM rfl rfl rfl|(refine qG rfl ?_)|(refine qH rfl ?_)|(refine qI rfl ?_ ?_<;>intro hc<;>(try simp only [go_sem] at hc))|(refine qJ ?_ ?_<;>intro hc<;>(try simp only [hc])<;>(try simp only [go_sem] at hc)))
  refine retS_of rfl ?_ rfl; simp only [oneD, St.op, get, Nat.reduceEqDiff, ↓reduceIte, Option.getD_some, bD, dI]
  simp only [idxI, idxOf_none (he ▸ hij)]
theorem c110 (b : Bool) (l : List (Int)) (hl : l.length ≤ 2 ^ 36) (g : FuncId) (fs caps : List C) (p : Int → Bool) (hp : ∀ x ∈ l, DCall Try.prog g (fs.map D.c ++ [dI x] ++ caps.map D.c) [] (bD (p x)) []) : DCall Try.prog 88 [.c (.sl b 1 (rows eI l)), .c (.fn (.func g) fs caps)] [] (bD (l.any p)) [] := by
 refine DCall.of Try.func88 sf88 hb88 (Nat.le_of_ble_eq_true rfl) (okRes_nil fun _ => rfl) ?_; simp only [s88, idxs, Nat.reduceAdd]
 repeat' (first|(with_reducible first|apply qA|apply qB|apply qC|apply qD|apply qE|apply qF)|(simp (disch:=omega) only [go_sem, simprocAttr, Blk.men, Blk.keysIn])|exact qM rfl rfl rfl|(refine qG rfl ?_)|(refine qH rfl ?_)|(refine qI rfl ?_ ?_<;>intro hc<;>(try simp only [go_sem] at hc))|(refine qJ ?_ ?_<;>intro hc<;>(try simp only [hc])<;>(try simp only [go_sem] at hc)))
 refine call_c (c122 b l hl g fs caps p hp) (by decide) ?_
 repeat' (first|(with_reducible first|apply qA|apply qB|apply qC|apply qD|apply qE|apply qF)|(simp (disch:=omega) only [go_sem, simprocAttr, Blk.men, Blk.keysIn])|exact qM rfl rfl rfl|(refine qG rfl ?_)|(refine qH rfl ?_)|(refine qI rfl ?_ ?_<;>intro hc<;>(try simp only [go_sem] at hc))|(refine qJ ?_ ?_<;>intro hc<;>(try simp only [hc])<;>(try simp only [go_sem] at hc)))
 refine retS_of rfl ?_ rfl; simp only [oneD, St.op, get, Nat.reduceEqDiff, ↓reduceIte, Option.getD_some, bD, dI]
 rw [idxI_any]
end Go.Dw.Seat
end
section
set_option linter.unusedSimpArgs false
set_option maxRecDepth 100000
namespace Go.Dw.Seat
open Go Go.Dw Go.Proofs Go.IntWalk
def wthn (lo hi : Int) (l : List Int) : Bool := !(l.any fun n => decide (n < lo) || decide (hi < n))
end Go.Dw.Seat
end
section
set_option linter.unusedSimpArgs false
set_option maxRecDepth 100000
namespace Go.Dw.Seat
open Go Go.Dw Go.Proofs Go.IntWalk
structure CR where
 tests : Int
 mean : Int
 low : Int
 bad : Int
abbrev dCR (r : CR) : D := .agg [dI r.tests, dI r.mean, dI r.low, dI r.bad]
structure CLot where
 off : Int
 made : Int
 ws : Int
 wb : Int
 bs : Int
 bb : Int
abbrev dLot (r : CR) (l : CLot) : D := .agg [dI r.tests, dI r.mean, dI r.low, dI r.bad, dI l.off, dI l.made, dI l.ws, dI l.wb, dI l.bs, dI l.bb]
attribute [go_sem] dCR dLot
theorem wthn_yes {lo hi : Int} {l : List Int} (h : ∀ v ∈ l, lo ≤ v ∧ v ≤ hi) : wthn lo hi l = true := by
 simp only [wthn, Bool.not_eq_true', List.any_eq_false, Bool.or_eq_true, decide_eq_true_eq]
 intro v hv
 have := h v hv
 omega
def lowT (off x : Int) : Int := if 0 < x - off then x - off else 0
def highT (off x : Int) : Int := if x + off < 100000 then x + off else 100000
def CLot.after (r : CR) (l : CLot) (x : Int) : CLot :=
 ⟨l.off, l.made + 1, l.ws + lowT l.off x, if lowT l.off x < r.low then l.wb + 1 else l.wb, l.bs + highT l.off x, if highT l.off x < r.low then l.bb + 1 else l.bb⟩
structure CLot.ok (l : CLot) : Prop where
 off : 0 ≤ l.off ∧ l.off ≤ 1000
 made : 0 ≤ l.made ∧ l.made ≤ 100
 ws : 0 ≤ l.ws ∧ l.ws ≤ 100000 * l.made
 wb : 0 ≤ l.wb ∧ l.wb ≤ l.made
 bs : 0 ≤ l.bs ∧ l.bs ≤ 100000 * l.made
 bb : 0 ≤ l.bb ∧ l.bb ≤ l.made
end Go.Dw.Seat
end
section
set_option linter.unusedSimpArgs false
set_option maxRecDepth 100000
namespace Go.Dw.Seat
open Go Go.Dw Go.Proofs Go.IntWalk
theorem mulB0 {a b A B : Int} (ha : 0 ≤ a ∧ a ≤ A) (hb : 0 ≤ b ∧ b ≤ B) : 0 ≤ a * b ∧ a * b ≤ A * B := by
 refine ⟨Int.mul_nonneg ha.1 hb.1, ?_⟩
 exact Int.le_trans (Int.mul_le_mul_of_nonneg_right ha.2 hb.1) (Int.mul_le_mul_of_nonneg_left hb.2 (Int.le_trans ha.1 ha.2))
end Go.Dw.Seat
end
section
set_option linter.unusedSimpArgs false
set_option maxRecDepth 100000
namespace Go.Dw.Seat
open Go Go.Dw Go.Proofs Go.IntWalk
theorem bdW1 (n lo hi : Int) (p q : Bool) : DCall Try.prog 121 [dI n, .c (.ro p [.v (.int .i64 lo)] 0), .c (.ro q [.v (.int .i64 hi)] 0)] [] (bD (decide (n < lo) || decide (hi < n))) [] := by
 refine DCall.of Try.func121 sf121 hb121 (Nat.le_of_ble_eq_true rfl) (okRes_nil fun _ => rfl) ?_; simp only [s121, idxs, Nat.reduceAdd]
 repeat' (first|(with_reducible first|apply qA|apply qB|apply qC|apply qD|apply qE|apply qF)|(simp (disch:=omega) only [go_sem, simprocAttr, Blk.men, Blk.keysIn])|exact qM rfl rfl rfl|(refine qG rfl ?_)|(refine qH rfl ?_)|(refine qI rfl ?_ ?_<;>intro hc<;>(try simp only [go_sem] at hc))|(refine qJ ?_ ?_<;>intro hc<;>(try simp only [hc])<;>(try simp only [go_sem] at hc)))
theorem bdWithin (b : Bool) (lo hi : Int) (l : List Int) (hl : l.length ≤ 2 ^ 36) : DCall Try.prog 71 [dI lo, dI hi, dIs b l] [] (bD (wthn lo hi l)) [] := by
 refine DCall.of Try.func71 sf71 hb71 (Nat.le_of_ble_eq_true rfl) (okRes_nil fun _ => rfl) ?_; simp only [s71, idxs, Nat.reduceAdd]
 repeat' (first|(with_reducible first|apply qA|apply qB|apply qC|apply qD|apply qE|apply qF)|(simp (disch:=omega) only [go_sem, simprocAttr, Blk.men, Blk.keysIn])|exact qM rfl rfl rfl|(refine qG rfl ?_)|(refine qH rfl ?_)|(refine qI rfl ?_ ?_<;>intro hc<;>(try simp only [go_sem] at hc))|(refine qJ ?_ ?_<;>intro hc<;>(try simp only [hc])<;>(try simp only [go_sem] at hc)))
 (refine call_c (c110 b l hl 121 [] [.ro true [.v (.int .i64 lo)] 0, .ro true [.v (.int .i64 hi)] 0] (fun n => decide (n < lo) || decide (hi < n)) (fun x _ => bdW1 x lo hi true true)) (by decide) ?_; simp (disch:=omega) only [go_sem,simprocAttr,Blk.men,Blk.keysIn])
 repeat' (first|(with_reducible first|apply qA|apply qB|apply qC|apply qD|apply qE|apply qF)|(simp (disch:=omega) only [go_sem, simprocAttr, Blk.men, Blk.keysIn])|exact qM rfl rfl rfl|(refine qG rfl ?_)|(refine qH rfl ?_)|(refine qI rfl ?_ ?_<;>intro hc<;>(try simp only [go_sem] at hc))|(refine qJ ?_ ?_<;>intro hc<;>(try simp only [hc])<;>(try simp only [go_sem] at hc)))
theorem bdIn (b : Bool) (lo hi : Int) (l : List Int) (hl : l.length ≤ 2 ^ 36) (h : ∀ v ∈ l, lo ≤ v ∧ v ≤ hi) : DCall Try.prog 71 [dI lo, dI hi, dIs b l] [] (bD true) [] := by
 have := bdWithin b lo hi l hl
 rwa [wthn_yes h] at this
structure Pap where
 kind : Int
 weight : Int
 tl : Int
 th : Int
 ml : Int
 mh : Int
 price : Int
 strong : Int
structure Flu where
 pitch : Int
 draw : Int
 hl : Int
 hh : Int
def eP (p : Pap) : List C := [.v (.int .i64 p.kind), .v (.int .i64 p.weight), .v (.int .i64 p.tl), .v (.int .i64 p.th), .v (.int .i64 p.ml), .v (.int .i64 p.mh), .v (.int .i64 p.price), .v (.int .i64 p.strong)]
def eF (f : Flu) : List C := [.v (.int .i64 f.pitch), .v (.int .i64 f.draw), .v (.int .i64 f.hl), .v (.int .i64 f.hh)]
theorem eP_nb (v : Pap) : C.nbs (eP v) = true := rfl
theorem eF_nb (v : Flu) : C.nbs (eF v) = true := rfl
structure Pap.ok (p : Pap) : Prop where
 kind : p.kind = 1 ∨ p.kind = 2
 weight : 1 ≤ p.weight ∧ p.weight ≤ 1000
 thick : 1 ≤ p.tl ∧ p.tl ≤ p.th ∧ p.th ≤ 1000
 moist : 0 ≤ p.ml ∧ p.ml ≤ p.mh ∧ p.mh ≤ 200
 price : 0 ≤ p.price ∧ p.price ≤ 1000000
 strong : 0 ≤ p.strong ∧ p.strong ≤ 10000
structure Flu.ok (f : Flu) : Prop where
 pitch : 1000 ≤ f.pitch ∧ f.pitch ≤ 10000
 draw : f.pitch ≤ f.draw ∧ f.draw ≤ 2 * f.pitch
 high : 1 ≤ f.hl ∧ f.hl ≤ f.hh ∧ f.hh ≤ 10000
structure Sto where
 papers : List Pap
 flutes : List Flu
structure Sto.ok (s : Sto) : Prop where
 np : 1 ≤ s.papers.length ∧ s.papers.length ≤ 8
 nf : 1 ≤ s.flutes.length ∧ s.flutes.length ≤ 4
 papers : ∀ p ∈ s.papers, p.ok
 flutes : ∀ f ∈ s.flutes, f.ok
abbrev dSto (s : Sto) : D := .agg [.c (.sl false 8 (rows eP s.papers)), .c (.sl false 4 (rows eF s.flutes))]
attribute [go_sem] eP eF dSto
theorem bdSpan (lo hi least most : Int) (h : least ≤ lo ∧ lo ≤ hi ∧ hi ≤ most) : DCall Try.prog 170 [.agg [dI lo, dI hi], dI least, dI most] [] (bD true) [] := by
 have h1 := bdIn true least most [lo, hi] (by simp) (by simp; omega)
 have hd : decide (lo ≤ hi) = true := decide_eq_true h.2.1
 refine DCall.of Try.func170 sf170 hb170 (Nat.le_of_ble_eq_true rfl) (okRes_nil fun _ => rfl) ?_; simp only [s170, idxs, Nat.reduceAdd]
 repeat' (first|(with_reducible first|apply qA|apply qB|apply qC|apply qD|apply qE|apply qF)|(simp (disch:=omega) only [go_sem, simprocAttr, Blk.men, Blk.keysIn, hd])|exact qM rfl rfl rfl|(refine qG rfl ?_)|(refine qK (h1) (by decide) ?_)|(refine qH rfl ?_)|(refine qI rfl ?_ ?_<;>intro hc<;>(try simp only [go_sem] at hc))|(refine qJ ?_ ?_<;>intro hc<;>(try simp only [hc])<;>(try simp only [go_sem] at hc)))
theorem bdPaper (p : Pap) (h : p.ok) : DCall Try.prog 156 [.agg ((eP p).map D.c)] [] (bD true) [] := by
 have h1 := bdIn true 1 1000 [p.weight] (by simp) (by simpa using h.weight)
 have h2 := bdSpan p.tl p.th 1 1000 h.thick
 have h3 := bdSpan p.ml p.mh 0 200 h.moist
 have h4 := bdIn true 0 1000000 [p.price] (by simp) (by simpa using h.price)
 have h5 := bdIn true 0 10000 [p.strong] (by simp) (by simpa using h.strong)
 rcases h.kind with hk | hk
 ·refine DCall.of Try.func156 sf156 hb156 (Nat.le_of_ble_eq_true rfl) (okRes_nil fun _ => rfl) ?_; simp only [s156, idxs, Nat.reduceAdd]
  repeat' (first|(with_reducible first|apply qA|apply qB|apply qC|apply qD|apply qE|apply qF)|(simp (disch:=omega) only [go_sem, simprocAttr, Blk.men, Blk.keysIn, rF, rG, hk])|exact qM rfl rfl rfl|(refine qG rfl ?_)|(refine qK (h1) (by decide) ?_)|(refine qK (h2) (by decide) ?_)|(refine qK (h3) (by decide) ?_)|(refine qK (h4) (by decide) ?_)|(refine qK (h5) (by decide) ?_)|(refine qH rfl ?_)|(refine qI rfl ?_ ?_<;>intro hc<;>(try simp only [go_sem] at hc))|(refine qJ ?_ ?_<;>intro hc<;>(try simp only [hc])<;>(try simp only [go_sem] at hc)))
 ·refine DCall.of Try.func156 sf156 hb156 (Nat.le_of_ble_eq_true rfl) (okRes_nil fun _ => rfl) ?_; simp only [s156, idxs, Nat.reduceAdd]
  repeat' (first|(with_reducible first|apply qA|apply qB|apply qC|apply qD|apply qE|apply qF)|(simp (disch:=omega) only [go_sem, simprocAttr, Blk.men, Blk.keysIn, rF, rG, hk])|exact qM rfl rfl rfl|(refine qG rfl ?_)|(refine qK (h1) (by decide) ?_)|(refine qK (h2) (by decide) ?_)|(refine qK (h3) (by decide) ?_)|(refine qK (h4) (by decide) ?_)|(refine qK (h5) (by decide) ?_)|(refine qH rfl ?_)|(refine qI rfl ?_ ?_<;>intro hc<;>(try simp only [go_sem] at hc))|(refine qJ ?_ ?_<;>intro hc<;>(try simp only [hc])<;>(try simp only [go_sem] at hc)))
theorem bdFlute (f : Flu) (h : f.ok) : DCall Try.prog 159 [.agg ((eF f).map D.c)] [] (bD true) [] := by
 have hp := h.pitch
 have h1 := bdIn true 1000 10000 [f.pitch] (by simp) (by simpa using h.pitch)
 have h2 := bdIn true f.pitch (2 * f.pitch) [f.draw] (by simp) (by simpa using h.draw)
 have h3 := bdSpan f.hl f.hh 1 10000 h.high
 refine DCall.of Try.func159 sf159 hb159 (Nat.le_of_ble_eq_true rfl) (okRes_nil fun _ => rfl) ?_; simp only [s159, idxs, Nat.reduceAdd]
 repeat' (first|(with_reducible first|apply qA|apply qB|apply qC|apply qD|apply qE|apply qF)|(simp (disch:=omega) only [go_sem, simprocAttr, Blk.men, Blk.keysIn, rF, rG])|exact qM rfl rfl rfl|(refine qG rfl ?_)|(refine qK (h1) (by decide) ?_)|(refine qK (h2) (by decide) ?_)|(refine qK (h3) (by decide) ?_)|(refine qH rfl ?_)|(refine qI rfl ?_ ?_<;>intro hc<;>(try simp only [go_sem] at hc))|(refine qJ ?_ ?_<;>intro hc<;>(try simp only [hc])<;>(try simp only [go_sem] at hc)))
theorem bdP1 (p : Pap) (h : p.ok) : DCall Try.prog 155 [.agg ((eP p).map D.c)] [] (bD false) [] := by
 have h1 := bdPaper p h
 refine DCall.of Try.func155 sf155 hb155 (Nat.le_of_ble_eq_true rfl) (okRes_nil fun _ => rfl) ?_; simp only [s155, idxs, Nat.reduceAdd]
 repeat' (first|(with_reducible first|apply qA|apply qB|apply qC|apply qD|apply qE|apply qF)|(simp (disch:=omega) only [go_sem, simprocAttr, Blk.men, Blk.keysIn, rF, rG])|exact qM rfl rfl rfl|(refine qG rfl ?_)|(refine qK (h1) (by decide) ?_)|(refine qH rfl ?_)|(refine qI rfl ?_ ?_<;>intro hc<;>(try simp only [go_sem] at hc))|(refine qJ ?_ ?_<;>intro hc<;>(try simp only [hc])<;>(try simp only [go_sem] at hc)))
theorem bdF1 (f : Flu) (h : f.ok) : DCall Try.prog 158 [.agg ((eF f).map D.c)] [] (bD false) [] := by
 have h1 := bdFlute f h
 refine DCall.of Try.func158 sf158 hb158 (Nat.le_of_ble_eq_true rfl) (okRes_nil fun _ => rfl) ?_; simp only [s158, idxs, Nat.reduceAdd]
 repeat' (first|(with_reducible first|apply qA|apply qB|apply qC|apply qD|apply qE|apply qF)|(simp (disch:=omega) only [go_sem, simprocAttr, Blk.men, Blk.keysIn, rF, rG])|exact qM rfl rfl rfl|(refine qG rfl ?_)|(refine qK (h1) (by decide) ?_)|(refine qH rfl ?_)|(refine qI rfl ?_ ?_<;>intro hc<;>(try simp only [go_sem] at hc))|(refine qJ ?_ ?_<;>intro hc<;>(try simp only [hc])<;>(try simp only [go_sem] at hc)))
theorem bdPIdx (b : Bool) (l : List Pap) (hl : l.length ≤ 2 ^ 36) (g : FuncId) (hp : ∀ x ∈ l, DCall Try.prog g [.agg ((eP x).map D.c)] [] (bD false) []) : DCall Try.prog 169 [.c (.sl b 8 (rows eP l)), .c (.fn (.func g) [] [])] [] (dI (-1)) [] := by
 refine DCall.of Try.func169 sf169 hb169 (Nat.le_of_ble_eq_true rfl) (okRes_nil fun _ => rfl) ?_; simp only [s169, idxs, Nat.reduceAdd]
 repeat' (first|(with_reducible first|apply qA|apply qB|apply qC|apply qD|apply qE|apply qF)|(simp (disch:=omega) only [go_sem, simprocAttr, Blk.men, Blk.keysIn])|exact qM rfl rfl rfl|(refine qG rfl ?_)|(refine qH rfl ?_)|(refine qI rfl ?_ ?_<;>intro hc<;>(try simp only [go_sem] at hc))|(refine qJ ?_ ?_<;>intro hc<;>(try simp only [hc])<;>(try simp only [go_sem] at hc)))
 refine DW.loop (ι := { i : Nat // i ≤ l.length }) (fun i => ⟨19, [(8, dI i.1), (7, dI l.length), (1, .c (.fn (.func g) [] [])), (0, .c (.sl b 8 (rows eP l)))], []⟩) (fun i => l.length - i.1) ⟨0, Nat.zero_le _⟩ ?_ ?_
 ·refine Ent.to ?_ ?_ <;> simp (disch:=omega) only [qR,qS,qTw,qU,get,Nat.reduceEqDiff,↓reduceIte,qV,qW,qX,qY,qZ,and_self,dI,i64_in,and_true,true_and,rA,rB,rC,rD]
 rintro ⟨i, hi⟩
 rcases at_or l i hi with ⟨v, hv, hlt, hd⟩ | ⟨he, hd⟩
 ·have hcall := hp v (List.mem_of_getElem? hv)
  repeat' (first|(with_reducible first|apply qA|apply qB|apply qC|apply qD|apply qE|apply qF)|(simp (disch:=omega) only [go_sem, simprocAttr, Blk.men, Blk.keysIn, hd, hv, closeDs_fn, rF, rG])|exact qM rfl rfl rfl|(refine qG rfl ?_)|(refine qH rfl ?_)|(refine qI rfl ?_ ?_<;>intro hc<;>(try simp only [go_sem] at hc))|(refine qJ ?_ ?_<;>intro hc<;>(try simp only [hc])<;>(try simp only [go_sem] at hc)))
  refine call_c hcall (by decide) ?_
  simp (disch:=omega) only [go_sem,simprocAttr,Blk.men,Blk.keysIn]
  repeat' (first|(with_reducible first|apply qA|apply qB|apply qC|apply qD|apply qE|apply qF)|(simp (disch:=omega) only [go_sem, simprocAttr, Blk.men, Blk.keysIn])|exact qM rfl rfl rfl|(refine qG rfl ?_)|(refine qH rfl ?_)|(refine qI rfl ?_ ?_<;>intro hc<;>(try simp only [go_sem] at hc))|(refine qJ ?_ ?_<;>intro hc<;>(try simp only [hc])<;>(try simp only [go_sem] at hc)))
  refine ⟨⟨i + 1, hlt⟩, ?_, Ent.to ?_ ?_⟩ <;> first | (show _ < _; (try simp only); omega) | (simp (disch:=omega) only [qR,qS,qTw,qU,get,Nat.reduceEqDiff,↓reduceIte,qV,qW,qX,qY,qZ,and_self,dI,i64_in,and_true,true_and,rA,rB,rC,rD])
 ·repeat' (first|(with_reducible first|apply qA|apply qB|apply qC|apply qD|apply qE|apply qF)|(simp (disch:=omega) only [go_sem, simprocAttr, Blk.men, Blk.keysIn, hd])|exact qM rfl rfl rfl|(refine qG rfl ?_)|(refine qH rfl ?_)|(refine qI rfl ?_ ?_<;>intro hc<;>(try simp only [go_sem] at hc))|(refine qJ ?_ ?_<;>intro hc<;>(try simp only [hc])<;>(try simp only [go_sem] at hc)))
theorem bdPCon (b : Bool) (l : List Pap) (hl : l.length ≤ 2 ^ 36) (g : FuncId) (hp : ∀ x ∈ l, DCall Try.prog g [.agg ((eP x).map D.c)] [] (bD false) []) : DCall Try.prog 154 [.c (.sl b 8 (rows eP l)), .c (.fn (.func g) [] [])] [] (bD false) [] := by
 refine DCall.of Try.func154 sf154 hb154 (Nat.le_of_ble_eq_true rfl) (okRes_nil fun _ => rfl) ?_; simp only [s154, idxs, Nat.reduceAdd]
 repeat' (first|(with_reducible first|apply qA|apply qB|apply qC|apply qD|apply qE|apply qF)|(simp (disch:=omega) only [go_sem, simprocAttr, Blk.men, Blk.keysIn])|exact qM rfl rfl rfl|(refine qG rfl ?_)|(refine qH rfl ?_)|(refine qI rfl ?_ ?_<;>intro hc<;>(try simp only [go_sem] at hc))|(refine qJ ?_ ?_<;>intro hc<;>(try simp only [hc])<;>(try simp only [go_sem] at hc)))
 (refine call_c (bdPIdx b l hl g hp) (by decide) ?_; simp (disch:=omega) only [go_sem,simprocAttr,Blk.men,Blk.keysIn])
 repeat' (first|(with_reducible first|apply qA|apply qB|apply qC|apply qD|apply qE|apply qF)|(simp (disch:=omega) only [go_sem, simprocAttr, Blk.men, Blk.keysIn])|exact qM rfl rfl rfl|(refine qG rfl ?_)|(refine qH rfl ?_)|(refine qI rfl ?_ ?_<;>intro hc<;>(try simp only [go_sem] at hc))|(refine qJ ?_ ?_<;>intro hc<;>(try simp only [hc])<;>(try simp only [go_sem] at hc)))
theorem bdFIdx (b : Bool) (l : List Flu) (hl : l.length ≤ 2 ^ 36) (g : FuncId) (hp : ∀ x ∈ l, DCall Try.prog g [.agg ((eF x).map D.c)] [] (bD false) []) : DCall Try.prog 171 [.c (.sl b 4 (rows eF l)), .c (.fn (.func g) [] [])] [] (dI (-1)) [] := by
 refine DCall.of Try.func171 sf171 hb171 (Nat.le_of_ble_eq_true rfl) (okRes_nil fun _ => rfl) ?_; simp only [s171, idxs, Nat.reduceAdd]
 repeat' (first|(with_reducible first|apply qA|apply qB|apply qC|apply qD|apply qE|apply qF)|(simp (disch:=omega) only [go_sem, simprocAttr, Blk.men, Blk.keysIn])|exact qM rfl rfl rfl|(refine qG rfl ?_)|(refine qH rfl ?_)|(refine qI rfl ?_ ?_<;>intro hc<;>(try simp only [go_sem] at hc))|(refine qJ ?_ ?_<;>intro hc<;>(try simp only [hc])<;>(try simp only [go_sem] at hc)))
 refine DW.loop (ι := { i : Nat // i ≤ l.length }) (fun i => ⟨19, [(8, dI i.1), (7, dI l.length), (1, .c (.fn (.func g) [] [])), (0, .c (.sl b 4 (rows eF l)))], []⟩) (fun i => l.length - i.1) ⟨0, Nat.zero_le _⟩ ?_ ?_
 ·refine Ent.to ?_ ?_ <;> simp (disch:=omega) only [qR,qS,qTw,qU,get,Nat.reduceEqDiff,↓reduceIte,qV,qW,qX,qY,qZ,and_self,dI,i64_in,and_true,true_and,rA,rB,rC,rD]
 rintro ⟨i, hi⟩
 rcases at_or l i hi with ⟨v, hv, hlt, hd⟩ | ⟨he, hd⟩
 ·have hcall := hp v (List.mem_of_getElem? hv)
  repeat' (first|(with_reducible first|apply qA|apply qB|apply qC|apply qD|apply qE|apply qF)|(simp (disch:=omega) only [go_sem, simprocAttr, Blk.men, Blk.keysIn, hd, hv, closeDs_fn, rF, rG])|exact qM rfl rfl rfl|(refine qG rfl ?_)|(refine qH rfl ?_)|(refine qI rfl ?_ ?_<;>intro hc<;>(try simp only [go_sem] at hc))|(refine qJ ?_ ?_<;>intro hc<;>(try simp only [hc])<;>(try simp only [go_sem] at hc)))
  refine call_c hcall (by decide) ?_
  simp (disch:=omega) only [go_sem,simprocAttr,Blk.men,Blk.keysIn]
  repeat' (first|(with_reducible first|apply qA|apply qB|apply qC|apply qD|apply qE|apply qF)|(simp (disch:=omega) only [go_sem, simprocAttr, Blk.men, Blk.keysIn])|exact qM rfl rfl rfl|(refine qG rfl ?_)|(refine qH rfl ?_)|(refine qI rfl ?_ ?_<;>intro hc<;>(try simp only [go_sem] at hc))|(refine qJ ?_ ?_<;>intro hc<;>(try simp only [hc])<;>(try simp only [go_sem] at hc)))
  refine ⟨⟨i + 1, hlt⟩, ?_, Ent.to ?_ ?_⟩ <;> first | (show _ < _; (try simp only); omega) | (simp (disch:=omega) only [qR,qS,qTw,qU,get,Nat.reduceEqDiff,↓reduceIte,qV,qW,qX,qY,qZ,and_self,dI,i64_in,and_true,true_and,rA,rB,rC,rD])
 ·repeat' (first|(with_reducible first|apply qA|apply qB|apply qC|apply qD|apply qE|apply qF)|(simp (disch:=omega) only [go_sem, simprocAttr, Blk.men, Blk.keysIn, hd])|exact qM rfl rfl rfl|(refine qG rfl ?_)|(refine qH rfl ?_)|(refine qI rfl ?_ ?_<;>intro hc<;>(try simp only [go_sem] at hc))|(refine qJ ?_ ?_<;>intro hc<;>(try simp only [hc])<;>(try simp only [go_sem] at hc)))
theorem bdFCon (b : Bool) (l : List Flu) (hl : l.length ≤ 2 ^ 36) (g : FuncId) (hp : ∀ x ∈ l, DCall Try.prog g [.agg ((eF x).map D.c)] [] (bD false) []) : DCall Try.prog 157 [.c (.sl b 4 (rows eF l)), .c (.fn (.func g) [] [])] [] (bD false) [] := by
 refine DCall.of Try.func157 sf157 hb157 (Nat.le_of_ble_eq_true rfl) (okRes_nil fun _ => rfl) ?_; simp only [s157, idxs, Nat.reduceAdd]
 repeat' (first|(with_reducible first|apply qA|apply qB|apply qC|apply qD|apply qE|apply qF)|(simp (disch:=omega) only [go_sem, simprocAttr, Blk.men, Blk.keysIn])|exact qM rfl rfl rfl|(refine qG rfl ?_)|(refine qH rfl ?_)|(refine qI rfl ?_ ?_<;>intro hc<;>(try simp only [go_sem] at hc))|(refine qJ ?_ ?_<;>intro hc<;>(try simp only [hc])<;>(try simp only [go_sem] at hc)))
 (refine call_c (bdFIdx b l hl g hp) (by decide) ?_; simp (disch:=omega) only [go_sem,simprocAttr,Blk.men,Blk.keysIn])
 repeat' (first|(with_reducible first|apply qA|apply qB|apply qC|apply qD|apply qE|apply qF)|(simp (disch:=omega) only [go_sem, simprocAttr, Blk.men, Blk.keysIn])|exact qM rfl rfl rfl|(refine qG rfl ?_)|(refine qH rfl ?_)|(refine qI rfl ?_ ?_<;>intro hc<;>(try simp only [go_sem] at hc))|(refine qJ ?_ ?_<;>intro hc<;>(try simp only [hc])<;>(try simp only [go_sem] at hc)))
theorem bdCheck (s : Sto) (h : s.ok) : DCall Try.prog 128 [dSto s] [] (dI 0) [] := by
 have hp := h.np
 have hf := h.nf
 have h1 := bdPCon false s.papers (by omega) 155 (fun p hp => bdP1 p (h.papers p hp))
 have h2 := bdFCon false s.flutes (by omega) 158 (fun f hf => bdF1 f (h.flutes f hf))
 have d1 : decide ((8 : Int) < (s.papers.length : Int)) = false := by rw [decide_eq_false_iff_not]; omega
 have d2 : decide ((4 : Int) < (s.flutes.length : Int)) = false := by rw [decide_eq_false_iff_not]; omega
 have d3 : ((s.papers.length : Int) == 0) = false := by rw [beq_eq_false_iff_ne]; omega
 have d4 : ((s.flutes.length : Int) == 0) = false := by rw [beq_eq_false_iff_ne]; omega
 refine DCall.of Try.func128 sf128 hb128 (Nat.le_of_ble_eq_true rfl) (okRes_nil fun _ => rfl) ?_; simp only [s128, idxs, Nat.reduceAdd]
 repeat' (first|(with_reducible first|apply qA|apply qB|apply qC|apply qD|apply qE|apply qF)|(simp (disch:=omega) only [go_sem, simprocAttr, Blk.men, Blk.keysIn, d1, d2, d3, d4])|exact qM rfl rfl rfl|(refine qG rfl ?_)|(refine qK (h1) (by decide) ?_)|(refine qK (h2) (by decide) ?_)|(refine qH rfl ?_)|(refine qI rfl ?_ ?_<;>intro hc<;>(try simp only [go_sem] at hc))|(refine qJ ?_ ?_<;>intro hc<;>(try simp only [hc])<;>(try simp only [go_sem] at hc)))
structure Mak where
 papers : List Nat
 flutes : List Nat
abbrev dMak (m : Mak) : D := .agg [.c (.sl false 1 (rows eI (nL m.papers))), .c (.sl false 1 (rows eI (nL m.flutes)))]
attribute [go_sem] dMak
structure Mak.ok (m : Mak) (s : Sto) : Prop where
 nf : 1 ≤ m.flutes.length ∧ m.flutes.length ≤ 2
 np : m.papers.length = 2 * m.flutes.length + 1
 papers : ∀ n ∈ m.papers, n < s.papers.length
 flutes : ∀ n ∈ m.flutes, n < s.flutes.length
 kind : ∀ (i n : Nat) (p : Pap), m.papers[i]? = some n → s.papers[n]? = some p → p.kind = if i % 2 = 0 then 1 else 2
def kindsL : Nat → List Int
 | 0 => [1]
 | n + 1 => kindsL n ++ [2, 1]
theorem kindsL_len : ∀ n, (kindsL n).length = 2 * n + 1
 | 0 => rfl
 | n + 1 => by rw [kindsL, List.length_append, kindsL_len n]; simp; omega
theorem kindsL_get : ∀ n i, i < 2 * n + 1 → (kindsL n)[i]? = some (if i % 2 = 0 then 1 else 2)
 | 0, i, h => by
  obtain rfl : i = 0 := by omega
  rfl
 | n + 1, i, h => by
  rw [kindsL]
  rcases Nat.lt_or_ge i (2 * n + 1) with h1 | h1
  ·rw [List.getElem?_append_left (by rw [kindsL_len]; omega)]
   exact kindsL_get n i h1
  ·rw [List.getElem?_append_right (by rw [kindsL_len]; omega), kindsL_len]
   rcases (by omega : i = 2 * n + 1 ∨ i = 2 * n + 2) with rfl | rfl
   ·rw [if_neg (by omega)]; simp
   ·rw [if_pos (by omega)]; simp
theorem snoc2 (l : List Int) (a b : Int) : rowC (rows eI l) ++ [[D.c (.v (.int .i64 a))], [D.c (.v (.int .i64 b))]] = rowC (rows eI (l ++ [a, b])) := by simp [rowC, rows, eI]
theorem bdKinds (n : Nat) (hn : n ≤ 1000) : DCall Try.prog 130 [dI n] [] (dIs false (kindsL n)) [] := by
 refine DCall.of Try.func130 sf130 hb130 (Nat.le_of_ble_eq_true rfl) (okRes_nil fun _ => rfl) ?_; simp only [s130, idxs, Nat.reduceAdd]
 repeat' (first|(with_reducible first|apply qA|apply qB|apply qC|apply qD|apply qE|apply qF)|(simp (disch:=omega) only [go_sem, simprocAttr, Blk.men, Blk.keysIn])|exact qM rfl rfl rfl|(refine qG rfl ?_)|(refine qH rfl ?_)|(refine qI rfl ?_ ?_<;>intro hc<;>(try simp only [go_sem] at hc))|(refine qJ ?_ ?_<;>intro hc<;>(try simp only [hc])<;>(try simp only [go_sem] at hc)))
 refine DW.loop (ι := { i : Nat // i ≤ n }) (fun i => ⟨13, [(6, dI i.1), (5, dI n), (3, .own 4)], [(4, .row 1 (rowC (rows eI (kindsL i.1))))]⟩) (fun i => n - i.1) ⟨0, Nat.zero_le _⟩ ?_ ?_
 ·refine Ent.to ?_ ?_ <;> simp (disch:=omega) only [qR,qS,qTw,qU,get,Nat.reduceEqDiff,↓reduceIte,qV,qW,qX,qY,qZ,and_self,dI,i64_in,and_true,true_and,rA,rB,rC,rD]
  exact .refl _
 rintro ⟨i, hi⟩
 rcases Nat.lt_or_ge i n with hlt | hge
 ·have hd : decide ((i : Int) < (n : Int)) = true := by rw [decide_eq_true_eq]; omega
  have hl := kindsL_len i
  have hs : kindsL (i + 1) = kindsL i ++ [2, 1] := rfl
  generalize kindsL i = k at *
  repeat' (first|(with_reducible first|apply qA|apply qB|apply qC|apply qD|apply qE|apply qF)|(simp (disch:=omega) only [go_sem, simprocAttr, Blk.men, Blk.keysIn, hd, snoc2])|exact qM rfl rfl rfl|(refine qG rfl ?_)|(refine qH rfl ?_)|(refine qI rfl ?_ ?_<;>intro hc<;>(try simp only [go_sem] at hc))|(refine qJ ?_ ?_<;>intro hc<;>(try simp only [hc])<;>(try simp only [go_sem] at hc)))
  refine ⟨⟨i + 1, hlt⟩, ?_, Ent.to ?_ ?_⟩ <;> first | (show _ < _; (try simp only); omega) | (simp (disch:=omega) only [qR,qS,qTw,qU,get,Nat.reduceEqDiff,↓reduceIte,qV,qW,qX,qY,qZ,and_self,dI,i64_in,and_true,true_and,rA,rB,rC,rD, hs])
  all_goals exact .refl _
 ·obtain rfl : i = n := by omega
  have hd : decide ((i : Int) < (i : Int)) = false := by rw [decide_eq_false_iff_not]; omega
  repeat' (first|(with_reducible first|apply qA|apply qB|apply qC|apply qD|apply qE|apply qF)|(simp (disch:=omega) only [go_sem, simprocAttr, Blk.men, Blk.keysIn, hd])|exact qM rfl rfl rfl|(refine qG rfl ?_)|(refine qH rfl ?_)|(refine qI rfl ?_ ?_<;>intro hc<;>(try simp only [go_sem] at hc))|(refine qJ ?_ ?_<;>intro hc<;>(try simp only [hc])<;>(try simp only [go_sem] at hc)))
  (refine retS_ent (Ent.rel 4 rfl) ?_; simp (disch:=omega) only [go_sem,simprocAttr,Blk.men,Blk.keysIn])
  refine retS_wk rfl ?_ (by simp only [Blk.nb, rowC_nb, D.nb, D.nbs, C.nb, C.nbs, C.nbss, rows_nb eI_nb, Bool.and_true, Bool.not_false, Bool.and_self, bD, dI, iD, rows_nb eP_nb, rows_nb eF_nb]); exact .refl _
end Go.Dw.Seat
end
section
set_option linter.unusedSimpArgs false
set_option maxRecDepth 100000
namespace Go.Dw.Seat
open Go Go.Dw Go.Proofs Go.IntWalk
def GrowC : Prop := ∀ n k : Nat, 1 ≤ n ∧ n ≤ 68719476736 → DCall Try.prog 138 [.c (.v (.slice none 0 0)), dI n] [] (.own k) [(k, .row 1 [])]
end Go.Dw.Seat
end
section
set_option linter.unusedSimpArgs false
set_option maxRecDepth 100000
namespace Go.Dw.Seat
open Go Go.Dw Go.Proofs Go.IntWalk Go.Shelf
shelf_lay_g Lays8.n4 Nm8 4 at Try 138 as tryGrow
theorem grow_t : tryGrow_ren.t 25 = 3 := by kernel_rfl
theorem grow_f : tryGrow_ren.f 4 = 138 := by kernel_rfl
theorem grow_i : (Try.prog.info? 3).map (fun i => (i.size, i.zero, i.bytes)) = some (1, some (.int .i64 0), 8) := by kernel_rfl
theorem grow_call (n : Nat) (hn : 1 ≤ n ∧ n ≤ 68719476736) (w : World) : ∃ c cells, Calls Try.prog 138 #[.slice none 0 0, .int .i64 n] w fun e w' => e = .returned (.slice (some ⟨w.heap.size, 0, none⟩) 0 c) ∧ w' = w.drew.alloc (.cells cells 3) ∧ cells.size = c := by
 cases hi : Try.prog.info? 3 with
 | none => have h := grow_i; rw [hi] at h; cases h
 | some i0 =>
  have h := grow_i
  rw [hi] at h
  simp only [Option.map_some, Option.some.injEq, Prod.mk.injEq] at h
  obtain ⟨h1, h2, h3⟩ := h
  have hi' : Try.prog.info? (tryGrow_ren.t 25) = some i0 := by rw [grow_t]; exact hi
  have hc := Any8.slices_Grow_grow tryGrow i0 (.int .i64 0) hi' h2 (by omega) none 0 0 n [] w (Nat.le_refl _) (by omega) (by rw [h3]; omega) (by omega) (by rw [Nat.zero_mul]; rfl) (fun _ => rfl) (fun a ha => by cases ha)
  rw [grow_f, grow_t] at hc
  have hg := grownCap_ge w (0 + n) 0 3
  refine ⟨_, _, Calls.mono hc fun e w' he => ⟨he.1, he.2, ?_⟩⟩
  rw [Nat.zero_add] at hg ⊢
  simp [Builtin.zeroCells, Value.cells]
  omega
theorem get_one (k : Nat) (x : Blk) (j : Nat) : Go.Dw.get j [(k, x)] = if j = k then some x else none := by
 simp only [Go.Dw.get]
theorem scGrow : GrowC := by
 intro n k hn
 refine ⟨hb138, ?_, fun N G w vs hN hd hh hvs => ?_⟩
 ·refine ⟨fun j hj => ?_, fun j x hx i hi => ?_⟩
  ·rw [get_one] at hj
   show (k == j) = false
   split at hj
   ·cases hj
   ·simp; omega
  ·rw [get_one] at hx
   split at hx
   ·cases hx; rfl
   ·cases hx
 ·obtain ⟨_, _, rfl, e1, _, _, rfl, e2, rfl⟩ := hvs
  obtain ⟨rfl, -⟩ := e1
  obtain ⟨rfl, -⟩ := e2
  obtain ⟨c, cells, hc⟩ := grow_call n hn w
  refine Calls.mono hc ?_
  rintro e w' ⟨rfl, rfl, hs⟩
  refine ⟨G.set k (some w.heap.size) (.slice (some ⟨w.heap.size, 0, none⟩) 0 c), _, rfl, ⟨?_, ?_, ?_, ?_⟩, ?_, ?_, ?_⟩
  ·intro j x hx
   rw [get_one] at hx
   split at hx
   ·rename_i h
    subst h
    cases hx
    refine ⟨fun e he => (by cases he), .inr ⟨w.heap.size, cells, 3, c, by simp [Gh.set], ?_, by simp [Gh.set], Nat.zero_le _, by omega, ?_⟩⟩
    ·exact heap_alloc_new w.drew _
    ·simp [RepDs]
   ·cases hx
  ·intro j j' x x' b h1 h2 _ _
   rw [get_one] at h1 h2
   split at h1 <;> split at h2 <;> simp_all
  ·rintro b ⟨j, x, hx, hb⟩
   rw [get_one] at hx
   split at hx
   ·rename_i h
    subst h
    simp only [Gh.set, if_true, Option.some.injEq] at hb
    subst hb
    exact (Array.getElem?_eq_some_iff.1 (heap_alloc_new w.drew (.cells cells 3))).1
   ·cases hx
  ·exact fun _ hp => nomatch hp
  ·simp [RepD, Gh.set]
  ·exact ⟨rfl, rfl, rfl, Nat.le_of_lt (Array.getElem?_eq_some_iff.1 (heap_alloc_new w.drew (.cells cells 3))).1, fun b hb _ => heap_alloc_lt w.drew _ hb⟩
  ·rintro b ⟨j, x, hx, hb⟩
   rw [get_one] at hx
   split at hx
   ·rename_i h
    subst h
    simp only [Gh.set, if_true, Option.some.injEq] at hb
    subst hb
    exact .inr (Nat.le_refl _)
   ·cases hx
end Go.Dw.Seat
end
section
set_option linter.unusedSimpArgs false
set_option maxRecDepth 100000
namespace Go.Dw.Seat
open Go Go.Dw Go.Proofs Go.IntWalk
theorem wthn_ok {lo hi : Int} {l : List Int} (h : ∀ v ∈ l, lo ≤ v ∧ v ≤ hi) : wthn lo hi l = true := by
 simp only [wthn, Bool.not_eq_true', List.any_eq_false, Bool.or_eq_true, decide_eq_true_eq]
 intro v hv
 have := h v hv
 omega
def eT (t : Int × Int) : List C := [.v (.int .i64 t.1), .v (.int .i64 t.2)]
attribute [go_sem] eT
structure Quote where
 area : Int
 board : Int
 waste : Int
 tool : Int
 setup : Int
 run : Int
 work : Int
 pallet : Int
 freight : Int
 margin : Int
 steps : List (Int × Int)
abbrev dQ (b : Bool) (q : Quote) : D := .agg [dI q.area, dI q.board, dI q.waste, dI q.tool, dI q.setup, dI q.run, dI q.work, dI q.pallet, dI q.freight, dI q.margin, .c (.sl b 2 (rows eT q.steps))]
attribute [go_sem] dQ
structure Quote.ok (q : Quote) : Prop where
 area : 1 ≤ q.area ∧ q.area ≤ 100000
 board : 0 ≤ q.board ∧ q.board ≤ 100000
 waste : 0 ≤ q.waste ∧ q.waste ≤ 500
 tool : 0 ≤ q.tool ∧ q.tool ≤ 1000000
 setup : 0 ≤ q.setup ∧ q.setup ≤ 1000000
 run : 1 ≤ q.run ∧ q.run ≤ 100000
 work : 0 ≤ q.work ∧ q.work ≤ 1000000
 pallet : 1 ≤ q.pallet ∧ q.pallet ≤ 100000
 freight : 0 ≤ q.freight ∧ q.freight ≤ 1000000
 margin : 0 ≤ q.margin ∧ q.margin ≤ 1000
 len : q.steps.length ≤ 6
 steps : ∀ s ∈ q.steps, (1 ≤ s.1 ∧ s.1 ≤ 100000) ∧ (0 ≤ s.2 ∧ s.2 ≤ 900)
 asc : q.steps.Pairwise (fun a b => a.1 < b.1)
end Go.Dw.Seat
end
section
set_option linter.unusedSimpArgs false
set_option maxRecDepth 100000
namespace Go.Dw.Seat
open Go Go.Dw Go.Proofs Go.IntWalk
theorem scW1 (n lo hi : Int) (p q : Bool) : DCall Try.prog 89 [dI n, .c (.ro p [.v (.int .i64 lo)] 0), .c (.ro q [.v (.int .i64 hi)] 0)] [] (bD (decide (n < lo) || decide (hi < n))) [] := by
 refine DCall.of Try.func89 sf89 hb89 (Nat.le_of_ble_eq_true rfl) (okRes_nil fun _ => rfl) ?_; simp only [s89, idxs, Nat.reduceAdd]
 repeat' (first|(with_reducible first|apply qA|apply qB|apply qC|apply qD|apply qE|apply qF)|(simp (disch:=omega) only [go_sem, simprocAttr, Blk.men, Blk.keysIn])|exact qM rfl rfl rfl|(refine qG rfl ?_)|(refine qH rfl ?_)|(refine qI rfl ?_ ?_<;>intro hc<;>(try simp only [go_sem] at hc))|(refine qJ ?_ ?_<;>intro hc<;>(try simp only [hc])<;>(try simp only [go_sem] at hc)))
theorem scWithin (b : Bool) (lo hi : Int) (l : List Int) (hl : l.length ≤ 2 ^ 36) : DCall Try.prog 43 [dI lo, dI hi, dIs b l] [] (bD (wthn lo hi l)) [] := by
 refine DCall.of Try.func43 sf43 hb43 (Nat.le_of_ble_eq_true rfl) (okRes_nil fun _ => rfl) ?_; simp only [s43, idxs, Nat.reduceAdd]
 repeat' (first|(with_reducible first|apply qA|apply qB|apply qC|apply qD|apply qE|apply qF)|(simp (disch:=omega) only [go_sem, simprocAttr, Blk.men, Blk.keysIn])|exact qM rfl rfl rfl|(refine qG rfl ?_)|(refine qH rfl ?_)|(refine qI rfl ?_ ?_<;>intro hc<;>(try simp only [go_sem] at hc))|(refine qJ ?_ ?_<;>intro hc<;>(try simp only [hc])<;>(try simp only [go_sem] at hc)))
 (refine call_c (c110 b l hl 89 [] [.ro true [.v (.int .i64 lo)] 0, .ro true [.v (.int .i64 hi)] 0] (fun n => decide (n < lo) || decide (hi < n)) (fun x _ => scW1 x lo hi true true)) (by decide) ?_; simp (disch:=omega) only [go_sem,simprocAttr,Blk.men,Blk.keysIn])
 repeat' (first|(with_reducible first|apply qA|apply qB|apply qC|apply qD|apply qE|apply qF)|(simp (disch:=omega) only [go_sem, simprocAttr, Blk.men, Blk.keysIn])|exact qM rfl rfl rfl|(refine qG rfl ?_)|(refine qH rfl ?_)|(refine qI rfl ?_ ?_<;>intro hc<;>(try simp only [go_sem] at hc))|(refine qJ ?_ ?_<;>intro hc<;>(try simp only [hc])<;>(try simp only [go_sem] at hc)))
theorem scIn (b : Bool) (lo hi : Int) (l : List Int) (hl : l.length ≤ 2 ^ 36) (h : ∀ v ∈ l, lo ≤ v ∧ v ≤ hi) : DCall Try.prog 43 [dI lo, dI hi, dIs b l] [] (bD true) [] := by
 have := scWithin b lo hi l hl
 rwa [wthn_ok h] at this
theorem scLong (b : Bool) (lo : Int) (l : List Int) (hl : l.length ≤ 2 ^ 36) (h : ∀ v ∈ l, lo ≤ v ∧ v ≤ 3000) : DCall Try.prog 99 [dI lo, dIs b l] [] (bD true) [] := by
 have h1 := scIn b lo 3000 l hl h
 refine DCall.of Try.func99 sf99 hb99 (Nat.le_of_ble_eq_true rfl) (okRes_nil fun _ => rfl) ?_; simp only [s99, idxs, Nat.reduceAdd]
 repeat' (first|(with_reducible first|apply qA|apply qB|apply qC|apply qD|apply qE|apply qF)|(simp (disch:=omega) only [go_sem, simprocAttr, Blk.men, Blk.keysIn])|exact qM rfl rfl rfl|(refine qG rfl ?_)|(refine qK (h1) (by decide) ?_)|(refine qH rfl ?_)|(refine qI rfl ?_ ?_<;>intro hc<;>(try simp only [go_sem] at hc))|(refine qJ ?_ ?_<;>intro hc<;>(try simp only [hc])<;>(try simp only [go_sem] at hc)))
def cL2 (x y : List Int) : Nat → Int
 | 0 => 0
 | 1 => x.length
 | _ => (x.length : Int) + y.length
theorem cL20 (x y : List Int) : cL2 x y 0 = 0 := rfl
theorem cL21 (x y : List Int) : cL2 x y 1 = x.length := rfl
theorem cL22 (x y : List Int) : cL2 x y 2 = (x.length : Int) + y.length := rfl
def cA2 (x y : List Int) : Nat → List Int
 | 0 => []
 | 1 => x
 | _ => x ++ y
theorem cA20 (x y : List Int) : cA2 x y 0 = [] := rfl
theorem cA21 (x y : List Int) : cA2 x y 1 = x := rfl
theorem cA22 (x y : List Int) : cA2 x y 2 = x ++ y := rfl
theorem scConcat (b : Bool) (x y : List Int) (hx : 1 ≤ x.length ∧ x.length ≤ 1000) (hy : y.length ≤ 1000) : DCall Try.prog 100 [.c (.sl b 1 [[.sl false 1 (rows eI x)], [.sl false 1 (rows eI y)]])] [] (dIs false (x ++ y)) [] := by
 have hg := scGrow (x.length + y.length) 24 (by omega)
 have e1 : ((x.length + y.length : Nat) : Int) = (x.length : Int) + (y.length : Int) := by omega
 rw [e1] at hg
 refine DCall.of Try.func100 sf100 hb100 (Nat.le_of_ble_eq_true rfl) (okRes_nil fun _ => rfl) ?_; simp only [s100, idxs, Nat.reduceAdd]
 repeat' (first|(with_reducible first|apply qA|apply qB|apply qC|apply qD|apply qE|apply qF)|(simp (disch:=omega) only [go_sem, simprocAttr, Blk.men, Blk.keysIn])|exact qM rfl rfl rfl|(refine qG rfl ?_)|(refine qH rfl ?_)|(refine qI rfl ?_ ?_<;>intro hc<;>(try simp only [go_sem] at hc))|(refine qJ ?_ ?_<;>intro hc<;>(try simp only [hc])<;>(try simp only [go_sem] at hc)))
 refine DW.loop (ι := { i : Nat // i ≤ 2 }) (fun i => ⟨36, [(11, dI i.1), (10, dI 2), (9, .c (.sl b 1 [[.sl false 1 (rows eI x)], [.sl false 1 (rows eI y)]])), (3, dI (cL2 x y i.1)), (0, .c (.sl b 1 [[.sl false 1 (rows eI x)], [.sl false 1 (rows eI y)]]))], []⟩) (fun i => 2 - i.1) ⟨0, by omega⟩ ?_ ?_
 ·refine Ent.to ?_ ?_ <;> simp (disch:=omega) only [qR,qS,qTw,qU,get,Nat.reduceEqDiff,↓reduceIte,qV,qW,qX,qY,qZ,and_self,dI,i64_in,and_true,true_and,rA,rB,rC,rD,cL20]
  all_goals exact .refl _
 rintro ⟨i, hi⟩
 dsimp only
 rcases (by omega : i = 0 ∨ i = 1 ∨ i = 2) with rfl | rfl | rfl
 ·have d : decide ((x.length : Int) < 0) = false := decide_eq_false (by omega)
  repeat' (first|(with_reducible first|apply qA|apply qB|apply qC|apply qD|apply qE|apply qF)|(simp (disch:=omega) only [go_sem, simprocAttr, Blk.men, Blk.keysIn, cL20, d])|exact qM rfl rfl rfl|(refine qG rfl ?_)|(refine qH rfl ?_)|(refine qI rfl ?_ ?_<;>intro hc<;>(try simp only [go_sem] at hc))|(refine qJ ?_ ?_<;>intro hc<;>(try simp only [hc])<;>(try simp only [go_sem] at hc)))
  refine ⟨⟨1, by omega⟩, ?_, Ent.to ?_ ?_⟩ <;> first | (show _ < _; (try simp only); omega) | (simp (disch:=omega) only [qR,qS,qTw,qU,get,Nat.reduceEqDiff,↓reduceIte,qV,qW,qX,qY,qZ,and_self,dI,i64_in,and_true,true_and,rA,rB,rC,rD, cL20,cL21,Int.zero_add])
  all_goals exact .refl _
 ·have d : decide ((x.length : Int) + (y.length : Int) < 0) = false := decide_eq_false (by omega)
  repeat' (first|(with_reducible first|apply qA|apply qB|apply qC|apply qD|apply qE|apply qF)|(simp (disch:=omega) only [go_sem, simprocAttr, Blk.men, Blk.keysIn, cL21, d])|exact qM rfl rfl rfl|(refine qG rfl ?_)|(refine qH rfl ?_)|(refine qI rfl ?_ ?_<;>intro hc<;>(try simp only [go_sem] at hc))|(refine qJ ?_ ?_<;>intro hc<;>(try simp only [hc])<;>(try simp only [go_sem] at hc)))
  refine ⟨⟨2, by omega⟩, ?_, Ent.to ?_ ?_⟩ <;> first | (show _ < _; (try simp only); omega) | (simp (disch:=omega) only [qR,qS,qTw,qU,get,Nat.reduceEqDiff,↓reduceIte,qV,qW,qX,qY,qZ,and_self,dI,i64_in,and_true,true_and,rA,rB,rC,rD, cL21,cL22])
  all_goals exact .refl _
 ·repeat' (first|(with_reducible first|apply qA|apply qB|apply qC|apply qD|apply qE|apply qF)|(simp (disch:=omega) only [go_sem, simprocAttr, Blk.men, Blk.keysIn, cL22])|exact qM rfl rfl rfl|(refine qG rfl ?_)|(refine qH rfl ?_)|(refine qI rfl ?_ ?_<;>intro hc<;>(try simp only [go_sem] at hc))|(refine qJ ?_ ?_<;>intro hc<;>(try simp only [hc])<;>(try simp only [go_sem] at hc)))
  (refine call_r (hg) (by decide) (by first | rfl | simp (disch:=omega) only [go_sem,simprocAttr,Blk.men,Blk.keysIn]) (by first | rfl | simp (disch:=omega) only [go_sem,simprocAttr,Blk.men,Blk.keysIn]) ?_; simp (disch:=omega) only [go_sem,simprocAttr,Blk.men,Blk.keysIn])
  repeat' (first|(with_reducible first|apply qA|apply qB|apply qC|apply qD|apply qE|apply qF)|(simp (disch:=omega) only [go_sem, simprocAttr, Blk.men, Blk.keysIn])|exact qM rfl rfl rfl|(refine qG rfl ?_)|(refine qH rfl ?_)|(refine qI rfl ?_ ?_<;>intro hc<;>(try simp only [go_sem] at hc))|(refine qJ ?_ ?_<;>intro hc<;>(try simp only [hc])<;>(try simp only [go_sem] at hc)))
  refine DW.loop (ι := { i : Nat // i ≤ 2 }) (fun i => ⟨36, [(27, dI i.1), (26, dI 2), (25, .c (.sl b 1 [[.sl false 1 (rows eI x)], [.sl false 1 (rows eI y)]])), (6, .own 24)], [(24, .row 1 (rowC (rows eI (cA2 x y i.1))))]⟩) (fun i => 2 - i.1) ⟨0, by omega⟩ ?_ ?_
  ·refine Ent.to ?_ ?_ <;> simp (disch:=omega) only [qR,qS,qTw,qU,get,Nat.reduceEqDiff,↓reduceIte,qV,qW,qX,qY,qZ,and_self,dI,i64_in,and_true,true_and,rA,rB,rC,rD,cA20]
   all_goals exact .refl _
  rintro ⟨i, hi⟩
  dsimp only
  have l1 : (rows eI x).length = x.length := by simp [rows]
  have l2 : (rows eI y).length = y.length := by simp [rows]
  rcases (by omega : i = 0 ∨ i = 1 ∨ i = 2) with rfl | rfl | rfl
  ·repeat' (first|(with_reducible first|apply qA|apply qB|apply qC|apply qD|apply qE|apply qF)|(simp (disch:=omega) only [go_sem, simprocAttr, Blk.men, Blk.keysIn, cA20])|exact qM rfl rfl rfl|(refine qG rfl ?_)|(refine qH rfl ?_)|(refine qI rfl ?_ ?_<;>intro hc<;>(try simp only [go_sem] at hc))|(refine qJ ?_ ?_<;>intro hc<;>(try simp only [hc])<;>(try simp only [go_sem] at hc)))
   refine ⟨⟨1, by omega⟩, ?_, Ent.to ?_ ?_⟩ <;> first | (show _ < _; (try simp only); omega) | (simp (disch:=omega) only [qR,qS,qTw,qU,get,Nat.reduceEqDiff,↓reduceIte,qV,qW,qX,qY,qZ,and_self,dI,i64_in,and_true,true_and,rA,rB,rC,rD, cA20,cA21])
   all_goals exact .refl _
  ·repeat' (first|(with_reducible first|apply qA|apply qB|apply qC|apply qD|apply qE|apply qF)|(simp (disch:=omega) only [go_sem, simprocAttr, Blk.men, Blk.keysIn, cA21])|exact qM rfl rfl rfl|(refine qG rfl ?_)|(refine qH rfl ?_)|(refine qI rfl ?_ ?_<;>intro hc<;>(try simp only [go_sem] at hc))|(refine qJ ?_ ?_<;>intro hc<;>(try simp only [hc])<;>(try simp only [go_sem] at hc)))
   refine ⟨⟨2, by omega⟩, ?_, Ent.to ?_ ?_⟩ <;> first | (show _ < _; (try simp only); omega) | (simp (disch:=omega) only [qR,qS,qTw,qU,get,Nat.reduceEqDiff,↓reduceIte,qV,qW,qX,qY,qZ,and_self,dI,i64_in,and_true,true_and,rA,rB,rC,rD, cA21,cA22])
   all_goals exact .refl _
  ·repeat' (first|(with_reducible first|apply qA|apply qB|apply qC|apply qD|apply qE|apply qF)|(simp (disch:=omega) only [go_sem, simprocAttr, Blk.men, Blk.keysIn, cA22])|exact qM rfl rfl rfl|(refine qG rfl ?_)|(refine qH rfl ?_)|(refine qI rfl ?_ ?_<;>intro hc<;>(try simp only [go_sem] at hc))|(refine qJ ?_ ?_<;>intro hc<;>(try simp only [hc])<;>(try simp only [go_sem] at hc)))
   (refine retS_ent (Ent.rel 24 rfl) ?_; simp (disch:=omega) only [go_sem,simprocAttr,Blk.men,Blk.keysIn])
   refine retS_wk rfl ?_ (by simp only [Blk.nb, rowC_nb, D.nb, D.nbs, C.nb, C.nbs, C.nbss, rows_nb eI_nb, Bool.and_true, Bool.not_false, Bool.and_self, bD, dI, iD]); exact .refl _
def mx2 (x y : Int) : Int := if x < y then y else x
def sM2 (x y : Int) : Nat → Int
 | 1 => x
 | _ => mx2 x y
theorem sM21 (x y : Int) : sM2 x y 1 = x := rfl
theorem sM22 (x y : Int) : sM2 x y 2 = if x < y then y else x := rfl
theorem scMax2 (b : Bool) (x y : Int) : DCall Try.prog 51 [.c (.sl b 1 (rows eI [x, y]))] [] (dI (mx2 x y)) [] := by
 refine DCall.of Try.func51 sf51 hb51 (Nat.le_of_ble_eq_true rfl) (okRes_nil fun _ => rfl) ?_; simp only [s51, idxs, Nat.reduceAdd]
 repeat' (first|(with_reducible first|apply qA|apply qB|apply qC|apply qD|apply qE|apply qF)|(simp (disch:=omega) only [go_sem, simprocAttr, Blk.men, Blk.keysIn])|exact qM rfl rfl rfl|(refine qG rfl ?_)|(refine qH rfl ?_)|(refine qI rfl ?_ ?_<;>intro hc<;>(try simp only [go_sem] at hc))|(refine qJ ?_ ?_<;>intro hc<;>(try simp only [hc])<;>(try simp only [go_sem] at hc)))
 refine DW.loop (ι := { i : Nat // 1 ≤ i ∧ i ≤ 2 }) (fun i => ⟨25, [(4, dI (i.1 : Nat)), (3, dI (sM2 x y i.1)), (0, .c (.sl b 1 (rows eI [x, y])))], []⟩) (fun i => 2 - i.1) ⟨1, by omega⟩ ?_ ?_
 ·refine Ent.to ?_ ?_ <;> simp (disch:=omega) only [qR,qS,qTw,qU,get,Nat.reduceEqDiff,↓reduceIte,qV,qW,qX,qY,qZ,and_self,dI,i64_in,and_true,true_and,rA,rB,rC,rD,sM21]
  all_goals exact .refl _
 rintro ⟨i, hi⟩
 dsimp only
 rcases (by omega : i = 1 ∨ i = 2) with rfl | rfl
 ·repeat' (first|(with_reducible first|apply qA|apply qB|apply qC|apply qD|apply qE|apply qF)|(simp (disch:=omega) only [go_sem, simprocAttr, Blk.men, Blk.keysIn, sM21])|exact qM rfl rfl rfl|(refine qG rfl ?_)|(refine qH rfl ?_)|(refine qI rfl ?_ ?_<;>intro hc<;>(try simp only [go_sem] at hc))|(refine qJ ?_ ?_<;>intro hc<;>(try simp only [hc])<;>(try simp only [go_sem] at hc)))
  refine ⟨⟨2, by omega⟩, ?_, Ent.to ?_ ?_⟩ <;> first | (show _ < _; (try simp only); omega) | (simp (disch:=omega) only [qR,qS,qTw,qU,get,Nat.reduceEqDiff,↓reduceIte,qV,qW,qX,qY,qZ,and_self,dI,i64_in,and_true,true_and,rA,rB,rC,rD, sM21,sM22])
  all_goals exact .refl _
 ·repeat' (first|(with_reducible first|apply qA|apply qB|apply qC|apply qD|apply qE|apply qF)|(simp (disch:=omega) only [go_sem, simprocAttr, Blk.men, Blk.keysIn, sM22])|exact qM rfl rfl rfl|(refine qG rfl ?_)|(refine qH rfl ?_)|(refine qI rfl ?_ ?_<;>intro hc<;>(try simp only [go_sem] at hc))|(refine qJ ?_ ?_<;>intro hc<;>(try simp only [hc])<;>(try simp only [go_sem] at hc)))
end Go.Dw.Seat
end
section
set_option linter.unusedSimpArgs false
set_option maxRecDepth 100000
namespace Go.Dw.Seat
open Go Go.Dw Go.Proofs Go.IntWalk
structure Bla where
 tab : Int
 p0 : Int
 p1 : Int
 p2 : Int
 p3 : Int
 height : Int
 t0 : Int
 t1 : Int
 b0 : Int
 b1 : Int
 slot : Int
structure Bla.ok (z : Bla) : Prop where
 tab : 0 ≤ z.tab ∧ z.tab ≤ 100
 p0 : 1 ≤ z.p0 ∧ z.p0 ≤ 3000
 p1 : 1 ≤ z.p1 ∧ z.p1 ≤ 3000
 p2 : 1 ≤ z.p2 ∧ z.p2 ≤ 3000
 p3 : 1 ≤ z.p3 ∧ z.p3 ≤ 3000
 height : 1 ≤ z.height ∧ z.height ≤ 3000
 t0 : 0 ≤ z.t0 ∧ z.t0 ≤ 3000
 t1 : 0 ≤ z.t1 ∧ z.t1 ≤ 3000
 b0 : 0 ≤ z.b0 ∧ z.b0 ≤ 3000
 b1 : 0 ≤ z.b1 ∧ z.b1 ≤ 3000
 slot : 0 ≤ z.slot ∧ z.slot ≤ 20
abbrev dBla (z : Bla) : D := .agg [dI z.tab, dIs false [z.p0, z.p1, z.p2, z.p3], dI z.height, dIs false [z.t0, z.t1], dIs false [z.b0, z.b1], dI z.slot, bD false]
def acrossI (z : Bla) : Int := z.tab + z.p0 + z.p1 + z.p2 + z.p3
def alongI (z : Bla) : Int := mx2 z.t0 z.t1 + z.height + mx2 z.b0 z.b1
theorem mx2_b {x y a b : Int} (hx : a ≤ x ∧ x ≤ b) (hy : a ≤ y ∧ y ≤ b) : a ≤ mx2 x y ∧ mx2 x y ≤ b := by
 unfold mx2
 split <;> omega
theorem scCheck (z : Bla) (h : z.ok) : DCall Try.prog 50 [dBla z] [] (dI 0) [] := by
 obtain ⟨h1, h2, h3, h4, h5, h6, h7, h8, h9, h10, h11⟩ := h
 have c1 := scIn true 0 100 [z.tab] (by simp) (by simpa using h1)
 have c2 := scLong false 1 [z.p0, z.p1, z.p2, z.p3] (by simp) (by simp; omega)
 have c3 := scLong true 1 [z.height] (by simp) (by simpa using h6)
 have c4 := scConcat true [z.t0, z.t1] [z.b0, z.b1] (by simp) (by simp)
 have c5 := scLong false 0 [z.t0, z.t1, z.b0, z.b1] (by simp) (by simp; omega)
 have c6 := scIn true 0 20 [z.slot] (by simp) (by simpa using h11)
 refine DCall.of Try.func50 sf50 hb50 (Nat.le_of_ble_eq_true rfl) (okRes_nil fun _ => rfl) ?_; simp only [s50, idxs, Nat.reduceAdd]
 repeat' (first|(with_reducible first|apply qA|apply qB|apply qC|apply qD|apply qE|apply qF)|(simp (disch:=omega) only [go_sem, simprocAttr, Blk.men, Blk.keysIn])|exact qM rfl rfl rfl|(refine qG rfl ?_)|(refine qK (c1) (by decide) ?_)|(refine qK (c2) (by decide) ?_)|(refine qK (c3) (by decide) ?_)|(refine qK (c4) (by decide) ?_)|(refine qK (c5) (by decide) ?_)|(refine qK (c6) (by decide) ?_)|(refine qH rfl ?_)|(refine qI rfl ?_ ?_<;>intro hc<;>(try simp only [go_sem] at hc))|(refine qJ ?_ ?_<;>intro hc<;>(try simp only [hc])<;>(try simp only [go_sem] at hc)))
end Go.Dw.Seat
end
section
set_option linter.unusedSimpArgs false
set_option maxRecDepth 100000
namespace Go.Dw.Seat
open Go Go.Dw Go.Proofs Go.IntWalk
theorem ud5 : Try.prog.underlying 5 = some (.int .u8) := by kernel_rfl
abbrev d8 (n : Nat) : D := .c (.v (.int .u8 n))
def eY (v : Nat) : List C := [.v (.int .u8 v)]
theorem eY_nb (v : Nat) : C.nbs (eY v) = true := rfl
attribute [go_sem] ud5 d8 eY
theorem tmodN (m k : Nat) : (m : Int).tmod (k : Int) = ((m % k : Nat) : Int) := by
 rw [Int.tmod_eq_emod_of_nonneg (by omega)]; simp
theorem tdivN (m k : Nat) : (m : Int).tdiv (k : Int) = ((m / k : Nat) : Int) := by
 rw [Int.tdiv_eq_ediv_of_nonneg (by omega)]; simp
def byteI (l : List Nat) (i : Nat) : Nat := (l[i % l.length]?).getD 0
theorem arByte (b : Bool) (l : List Nat) (i : Nat) (hi : i ≤ 1000) (hl : ∀ v ∈ l, v < 256) : DCall Try.prog 37 [.c (.sl b 1 (rows eY l)), dI i] [] (dI (byteI l i)) [] := by
 by_cases h0 : l.length = 0
 ·have he : ((l.length : Int) == 0) = true := by rw [h0]; rfl
  have hb : byteI l i = 0 := by
   have : l = [] := List.length_eq_zero_iff.1 h0
   subst this; rfl
  rw [hb]
  refine DCall.of Try.func37 sf37 hb37 (Nat.le_of_ble_eq_true rfl) (okRes_nil fun _ => rfl) ?_; simp only [s37, idxs, Nat.reduceAdd]
  repeat' (first|(with_reducible first|apply qA|apply qB|apply qC|apply qD|apply qE|apply qF)|(simp (disch:=omega) only [go_sem, simprocAttr, Blk.men, Blk.keysIn, he])|exact qM rfl rfl rfl|(refine qG rfl ?_)|(refine qH rfl ?_)|(refine qI rfl ?_ ?_<;>intro hc<;>(try simp only [go_sem] at hc))|(refine qJ ?_ ?_<;>intro hc<;>(try simp only [hc])<;>(try simp only [go_sem] at hc)))
 ·have he : ((l.length : Int) == 0) = false := by rw [beq_eq_false_iff_ne]; omega
  have hz : ((l.length : Int) = 0) = False := eq_false (by omega)
  have hr : (i : Int).tmod (l.length : Int) = ((i % l.length : Nat) : Int) := tmodN i l.length
  have hlt : i % l.length < l.length := Nat.mod_lt _ (by omega)
  have hv : l[i % l.length]? = some (byteI l i) := by
   rw [byteI, List.getElem?_eq_getElem hlt]; rfl
  have hv8 := hl _ (List.mem_of_getElem? hv)
  generalize byteI l i = v at *
  generalize i % l.length = j at *
  refine DCall.of Try.func37 sf37 hb37 (Nat.le_of_ble_eq_true rfl) (okRes_nil fun _ => rfl) ?_; simp only [s37, idxs, Nat.reduceAdd]
  repeat' (first|(with_reducible first|apply qA|apply qB|apply qC|apply qD|apply qE|apply qF)|(simp (disch:=omega) only [go_sem, simprocAttr, Blk.men, Blk.keysIn, he, hz, hr, hv])|exact qM rfl rfl rfl|(refine qG rfl ?_)|(refine qH rfl ?_)|(refine qI rfl ?_ ?_<;>intro hc<;>(try simp only [go_sem] at hc))|(refine qJ ?_ ?_<;>intro hc<;>(try simp only [hc])<;>(try simp only [go_sem] at hc)))
end Go.Dw.Seat
end
section
set_option linter.unusedSimpArgs false
set_option maxRecDepth 100000
namespace Go.Dw.Seat
open Go Go.Dw Go.Proofs Go.IntWalk
theorem ud3 : Try.prog.underlying 3 = some (.int .i64) := by kernel_rfl
structure IsRoot (n r : Int) : Prop where
 pos : 0 ≤ r
 low : r * r ≤ n
 high : n < (r + 1) * (r + 1)
theorem sq_mono {a b : Int} (ha : 0 ≤ a) (h : a ≤ b) : a * a ≤ b * b := Int.mul_le_mul h h ha (by omega)
theorem IsRoot.le {n r k : Int} (h : IsRoot n r) (hk : 0 ≤ k) : (n < (k + 1) * (k + 1)) ↔ r ≤ k := by
 constructor
 ·intro h1
  rcases Int.lt_or_le k r with h2 | h2
  ·have := sq_mono (a := k + 1) (b := r) (by omega) (by omega)
   have := h.low
   omega
  ·exact h2
 ·intro h1
  have := sq_mono (a := r + 1) (b := k + 1) (by have := h.pos; omega) (by omega)
  have := h.high
  omega
theorem IsRoot.mono {n n' r r' : Int} (h : IsRoot n r) (h' : IsRoot n' r') (hn : n ≤ n') : r ≤ r' :=
 (h.le h'.pos).1 (by have := h'.high; omega)
theorem IsRoot.lt {n r : Int} (h : IsRoot n r) (hn : n ≤ 200000000) : r ≤ 14142 := by
 rcases Int.lt_or_le 14142 r with h1 | h1
 ·have := sq_mono (a := 14143) (b := r) (by decide) (by omega)
  have := h.low
  omega
 ·exact h1
structure CBox where
 el : Int
 eh : Int
 cl : Int
 ch : Int
 around : Int
 rule : Int
structure CBox.ok (b : CBox) : Prop where
 edge : 0 ≤ b.el ∧ b.el ≤ b.eh ∧ b.eh ≤ 100000
 cal : 1 ≤ b.cl ∧ b.cl ≤ b.ch ∧ b.ch ≤ 10000
 around : 1 ≤ b.around ∧ b.around ≤ 20000
 rule : 1 ≤ b.rule ∧ b.rule ≤ 1000
abbrev dCBox (b : CBox) : D := .agg [dI b.el, dI b.eh, dI b.cl, dI b.ch, dI b.around, dI b.rule]
attribute [go_sem] dCBox
end Go.Dw.Seat
end
