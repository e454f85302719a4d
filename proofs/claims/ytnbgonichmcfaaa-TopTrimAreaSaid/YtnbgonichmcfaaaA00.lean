/- Helpers of a proof. -/
import Derived.Test.YtnbgonichmcfaaaW46
import Derived.Test.YtnbgonichmcfaaaProg
import Derived.Shelf.Spec.SlicesGrow
set_option linter.unusedVariables false
set_option linter.unusedSimpArgs false
section
namespace Go.Dw.Seat
open Go Go.Dw Go.Proofs
instance laysI : Lays := ⟨[]⟩
theorem laid0 (W : World) : LaidA (fun _ => False) W := fun _ hp => nomatch hp
theorem el0 : elemI Try.prog 0 = none := by kernel_rfl
theorem ty1 : tyI Try.prog 1 = some ⟨false, 1, [.nilFunc], 8⟩ := by kernel_rfl
theorem el1 : elemI Try.prog 1 = none := by kernel_rfl
theorem ty2 : tyI Try.prog 2 = some ⟨false, 1, [(.int .i64 0)], 8⟩ := by kernel_rfl
theorem el2 : elemI Try.prog 2 = none := by kernel_rfl
theorem it2 : intI Try.prog 2 = some .i64 := by kernel_rfl
theorem ty3 : tyI Try.prog 3 = some ⟨false, 1, [(.int .i64 0)], 8⟩ := by kernel_rfl
theorem el3 : elemI Try.prog 3 = none := by kernel_rfl
theorem it3 : intI Try.prog 3 = some .i64 := by kernel_rfl
theorem ty4 : tyI Try.prog 4 = some ⟨false, 1, [(.bool false)], 1⟩ := by kernel_rfl
theorem el4 : elemI Try.prog 4 = none := by kernel_rfl
theorem bl4 : blI Try.prog 4 = true := by kernel_rfl
theorem ty5 : tyI Try.prog 5 = some ⟨false, 1, [(.int .u8 0)], 1⟩ := by kernel_rfl
theorem el5 : elemI Try.prog 5 = none := by kernel_rfl
theorem it5 : intI Try.prog 5 = some .u8 := by kernel_rfl
theorem ty6 : tyI Try.prog 6 = some ⟨false, 1, [(.int .u8 0)], 1⟩ := by kernel_rfl
theorem el6 : elemI Try.prog 6 = none := by kernel_rfl
theorem it6 : intI Try.prog 6 = some .u8 := by kernel_rfl
theorem ty7 : tyI Try.prog 7 = some ⟨true, 4, [(.int .i64 0), (.int .i64 0), (.bool false), (.int .u8 0)], 24⟩ := by kernel_rfl
theorem el7 : elemI Try.prog 7 = none := by kernel_rfl
theorem eq7 : eqTy Try.prog 7 = some (.st [(0, 1, .it), (1, 1, .it), (2, 1, .bl), (3, 1, .it)]) := by kernel_rfl
theorem pl7 : placesI Try.prog 7 = some [(0, 1), (1, 1), (2, 1), (3, 1)] := by kernel_rfl
theorem fi7_0 : fieldI Try.prog 7 0 = some (0, 1, false) := by kernel_rfl
theorem fi7_1 : fieldI Try.prog 7 1 = some (1, 1, false) := by kernel_rfl
theorem fi7_2 : fieldI Try.prog 7 2 = some (2, 1, false) := by kernel_rfl
theorem fi7_3 : fieldI Try.prog 7 3 = some (3, 1, false) := by kernel_rfl
theorem ty8 : tyI Try.prog 8 = some ⟨true, 4, [(.int .i64 0), (.int .i64 0), (.bool false), (.int .u8 0)], 24⟩ := by kernel_rfl
theorem el8 : elemI Try.prog 8 = none := by kernel_rfl
theorem eq8 : eqTy Try.prog 8 = some (.st [(0, 1, .it), (1, 1, .it), (2, 1, .bl), (3, 1, .it)]) := by kernel_rfl
theorem pl8 : placesI Try.prog 8 = some [(0, 1), (1, 1), (2, 1), (3, 1)] := by kernel_rfl
theorem fi8_0 : fieldI Try.prog 8 0 = some (0, 1, false) := by kernel_rfl
theorem fi8_1 : fieldI Try.prog 8 1 = some (1, 1, false) := by kernel_rfl
theorem fi8_2 : fieldI Try.prog 8 2 = some (2, 1, false) := by kernel_rfl
theorem fi8_3 : fieldI Try.prog 8 3 = some (3, 1, false) := by kernel_rfl
theorem ty9 : tyI Try.prog 9 = some ⟨false, 1, [(.string ⟨#[]⟩)], 16⟩ := by kernel_rfl
theorem el9 : elemI Try.prog 9 = none := by kernel_rfl
theorem ty10 : tyI Try.prog 10 = some ⟨false, 1, [(.string ⟨#[]⟩)], 16⟩ := by kernel_rfl
theorem el10 : elemI Try.prog 10 = none := by kernel_rfl
theorem ty11 : tyI Try.prog 11 = some ⟨false, 1, [(.string ⟨#[]⟩)], 16⟩ := by kernel_rfl
theorem el11 : elemI Try.prog 11 = none := by kernel_rfl
theorem ty12 : tyI Try.prog 12 = some ⟨false, 1, [(.int .u64 0)], 8⟩ := by kernel_rfl
theorem el12 : elemI Try.prog 12 = none := by kernel_rfl
theorem it12 : intI Try.prog 12 = some .u64 := by kernel_rfl
theorem ty13 : tyI Try.prog 13 = some ⟨true, 2, [(.string ⟨#[]⟩), (.int .u64 0)], 24⟩ := by kernel_rfl
theorem el13 : elemI Try.prog 13 = none := by kernel_rfl
theorem pl13 : placesI Try.prog 13 = some [(0, 1), (1, 1)] := by kernel_rfl
theorem fi13_0 : fieldI Try.prog 13 0 = some (0, 1, false) := by kernel_rfl
theorem fi13_1 : fieldI Try.prog 13 1 = some (1, 1, false) := by kernel_rfl
theorem ty14 : tyI Try.prog 14 = some ⟨true, 2, [(.string ⟨#[]⟩), (.int .u64 0)], 24⟩ := by kernel_rfl
theorem el14 : elemI Try.prog 14 = none := by kernel_rfl
theorem pl14 : placesI Try.prog 14 = some [(0, 1), (1, 1)] := by kernel_rfl
theorem fi14_0 : fieldI Try.prog 14 0 = some (0, 1, false) := by kernel_rfl
theorem fi14_1 : fieldI Try.prog 14 1 = some (1, 1, false) := by kernel_rfl
theorem ty15 : tyI Try.prog 15 = some ⟨false, 1, [(.pointer none)], 8⟩ := by kernel_rfl
theorem el15 : elemI Try.prog 15 = none := by kernel_rfl
theorem ty16 : tyI Try.prog 16 = some ⟨false, 1, [(.pointer none)], 8⟩ := by kernel_rfl
theorem el16 : elemI Try.prog 16 = none := by kernel_rfl
theorem ty17 : tyI Try.prog 17 = some ⟨false, 1, [(.pointer none)], 8⟩ := by kernel_rfl
theorem el17 : elemI Try.prog 17 = none := by kernel_rfl
theorem ty18 : tyI Try.prog 18 = some ⟨true, 1, [(.pointer none)], 8⟩ := by kernel_rfl
theorem el18 : elemI Try.prog 18 = none := by kernel_rfl
theorem pl18 : placesI Try.prog 18 = some [(0, 1)] := by kernel_rfl
theorem fi18_0 : fieldI Try.prog 18 0 = some (0, 1, false) := by kernel_rfl
theorem ty19 : tyI Try.prog 19 = some ⟨true, 1, [(.pointer none)], 8⟩ := by kernel_rfl
theorem el19 : elemI Try.prog 19 = none := by kernel_rfl
theorem pl19 : placesI Try.prog 19 = some [(0, 1)] := by kernel_rfl
theorem fi19_0 : fieldI Try.prog 19 0 = some (0, 1, false) := by kernel_rfl
theorem ty20 : tyI Try.prog 20 = some ⟨false, 1, [.nilIface], 16⟩ := by kernel_rfl
theorem el20 : elemI Try.prog 20 = none := by kernel_rfl
theorem ty21 : tyI Try.prog 21 = some ⟨false, 1, [(.int .i32 0)], 4⟩ := by kernel_rfl
theorem el21 : elemI Try.prog 21 = none := by kernel_rfl
theorem it21 : intI Try.prog 21 = some .i32 := by kernel_rfl
theorem ty22 : tyI Try.prog 22 = some ⟨false, 1, [(.slice none 0 0)], 24⟩ := by kernel_rfl
theorem el22 : elemI Try.prog 22 = some 27 := by kernel_rfl
theorem ty23 : tyI Try.prog 23 = some ⟨false, 1, [(.slice none 0 0)], 24⟩ := by kernel_rfl
theorem el23 : elemI Try.prog 23 = some 87 := by kernel_rfl
theorem ty24 : tyI Try.prog 24 = some ⟨false, 1, [(.slice none 0 0)], 24⟩ := by kernel_rfl
theorem el24 : elemI Try.prog 24 = some 5 := by kernel_rfl
theorem ty25 : tyI Try.prog 25 = some ⟨true, 3, [(.slice none 0 0), (.slice none 0 0), (.slice none 0 0)], 72⟩ := by kernel_rfl
theorem el25 : elemI Try.prog 25 = none := by kernel_rfl
theorem pl25 : placesI Try.prog 25 = some [(0, 1), (1, 1), (2, 1)] := by kernel_rfl
theorem fi25_0 : fieldI Try.prog 25 0 = some (0, 1, false) := by kernel_rfl
theorem fi25_1 : fieldI Try.prog 25 1 = some (1, 1, false) := by kernel_rfl
theorem fi25_2 : fieldI Try.prog 25 2 = some (2, 1, false) := by kernel_rfl
theorem ty26 : tyI Try.prog 26 = some ⟨true, 3, [(.slice none 0 0), (.slice none 0 0), (.slice none 0 0)], 72⟩ := by kernel_rfl
theorem el26 : elemI Try.prog 26 = none := by kernel_rfl
theorem pl26 : placesI Try.prog 26 = some [(0, 1), (1, 1), (2, 1)] := by kernel_rfl
theorem fi26_0 : fieldI Try.prog 26 0 = some (0, 1, false) := by kernel_rfl
theorem fi26_1 : fieldI Try.prog 26 1 = some (1, 1, false) := by kernel_rfl
theorem fi26_2 : fieldI Try.prog 26 2 = some (2, 1, false) := by kernel_rfl
theorem ty27 : tyI Try.prog 27 = some ⟨true, 6, [(.int .u8 0), (.int .u8 0), (.int .u8 0), (.int .u8 0), (.int .u8 0), (.int .u8 0)], 6⟩ := by kernel_rfl
theorem el27 : elemI Try.prog 27 = none := by kernel_rfl
theorem ar27 : arrI Try.prog 27 = some (6, 5) := by kernel_rfl
theorem pl27 : placesI Try.prog 27 = some [(0, 1), (1, 1), (2, 1), (3, 1), (4, 1), (5, 1)] := by kernel_rfl
theorem ty28 : tyI Try.prog 28 = some ⟨false, 1, [(.slice none 0 0)], 24⟩ := by kernel_rfl
theorem el28 : elemI Try.prog 28 = some 125 := by kernel_rfl
theorem ty29 : tyI Try.prog 29 = some ⟨false, 1, [(.slice none 0 0)], 24⟩ := by kernel_rfl
theorem el29 : elemI Try.prog 29 = some 114 := by kernel_rfl
theorem ty30 : tyI Try.prog 30 = some ⟨true, 2, [(.slice none 0 0), (.slice none 0 0)], 48⟩ := by kernel_rfl
theorem el30 : elemI Try.prog 30 = none := by kernel_rfl
theorem pl30 : placesI Try.prog 30 = some [(0, 1), (1, 1)] := by kernel_rfl
theorem fi30_0 : fieldI Try.prog 30 0 = some (0, 1, false) := by kernel_rfl
theorem fi30_1 : fieldI Try.prog 30 1 = some (1, 1, false) := by kernel_rfl
theorem ty31 : tyI Try.prog 31 = some ⟨true, 2, [(.slice none 0 0), (.slice none 0 0)], 48⟩ := by kernel_rfl
theorem el31 : elemI Try.prog 31 = none := by kernel_rfl
theorem pl31 : placesI Try.prog 31 = some [(0, 1), (1, 1)] := by kernel_rfl
theorem fi31_0 : fieldI Try.prog 31 0 = some (0, 1, false) := by kernel_rfl
theorem fi31_1 : fieldI Try.prog 31 1 = some (1, 1, false) := by kernel_rfl
theorem ty32 : tyI Try.prog 32 = some ⟨false, 1, [.nilFunc], 8⟩ := by kernel_rfl
theorem el32 : elemI Try.prog 32 = none := by kernel_rfl
theorem ty33 : tyI Try.prog 33 = some ⟨false, 1, [(.slice none 0 0)], 24⟩ := by kernel_rfl
theorem el33 : elemI Try.prog 33 = some 3 := by kernel_rfl
theorem ty34 : tyI Try.prog 34 = some ⟨true, 2, [(.slice none 0 0), (.slice none 0 0)], 48⟩ := by kernel_rfl
theorem el34 : elemI Try.prog 34 = none := by kernel_rfl
theorem pl34 : placesI Try.prog 34 = some [(0, 1), (1, 1)] := by kernel_rfl
theorem fi34_0 : fieldI Try.prog 34 0 = some (0, 1, false) := by kernel_rfl
theorem fi34_1 : fieldI Try.prog 34 1 = some (1, 1, false) := by kernel_rfl
theorem ty35 : tyI Try.prog 35 = some ⟨true, 2, [(.slice none 0 0), (.slice none 0 0)], 48⟩ := by kernel_rfl
theorem el35 : elemI Try.prog 35 = none := by kernel_rfl
theorem pl35 : placesI Try.prog 35 = some [(0, 1), (1, 1)] := by kernel_rfl
theorem fi35_0 : fieldI Try.prog 35 0 = some (0, 1, false) := by kernel_rfl
theorem fi35_1 : fieldI Try.prog 35 1 = some (1, 1, false) := by kernel_rfl
theorem ty36 : tyI Try.prog 36 = some ⟨false, 1, [.nilFunc], 8⟩ := by kernel_rfl
theorem el36 : elemI Try.prog 36 = none := by kernel_rfl
theorem ty37 : tyI Try.prog 37 = some ⟨true, 2, [(.int .i64 0), (.int .i64 0)], 16⟩ := by kernel_rfl
theorem el37 : elemI Try.prog 37 = none := by kernel_rfl
theorem eq37 : eqTy Try.prog 37 = some (.st [(0, 1, .it), (1, 1, .it)]) := by kernel_rfl
theorem pl37 : placesI Try.prog 37 = some [(0, 1), (1, 1)] := by kernel_rfl
theorem fi37_0 : fieldI Try.prog 37 0 = some (0, 1, false) := by kernel_rfl
theorem fi37_1 : fieldI Try.prog 37 1 = some (1, 1, false) := by kernel_rfl
theorem ty38 : tyI Try.prog 38 = some ⟨true, 2, [(.int .i64 0), (.int .i64 0)], 16⟩ := by kernel_rfl
theorem el38 : elemI Try.prog 38 = none := by kernel_rfl
theorem eq38 : eqTy Try.prog 38 = some (.st [(0, 1, .it), (1, 1, .it)]) := by kernel_rfl
theorem pl38 : placesI Try.prog 38 = some [(0, 1), (1, 1)] := by kernel_rfl
theorem fi38_0 : fieldI Try.prog 38 0 = some (0, 1, false) := by kernel_rfl
theorem fi38_1 : fieldI Try.prog 38 1 = some (1, 1, false) := by kernel_rfl
theorem ty39 : tyI Try.prog 39 = some ⟨false, 1, [(.int .i64 0)], 8⟩ := by kernel_rfl
theorem el39 : elemI Try.prog 39 = none := by kernel_rfl
theorem it39 : intI Try.prog 39 = some .i64 := by kernel_rfl
theorem el40 : elemI Try.prog 40 = none := by kernel_rfl
theorem ty41 : tyI Try.prog 41 = some ⟨false, 1, [.nilFunc], 8⟩ := by kernel_rfl
theorem el41 : elemI Try.prog 41 = none := by kernel_rfl
theorem ty42 : tyI Try.prog 42 = some ⟨false, 1, [.nilFunc], 8⟩ := by kernel_rfl
theorem el42 : elemI Try.prog 42 = none := by kernel_rfl
theorem ty43 : tyI Try.prog 43 = some ⟨false, 1, [.nilFunc], 8⟩ := by kernel_rfl
theorem el43 : elemI Try.prog 43 = none := by kernel_rfl
theorem ty44 : tyI Try.prog 44 = some ⟨false, 1, [.nilFunc], 8⟩ := by kernel_rfl
theorem el44 : elemI Try.prog 44 = none := by kernel_rfl
theorem ty45 : tyI Try.prog 45 = some ⟨false, 1, [.nilFunc], 8⟩ := by kernel_rfl
theorem el45 : elemI Try.prog 45 = none := by kernel_rfl
theorem ty46 : tyI Try.prog 46 = some ⟨true, 11, [(.int .i64 0), (.int .i64 0), (.int .i64 0), (.int .i64 0), (.int .i64 0), (.int .i64 0), (.int .i64 0), (.int .i64 0), (.int .i64 0), (.int .i64 0), (.bool false)], 88⟩ := by kernel_rfl
theorem el46 : elemI Try.prog 46 = none := by kernel_rfl
theorem eq46 : eqTy Try.prog 46 = some (.st [(0, 2, (.st [(0, 1, .it), (1, 1, .it)])), (2, 2, (.st [(0, 1, .it), (1, 1, .it)])), (4, 2, (.st [(0, 1, .it), (1, 1, .it)])), (6, 2, (.st [(0, 1, .it), (1, 1, .it)])), (8, 2, (.st [(0, 1, .it), (1, 1, .it)])), (10, 1, .bl)]) := by kernel_rfl
theorem pl46 : placesI Try.prog 46 = some [(0, 2), (2, 2), (4, 2), (6, 2), (8, 2), (10, 1)] := by kernel_rfl
theorem fi46_0 : fieldI Try.prog 46 0 = some (0, 2, true) := by kernel_rfl
theorem fi46_1 : fieldI Try.prog 46 1 = some (2, 2, true) := by kernel_rfl
theorem fi46_2 : fieldI Try.prog 46 2 = some (4, 2, true) := by kernel_rfl
theorem fi46_3 : fieldI Try.prog 46 3 = some (6, 2, true) := by kernel_rfl
theorem fi46_4 : fieldI Try.prog 46 4 = some (8, 2, true) := by kernel_rfl
theorem fi46_5 : fieldI Try.prog 46 5 = some (10, 1, false) := by kernel_rfl
theorem ty47 : tyI Try.prog 47 = some ⟨true, 11, [(.int .i64 0), (.int .i64 0), (.int .i64 0), (.int .i64 0), (.int .i64 0), (.int .i64 0), (.int .i64 0), (.int .i64 0), (.int .i64 0), (.int .i64 0), (.bool false)], 88⟩ := by kernel_rfl
theorem el47 : elemI Try.prog 47 = none := by kernel_rfl
theorem eq47 : eqTy Try.prog 47 = some (.st [(0, 2, (.st [(0, 1, .it), (1, 1, .it)])), (2, 2, (.st [(0, 1, .it), (1, 1, .it)])), (4, 2, (.st [(0, 1, .it), (1, 1, .it)])), (6, 2, (.st [(0, 1, .it), (1, 1, .it)])), (8, 2, (.st [(0, 1, .it), (1, 1, .it)])), (10, 1, .bl)]) := by kernel_rfl
theorem pl47 : placesI Try.prog 47 = some [(0, 2), (2, 2), (4, 2), (6, 2), (8, 2), (10, 1)] := by kernel_rfl
theorem fi47_0 : fieldI Try.prog 47 0 = some (0, 2, true) := by kernel_rfl
theorem fi47_1 : fieldI Try.prog 47 1 = some (2, 2, true) := by kernel_rfl
theorem fi47_2 : fieldI Try.prog 47 2 = some (4, 2, true) := by kernel_rfl
theorem fi47_3 : fieldI Try.prog 47 3 = some (6, 2, true) := by kernel_rfl
theorem fi47_4 : fieldI Try.prog 47 4 = some (8, 2, true) := by kernel_rfl
theorem fi47_5 : fieldI Try.prog 47 5 = some (10, 1, false) := by kernel_rfl
theorem ty48 : tyI Try.prog 48 = some ⟨true, 7, [(.int .i64 0), (.slice none 0 0), (.int .i64 0), (.slice none 0 0), (.slice none 0 0), (.int .i64 0), (.bool false)], 104⟩ := by kernel_rfl
theorem el48 : elemI Try.prog 48 = none := by kernel_rfl
theorem pl48 : placesI Try.prog 48 = some [(0, 1), (1, 1), (2, 1), (3, 1), (4, 1), (5, 1), (6, 1)] := by kernel_rfl
theorem fi48_0 : fieldI Try.prog 48 0 = some (0, 1, false) := by kernel_rfl
theorem fi48_1 : fieldI Try.prog 48 1 = some (1, 1, false) := by kernel_rfl
theorem fi48_2 : fieldI Try.prog 48 2 = some (2, 1, false) := by kernel_rfl
theorem fi48_3 : fieldI Try.prog 48 3 = some (3, 1, false) := by kernel_rfl
theorem fi48_4 : fieldI Try.prog 48 4 = some (4, 1, false) := by kernel_rfl
theorem fi48_5 : fieldI Try.prog 48 5 = some (5, 1, false) := by kernel_rfl
theorem fi48_6 : fieldI Try.prog 48 6 = some (6, 1, false) := by kernel_rfl
theorem ty49 : tyI Try.prog 49 = some ⟨true, 7, [(.int .i64 0), (.slice none 0 0), (.int .i64 0), (.slice none 0 0), (.slice none 0 0), (.int .i64 0), (.bool false)], 104⟩ := by kernel_rfl
theorem el49 : elemI Try.prog 49 = none := by kernel_rfl
theorem pl49 : placesI Try.prog 49 = some [(0, 1), (1, 1), (2, 1), (3, 1), (4, 1), (5, 1), (6, 1)] := by kernel_rfl
theorem fi49_0 : fieldI Try.prog 49 0 = some (0, 1, false) := by kernel_rfl
theorem fi49_1 : fieldI Try.prog 49 1 = some (1, 1, false) := by kernel_rfl
theorem fi49_2 : fieldI Try.prog 49 2 = some (2, 1, false) := by kernel_rfl
theorem fi49_3 : fieldI Try.prog 49 3 = some (3, 1, false) := by kernel_rfl
theorem fi49_4 : fieldI Try.prog 49 4 = some (4, 1, false) := by kernel_rfl
theorem fi49_5 : fieldI Try.prog 49 5 = some (5, 1, false) := by kernel_rfl
theorem fi49_6 : fieldI Try.prog 49 6 = some (6, 1, false) := by kernel_rfl
theorem el50 : elemI Try.prog 50 = none := by kernel_rfl
theorem ty51 : tyI Try.prog 51 = some ⟨false, 1, [.nilFunc], 8⟩ := by kernel_rfl
theorem el51 : elemI Try.prog 51 = none := by kernel_rfl
theorem ty52 : tyI Try.prog 52 = some ⟨false, 1, [(.slice none 0 0)], 24⟩ := by kernel_rfl
theorem el52 : elemI Try.prog 52 = some 147 := by kernel_rfl
theorem el53 : elemI Try.prog 53 = none := by kernel_rfl
theorem ty54 : tyI Try.prog 54 = some ⟨false, 1, [.nilFunc], 8⟩ := by kernel_rfl
theorem el54 : elemI Try.prog 54 = none := by kernel_rfl
theorem ty55 : tyI Try.prog 55 = some ⟨false, 1, [.nilFunc], 8⟩ := by kernel_rfl
theorem el55 : elemI Try.prog 55 = none := by kernel_rfl
theorem el56 : elemI Try.prog 56 = none := by kernel_rfl
theorem ty57 : tyI Try.prog 57 = some ⟨false, 1, [.nilFunc], 8⟩ := by kernel_rfl
theorem el57 : elemI Try.prog 57 = none := by kernel_rfl
theorem ty58 : tyI Try.prog 58 = some ⟨false, 1, [.nilFunc], 8⟩ := by kernel_rfl
theorem el58 : elemI Try.prog 58 = none := by kernel_rfl
theorem ty59 : tyI Try.prog 59 = some ⟨false, 1, [.nilFunc], 8⟩ := by kernel_rfl
theorem el59 : elemI Try.prog 59 = none := by kernel_rfl
theorem ty60 : tyI Try.prog 60 = some ⟨true, 9, [(.int .u8 0), (.int .u8 0), (.int .u8 0), (.int .u8 0), (.int .u8 0), (.int .u8 0), (.int .u8 0), (.int .u8 0), (.int .u8 0)], 9⟩ := by kernel_rfl
theorem el60 : elemI Try.prog 60 = none := by kernel_rfl
theorem ar60 : arrI Try.prog 60 = some (9, 5) := by kernel_rfl
theorem pl60 : placesI Try.prog 60 = some [(0, 1), (1, 1), (2, 1), (3, 1), (4, 1), (5, 1), (6, 1), (7, 1), (8, 1)] := by kernel_rfl
theorem ty61 : tyI Try.prog 61 = some ⟨true, 2, [(.int .u8 0), (.int .u8 0)], 2⟩ := by kernel_rfl
theorem el61 : elemI Try.prog 61 = none := by kernel_rfl
theorem ar61 : arrI Try.prog 61 = some (2, 5) := by kernel_rfl
theorem pl61 : placesI Try.prog 61 = some [(0, 1), (1, 1)] := by kernel_rfl
theorem el62 : elemI Try.prog 62 = none := by kernel_rfl
theorem ty63 : tyI Try.prog 63 = some ⟨false, 1, [.nilFunc], 8⟩ := by kernel_rfl
theorem el63 : elemI Try.prog 63 = none := by kernel_rfl
theorem ty64 : tyI Try.prog 64 = some ⟨false, 1, [(.int .u64 0)], 8⟩ := by kernel_rfl
theorem el64 : elemI Try.prog 64 = none := by kernel_rfl
theorem it64 : intI Try.prog 64 = some .u64 := by kernel_rfl
theorem ty65 : tyI Try.prog 65 = some ⟨false, 1, [(.slice none 0 0)], 24⟩ := by kernel_rfl
theorem el65 : elemI Try.prog 65 = some 33 := by kernel_rfl
theorem ty66 : tyI Try.prog 66 = some ⟨true, 3, [(.int .i64 0), (.int .i64 0), (.slice none 0 0)], 40⟩ := by kernel_rfl
theorem el66 : elemI Try.prog 66 = none := by kernel_rfl
theorem pl66 : placesI Try.prog 66 = some [(0, 1), (1, 1), (2, 1)] := by kernel_rfl
theorem fi66_0 : fieldI Try.prog 66 0 = some (0, 1, false) := by kernel_rfl
theorem fi66_1 : fieldI Try.prog 66 1 = some (1, 1, false) := by kernel_rfl
theorem fi66_2 : fieldI Try.prog 66 2 = some (2, 1, false) := by kernel_rfl
theorem ty67 : tyI Try.prog 67 = some ⟨true, 3, [(.int .i64 0), (.int .i64 0), (.slice none 0 0)], 40⟩ := by kernel_rfl
theorem el67 : elemI Try.prog 67 = none := by kernel_rfl
theorem pl67 : placesI Try.prog 67 = some [(0, 1), (1, 1), (2, 1)] := by kernel_rfl
theorem fi67_0 : fieldI Try.prog 67 0 = some (0, 1, false) := by kernel_rfl
theorem fi67_1 : fieldI Try.prog 67 1 = some (1, 1, false) := by kernel_rfl
theorem fi67_2 : fieldI Try.prog 67 2 = some (2, 1, false) := by kernel_rfl
theorem ty68 : tyI Try.prog 68 = some ⟨false, 1, [.nilFunc], 8⟩ := by kernel_rfl
theorem el68 : elemI Try.prog 68 = none := by kernel_rfl
theorem ty69 : tyI Try.prog 69 = some ⟨false, 1, [.nilFunc], 8⟩ := by kernel_rfl
theorem el69 : elemI Try.prog 69 = none := by kernel_rfl
theorem ty70 : tyI Try.prog 70 = some ⟨true, 4, [(.int .i64 0), (.int .i64 0), (.int .i64 0), (.int .i64 0)], 32⟩ := by kernel_rfl
theorem el70 : elemI Try.prog 70 = none := by kernel_rfl
theorem eq70 : eqTy Try.prog 70 = some (.st [(0, 2, (.st [(0, 1, .it), (1, 1, .it)])), (2, 2, (.st [(0, 1, .it), (1, 1, .it)]))]) := by kernel_rfl
theorem pl70 : placesI Try.prog 70 = some [(0, 2), (2, 2)] := by kernel_rfl
theorem fi70_0 : fieldI Try.prog 70 0 = some (0, 2, true) := by kernel_rfl
theorem fi70_1 : fieldI Try.prog 70 1 = some (2, 2, true) := by kernel_rfl
theorem ty71 : tyI Try.prog 71 = some ⟨true, 4, [(.int .i64 0), (.int .i64 0), (.int .i64 0), (.int .i64 0)], 32⟩ := by kernel_rfl
theorem el71 : elemI Try.prog 71 = none := by kernel_rfl
theorem eq71 : eqTy Try.prog 71 = some (.st [(0, 2, (.st [(0, 1, .it), (1, 1, .it)])), (2, 2, (.st [(0, 1, .it), (1, 1, .it)]))]) := by kernel_rfl
theorem pl71 : placesI Try.prog 71 = some [(0, 2), (2, 2)] := by kernel_rfl
theorem fi71_0 : fieldI Try.prog 71 0 = some (0, 2, true) := by kernel_rfl
theorem fi71_1 : fieldI Try.prog 71 1 = some (2, 2, true) := by kernel_rfl
theorem ty72 : tyI Try.prog 72 = some ⟨false, 1, [(.slice none 0 0)], 24⟩ := by kernel_rfl
theorem el72 : elemI Try.prog 72 = some 38 := by kernel_rfl
theorem el73 : elemI Try.prog 73 = none := by kernel_rfl
theorem ty74 : tyI Try.prog 74 = some ⟨false, 1, [.nilFunc], 8⟩ := by kernel_rfl
theorem el74 : elemI Try.prog 74 = none := by kernel_rfl
theorem ty75 : tyI Try.prog 75 = some ⟨false, 1, [(.slice none 0 0)], 24⟩ := by kernel_rfl
theorem el75 : elemI Try.prog 75 = some 71 := by kernel_rfl
theorem el76 : elemI Try.prog 76 = none := by kernel_rfl
theorem ty77 : tyI Try.prog 77 = some ⟨false, 1, [.nilFunc], 8⟩ := by kernel_rfl
theorem el77 : elemI Try.prog 77 = none := by kernel_rfl
theorem ty78 : tyI Try.prog 78 = some ⟨false, 1, [(.slice none 0 0)], 24⟩ := by kernel_rfl
theorem el78 : elemI Try.prog 78 = some 9 := by kernel_rfl
theorem el79 : elemI Try.prog 79 = none := by kernel_rfl
theorem ty80 : tyI Try.prog 80 = some ⟨false, 1, [.nilFunc], 8⟩ := by kernel_rfl
theorem el80 : elemI Try.prog 80 = none := by kernel_rfl
theorem ty81 : tyI Try.prog 81 = some ⟨true, 2, [(.int .i64 0), (.int .i64 0)], 16⟩ := by kernel_rfl
theorem el81 : elemI Try.prog 81 = none := by kernel_rfl
theorem eq81 : eqTy Try.prog 81 = some (.st [(0, 1, .it), (1, 1, .it)]) := by kernel_rfl
theorem pl81 : placesI Try.prog 81 = some [(0, 1), (1, 1)] := by kernel_rfl
theorem fi81_0 : fieldI Try.prog 81 0 = some (0, 1, false) := by kernel_rfl
theorem fi81_1 : fieldI Try.prog 81 1 = some (1, 1, false) := by kernel_rfl
theorem ty82 : tyI Try.prog 82 = some ⟨true, 2, [(.int .i64 0), (.int .i64 0)], 16⟩ := by kernel_rfl
theorem el82 : elemI Try.prog 82 = none := by kernel_rfl
theorem eq82 : eqTy Try.prog 82 = some (.st [(0, 1, .it), (1, 1, .it)]) := by kernel_rfl
theorem pl82 : placesI Try.prog 82 = some [(0, 1), (1, 1)] := by kernel_rfl
theorem fi82_0 : fieldI Try.prog 82 0 = some (0, 1, false) := by kernel_rfl
theorem fi82_1 : fieldI Try.prog 82 1 = some (1, 1, false) := by kernel_rfl
theorem ty83 : tyI Try.prog 83 = some ⟨false, 1, [(.slice none 0 0)], 24⟩ := by kernel_rfl
theorem el83 : elemI Try.prog 83 = some 82 := by kernel_rfl
theorem ty84 : tyI Try.prog 84 = some ⟨false, 1, [.nilFunc], 8⟩ := by kernel_rfl
theorem el84 : elemI Try.prog 84 = none := by kernel_rfl
theorem ty85 : tyI Try.prog 85 = some ⟨true, 7, [(.int .u8 0), (.int .u8 0), (.int .u8 0), (.int .u8 0), (.int .u8 0), (.int .u8 0), (.int .u8 0)], 7⟩ := by kernel_rfl
theorem el85 : elemI Try.prog 85 = none := by kernel_rfl
theorem ar85 : arrI Try.prog 85 = some (7, 5) := by kernel_rfl
theorem pl85 : placesI Try.prog 85 = some [(0, 1), (1, 1), (2, 1), (3, 1), (4, 1), (5, 1), (6, 1)] := by kernel_rfl
theorem ty86 : tyI Try.prog 86 = some ⟨true, 21, [(.int .u8 0), (.int .u8 0), (.int .u8 0), (.int .u8 0), (.int .u8 0), (.int .u8 0), (.int .u8 0), (.int .u8 0), (.int .u8 0), (.int .u8 0), (.int .u8 0), (.int .u8 0), (.int .u8 0), (.int .u8 0), (.int .u8 0), (.int .u8 0), (.int .u8 0), (.int .u8 0), (.int .u8 0), (.int .u8 0), (.int .u8 0)], 21⟩ := by kernel_rfl
theorem el86 : elemI Try.prog 86 = none := by kernel_rfl
theorem ar86 : arrI Try.prog 86 = some (3, 85) := by kernel_rfl
theorem pl86 : placesI Try.prog 86 = some [(0, 7), (7, 7), (14, 7)] := by kernel_rfl
theorem ty87 : tyI Try.prog 87 = some ⟨true, 3, [(.int .u8 0), (.int .u8 0), (.int .u8 0)], 3⟩ := by kernel_rfl
theorem el87 : elemI Try.prog 87 = none := by kernel_rfl
theorem ar87 : arrI Try.prog 87 = some (3, 5) := by kernel_rfl
theorem pl87 : placesI Try.prog 87 = some [(0, 1), (1, 1), (2, 1)] := by kernel_rfl
theorem ty88 : tyI Try.prog 88 = some ⟨true, 9, [(.int .u8 0), (.int .u8 0), (.int .u8 0), (.int .u8 0), (.int .u8 0), (.int .u8 0), (.int .u8 0), (.int .u8 0), (.int .u8 0)], 9⟩ := by kernel_rfl
theorem el88 : elemI Try.prog 88 = none := by kernel_rfl
theorem ar88 : arrI Try.prog 88 = some (3, 87) := by kernel_rfl
theorem pl88 : placesI Try.prog 88 = some [(0, 3), (3, 3), (6, 3)] := by kernel_rfl
theorem ty89 : tyI Try.prog 89 = some ⟨true, 31, [(.int .u8 0), (.int .u8 0), (.int .u8 0), (.int .u8 0), (.int .u8 0), (.int .u8 0), (.int .u8 0), (.int .u8 0), (.int .u8 0), (.int .u8 0), (.int .u8 0), (.int .u8 0), (.int .u8 0), (.int .u8 0), (.int .u8 0), (.int .u8 0), (.int .u8 0), (.int .u8 0), (.int .u8 0), (.int .u8 0), (.int .u8 0), (.int .u8 0), (.int .u8 0), (.int .u8 0), (.int .u8 0), (.int .u8 0), (.int .u8 0), (.int .u8 0), (.int .u8 0), (.int .u8 0), (.int .u8 0)], 31⟩ := by kernel_rfl
theorem el89 : elemI Try.prog 89 = none := by kernel_rfl
theorem pl89 : placesI Try.prog 89 = some [(0, 21), (21, 1), (22, 9)] := by kernel_rfl
theorem fi89_0 : fieldI Try.prog 89 0 = some (0, 21, true) := by kernel_rfl
theorem fi89_1 : fieldI Try.prog 89 1 = some (21, 1, false) := by kernel_rfl
theorem fi89_2 : fieldI Try.prog 89 2 = some (22, 9, true) := by kernel_rfl
theorem ty90 : tyI Try.prog 90 = some ⟨true, 31, [(.int .u8 0), (.int .u8 0), (.int .u8 0), (.int .u8 0), (.int .u8 0), (.int .u8 0), (.int .u8 0), (.int .u8 0), (.int .u8 0), (.int .u8 0), (.int .u8 0), (.int .u8 0), (.int .u8 0), (.int .u8 0), (.int .u8 0), (.int .u8 0), (.int .u8 0), (.int .u8 0), (.int .u8 0), (.int .u8 0), (.int .u8 0), (.int .u8 0), (.int .u8 0), (.int .u8 0), (.int .u8 0), (.int .u8 0), (.int .u8 0), (.int .u8 0), (.int .u8 0), (.int .u8 0), (.int .u8 0)], 31⟩ := by kernel_rfl
theorem el90 : elemI Try.prog 90 = none := by kernel_rfl
theorem pl90 : placesI Try.prog 90 = some [(0, 21), (21, 1), (22, 9)] := by kernel_rfl
theorem fi90_0 : fieldI Try.prog 90 0 = some (0, 21, true) := by kernel_rfl
theorem fi90_1 : fieldI Try.prog 90 1 = some (21, 1, false) := by kernel_rfl
theorem fi90_2 : fieldI Try.prog 90 2 = some (22, 9, true) := by kernel_rfl
theorem ty91 : tyI Try.prog 91 = some ⟨true, 4, [(.int .u8 0), (.int .u8 0), (.int .u8 0), (.int .u8 0)], 4⟩ := by kernel_rfl
theorem el91 : elemI Try.prog 91 = none := by kernel_rfl
theorem ar91 : arrI Try.prog 91 = some (4, 5) := by kernel_rfl
theorem pl91 : placesI Try.prog 91 = some [(0, 1), (1, 1), (2, 1), (3, 1)] := by kernel_rfl
theorem ty92 : tyI Try.prog 92 = some ⟨true, 12, [(.int .u8 0), (.int .u8 0), (.int .u8 0), (.int .u8 0), (.int .u8 0), (.int .u8 0), (.int .u8 0), (.int .u8 0), (.int .u8 0), (.int .u8 0), (.int .u8 0), (.int .u8 0)], 12⟩ := by kernel_rfl
theorem el92 : elemI Try.prog 92 = none := by kernel_rfl
theorem ar92 : arrI Try.prog 92 = some (3, 91) := by kernel_rfl
theorem pl92 : placesI Try.prog 92 = some [(0, 4), (4, 4), (8, 4)] := by kernel_rfl
theorem ty93 : tyI Try.prog 93 = some ⟨true, 6, [(.int .u8 0), (.int .u8 0), (.int .u8 0), (.int .u8 0), (.int .u8 0), (.int .u8 0)], 6⟩ := by kernel_rfl
theorem el93 : elemI Try.prog 93 = none := by kernel_rfl
theorem ar93 : arrI Try.prog 93 = some (2, 87) := by kernel_rfl
theorem pl93 : placesI Try.prog 93 = some [(0, 3), (3, 3)] := by kernel_rfl
theorem ty94 : tyI Try.prog 94 = some ⟨true, 25, [(.int .u8 0), (.int .u8 0), (.int .u8 0), (.int .u8 0), (.int .u8 0), (.int .u8 0), (.int .u8 0), (.int .u8 0), (.int .u8 0), (.int .u8 0), (.int .u8 0), (.int .u8 0), (.int .u8 0), (.int .u8 0), (.int .u8 0), (.int .u8 0), (.int .u8 0), (.int .u8 0), (.int .u8 0), (.int .u8 0), (.int .u8 0), (.int .u8 0), (.int .u8 0), (.int .u8 0), (.int .u8 0)], 25⟩ := by kernel_rfl
theorem el94 : elemI Try.prog 94 = none := by kernel_rfl
theorem pl94 : placesI Try.prog 94 = some [(0, 12), (12, 6), (18, 7)] := by kernel_rfl
theorem fi94_0 : fieldI Try.prog 94 0 = some (0, 12, true) := by kernel_rfl
theorem fi94_1 : fieldI Try.prog 94 1 = some (12, 6, true) := by kernel_rfl
theorem fi94_2 : fieldI Try.prog 94 2 = some (18, 7, true) := by kernel_rfl
theorem ty95 : tyI Try.prog 95 = some ⟨true, 25, [(.int .u8 0), (.int .u8 0), (.int .u8 0), (.int .u8 0), (.int .u8 0), (.int .u8 0), (.int .u8 0), (.int .u8 0), (.int .u8 0), (.int .u8 0), (.int .u8 0), (.int .u8 0), (.int .u8 0), (.int .u8 0), (.int .u8 0), (.int .u8 0), (.int .u8 0), (.int .u8 0), (.int .u8 0), (.int .u8 0), (.int .u8 0), (.int .u8 0), (.int .u8 0), (.int .u8 0), (.int .u8 0)], 25⟩ := by kernel_rfl
theorem el95 : elemI Try.prog 95 = none := by kernel_rfl
theorem pl95 : placesI Try.prog 95 = some [(0, 12), (12, 6), (18, 7)] := by kernel_rfl
theorem fi95_0 : fieldI Try.prog 95 0 = some (0, 12, true) := by kernel_rfl
theorem fi95_1 : fieldI Try.prog 95 1 = some (12, 6, true) := by kernel_rfl
theorem fi95_2 : fieldI Try.prog 95 2 = some (18, 7, true) := by kernel_rfl
theorem ty96 : tyI Try.prog 96 = some ⟨false, 1, [(.slice none 0 0)], 24⟩ := by kernel_rfl
theorem el96 : elemI Try.prog 96 = some 49 := by kernel_rfl
theorem el97 : elemI Try.prog 97 = none := by kernel_rfl
theorem ty98 : tyI Try.prog 98 = some ⟨false, 1, [.nilFunc], 8⟩ := by kernel_rfl
theorem el98 : elemI Try.prog 98 = none := by kernel_rfl
theorem ty99 : tyI Try.prog 99 = some ⟨true, 4, [(.int .i64 0), (.int .i64 0), (.int .i64 0), (.int .i64 0)], 32⟩ := by kernel_rfl
theorem el99 : elemI Try.prog 99 = none := by kernel_rfl
theorem eq99 : eqTy Try.prog 99 = some (.st [(0, 1, .it), (1, 2, (.st [(0, 1, .it), (1, 1, .it)])), (3, 1, .it)]) := by kernel_rfl
theorem pl99 : placesI Try.prog 99 = some [(0, 1), (1, 2), (3, 1)] := by kernel_rfl
theorem fi99_0 : fieldI Try.prog 99 0 = some (0, 1, false) := by kernel_rfl
theorem fi99_1 : fieldI Try.prog 99 1 = some (1, 2, true) := by kernel_rfl
theorem fi99_2 : fieldI Try.prog 99 2 = some (3, 1, false) := by kernel_rfl
theorem ty100 : tyI Try.prog 100 = some ⟨true, 4, [(.int .i64 0), (.int .i64 0), (.int .i64 0), (.int .i64 0)], 32⟩ := by kernel_rfl
theorem el100 : elemI Try.prog 100 = none := by kernel_rfl
theorem eq100 : eqTy Try.prog 100 = some (.st [(0, 1, .it), (1, 2, (.st [(0, 1, .it), (1, 1, .it)])), (3, 1, .it)]) := by kernel_rfl
theorem pl100 : placesI Try.prog 100 = some [(0, 1), (1, 2), (3, 1)] := by kernel_rfl
theorem fi100_0 : fieldI Try.prog 100 0 = some (0, 1, false) := by kernel_rfl
theorem fi100_1 : fieldI Try.prog 100 1 = some (1, 2, true) := by kernel_rfl
theorem fi100_2 : fieldI Try.prog 100 2 = some (3, 1, false) := by kernel_rfl
theorem ty101 : tyI Try.prog 101 = some ⟨false, 1, [(.slice none 0 0)], 24⟩ := by kernel_rfl
theorem el101 : elemI Try.prog 101 = some 112 := by kernel_rfl
theorem ty102 : tyI Try.prog 102 = some ⟨false, 1, [(.slice none 0 0)], 24⟩ := by kernel_rfl
theorem el102 : elemI Try.prog 102 = some 110 := by kernel_rfl
theorem el103 : elemI Try.prog 103 = none := by kernel_rfl
theorem ty104 : tyI Try.prog 104 = some ⟨false, 1, [.nilFunc], 8⟩ := by kernel_rfl
theorem el104 : elemI Try.prog 104 = none := by kernel_rfl
theorem el105 : elemI Try.prog 105 = none := by kernel_rfl
theorem ty106 : tyI Try.prog 106 = some ⟨false, 1, [.nilFunc], 8⟩ := by kernel_rfl
theorem el106 : elemI Try.prog 106 = none := by kernel_rfl
theorem ty107 : tyI Try.prog 107 = some ⟨false, 1, [.nilFunc], 8⟩ := by kernel_rfl
theorem el107 : elemI Try.prog 107 = none := by kernel_rfl
theorem ty108 : tyI Try.prog 108 = some ⟨false, 1, [.nilFunc], 8⟩ := by kernel_rfl
theorem el108 : elemI Try.prog 108 = none := by kernel_rfl
theorem ty109 : tyI Try.prog 109 = some ⟨true, 2, [(.slice none 0 0), (.int .i64 0)], 32⟩ := by kernel_rfl
theorem el109 : elemI Try.prog 109 = none := by kernel_rfl
theorem pl109 : placesI Try.prog 109 = some [(0, 1), (1, 1)] := by kernel_rfl
theorem fi109_0 : fieldI Try.prog 109 0 = some (0, 1, false) := by kernel_rfl
theorem fi109_1 : fieldI Try.prog 109 1 = some (1, 1, false) := by kernel_rfl
theorem ty110 : tyI Try.prog 110 = some ⟨true, 2, [(.slice none 0 0), (.int .i64 0)], 32⟩ := by kernel_rfl
theorem el110 : elemI Try.prog 110 = none := by kernel_rfl
theorem pl110 : placesI Try.prog 110 = some [(0, 1), (1, 1)] := by kernel_rfl
theorem fi110_0 : fieldI Try.prog 110 0 = some (0, 1, false) := by kernel_rfl
theorem fi110_1 : fieldI Try.prog 110 1 = some (1, 1, false) := by kernel_rfl
theorem ty111 : tyI Try.prog 111 = some ⟨true, 3, [(.int .i64 0), (.int .i64 0), (.int .i64 0)], 24⟩ := by kernel_rfl
theorem el111 : elemI Try.prog 111 = none := by kernel_rfl
theorem eq111 : eqTy Try.prog 111 = some (.st [(0, 1, .it), (1, 2, (.st [(0, 1, .it), (1, 1, .it)]))]) := by kernel_rfl
theorem pl111 : placesI Try.prog 111 = some [(0, 1), (1, 2)] := by kernel_rfl
theorem fi111_0 : fieldI Try.prog 111 0 = some (0, 1, false) := by kernel_rfl
theorem fi111_1 : fieldI Try.prog 111 1 = some (1, 2, true) := by kernel_rfl
theorem ty112 : tyI Try.prog 112 = some ⟨true, 3, [(.int .i64 0), (.int .i64 0), (.int .i64 0)], 24⟩ := by kernel_rfl
theorem el112 : elemI Try.prog 112 = none := by kernel_rfl
theorem eq112 : eqTy Try.prog 112 = some (.st [(0, 1, .it), (1, 2, (.st [(0, 1, .it), (1, 1, .it)]))]) := by kernel_rfl
theorem pl112 : placesI Try.prog 112 = some [(0, 1), (1, 2)] := by kernel_rfl
theorem fi112_0 : fieldI Try.prog 112 0 = some (0, 1, false) := by kernel_rfl
theorem fi112_1 : fieldI Try.prog 112 1 = some (1, 2, true) := by kernel_rfl
theorem ty113 : tyI Try.prog 113 = some ⟨true, 4, [(.int .i64 0), (.int .i64 0), (.int .i64 0), (.int .i64 0)], 32⟩ := by kernel_rfl
theorem el113 : elemI Try.prog 113 = none := by kernel_rfl
theorem eq113 : eqTy Try.prog 113 = some (.st [(0, 1, .it), (1, 1, .it), (2, 2, (.st [(0, 1, .it), (1, 1, .it)]))]) := by kernel_rfl
theorem pl113 : placesI Try.prog 113 = some [(0, 1), (1, 1), (2, 2)] := by kernel_rfl
theorem fi113_0 : fieldI Try.prog 113 0 = some (0, 1, false) := by kernel_rfl
theorem fi113_1 : fieldI Try.prog 113 1 = some (1, 1, false) := by kernel_rfl
theorem fi113_2 : fieldI Try.prog 113 2 = some (2, 2, true) := by kernel_rfl
theorem ty114 : tyI Try.prog 114 = some ⟨true, 4, [(.int .i64 0), (.int .i64 0), (.int .i64 0), (.int .i64 0)], 32⟩ := by kernel_rfl
theorem el114 : elemI Try.prog 114 = none := by kernel_rfl
theorem eq114 : eqTy Try.prog 114 = some (.st [(0, 1, .it), (1, 1, .it), (2, 2, (.st [(0, 1, .it), (1, 1, .it)]))]) := by kernel_rfl
theorem pl114 : placesI Try.prog 114 = some [(0, 1), (1, 1), (2, 2)] := by kernel_rfl
theorem fi114_0 : fieldI Try.prog 114 0 = some (0, 1, false) := by kernel_rfl
theorem fi114_1 : fieldI Try.prog 114 1 = some (1, 1, false) := by kernel_rfl
theorem fi114_2 : fieldI Try.prog 114 2 = some (2, 2, true) := by kernel_rfl
theorem ty115 : tyI Try.prog 115 = some ⟨false, 1, [(.slice none 0 0)], 24⟩ := by kernel_rfl
theorem el115 : elemI Try.prog 115 = some 121 := by kernel_rfl
theorem ty116 : tyI Try.prog 116 = some ⟨true, 3, [(.slice none 0 0), (.slice none 0 0), (.slice none 0 0)], 72⟩ := by kernel_rfl
theorem el116 : elemI Try.prog 116 = none := by kernel_rfl
theorem ar116 : arrI Try.prog 116 = some (3, 115) := by kernel_rfl
theorem pl116 : placesI Try.prog 116 = some [(0, 1), (1, 1), (2, 1)] := by kernel_rfl
theorem el117 : elemI Try.prog 117 = none := by kernel_rfl
theorem ty118 : tyI Try.prog 118 = some ⟨false, 1, [.nilFunc], 8⟩ := by kernel_rfl
theorem el118 : elemI Try.prog 118 = none := by kernel_rfl
theorem ty119 : tyI Try.prog 119 = some ⟨true, 3, [(.int .i64 0), (.int .i64 0), (.int .i64 0)], 24⟩ := by kernel_rfl
theorem el119 : elemI Try.prog 119 = none := by kernel_rfl
theorem ar119 : arrI Try.prog 119 = some (3, 3) := by kernel_rfl
theorem pl119 : placesI Try.prog 119 = some [(0, 1), (1, 1), (2, 1)] := by kernel_rfl
theorem ty120 : tyI Try.prog 120 = some ⟨true, 2, [(.int .i64 0), (.int .i64 0)], 16⟩ := by kernel_rfl
theorem el120 : elemI Try.prog 120 = none := by kernel_rfl
theorem eq120 : eqTy Try.prog 120 = some (.st [(0, 1, .it), (1, 1, .it)]) := by kernel_rfl
theorem pl120 : placesI Try.prog 120 = some [(0, 1), (1, 1)] := by kernel_rfl
theorem fi120_0 : fieldI Try.prog 120 0 = some (0, 1, false) := by kernel_rfl
theorem fi120_1 : fieldI Try.prog 120 1 = some (1, 1, false) := by kernel_rfl
theorem ty121 : tyI Try.prog 121 = some ⟨true, 2, [(.int .i64 0), (.int .i64 0)], 16⟩ := by kernel_rfl
theorem el121 : elemI Try.prog 121 = none := by kernel_rfl
theorem eq121 : eqTy Try.prog 121 = some (.st [(0, 1, .it), (1, 1, .it)]) := by kernel_rfl
theorem pl121 : placesI Try.prog 121 = some [(0, 1), (1, 1)] := by kernel_rfl
theorem fi121_0 : fieldI Try.prog 121 0 = some (0, 1, false) := by kernel_rfl
theorem fi121_1 : fieldI Try.prog 121 1 = some (1, 1, false) := by kernel_rfl
theorem ty122 : tyI Try.prog 122 = some ⟨false, 1, [.nilFunc], 8⟩ := by kernel_rfl
theorem el122 : elemI Try.prog 122 = none := by kernel_rfl
theorem ty123 : tyI Try.prog 123 = some ⟨false, 1, [(.int .i64 0)], 8⟩ := by kernel_rfl
theorem el123 : elemI Try.prog 123 = none := by kernel_rfl
theorem it123 : intI Try.prog 123 = some .i64 := by kernel_rfl
theorem ty124 : tyI Try.prog 124 = some ⟨true, 8, [(.int .i64 0), (.int .i64 0), (.int .i64 0), (.int .i64 0), (.int .i64 0), (.int .i64 0), (.int .i64 0), (.int .i64 0)], 64⟩ := by kernel_rfl
theorem el124 : elemI Try.prog 124 = none := by kernel_rfl
theorem eq124 : eqTy Try.prog 124 = some (.st [(0, 1, .it), (1, 1, .it), (2, 2, (.st [(0, 1, .it), (1, 1, .it)])), (4, 2, (.st [(0, 1, .it), (1, 1, .it)])), (6, 1, .it), (7, 1, .it)]) := by kernel_rfl
theorem pl124 : placesI Try.prog 124 = some [(0, 1), (1, 1), (2, 2), (4, 2), (6, 1), (7, 1)] := by kernel_rfl
theorem fi124_0 : fieldI Try.prog 124 0 = some (0, 1, false) := by kernel_rfl
theorem fi124_1 : fieldI Try.prog 124 1 = some (1, 1, false) := by kernel_rfl
theorem fi124_2 : fieldI Try.prog 124 2 = some (2, 2, true) := by kernel_rfl
theorem fi124_3 : fieldI Try.prog 124 3 = some (4, 2, true) := by kernel_rfl
theorem fi124_4 : fieldI Try.prog 124 4 = some (6, 1, false) := by kernel_rfl
theorem fi124_5 : fieldI Try.prog 124 5 = some (7, 1, false) := by kernel_rfl
theorem ty125 : tyI Try.prog 125 = some ⟨true, 8, [(.int .i64 0), (.int .i64 0), (.int .i64 0), (.int .i64 0), (.int .i64 0), (.int .i64 0), (.int .i64 0), (.int .i64 0)], 64⟩ := by kernel_rfl
theorem el125 : elemI Try.prog 125 = none := by kernel_rfl
theorem eq125 : eqTy Try.prog 125 = some (.st [(0, 1, .it), (1, 1, .it), (2, 2, (.st [(0, 1, .it), (1, 1, .it)])), (4, 2, (.st [(0, 1, .it), (1, 1, .it)])), (6, 1, .it), (7, 1, .it)]) := by kernel_rfl
theorem pl125 : placesI Try.prog 125 = some [(0, 1), (1, 1), (2, 2), (4, 2), (6, 1), (7, 1)] := by kernel_rfl
theorem fi125_0 : fieldI Try.prog 125 0 = some (0, 1, false) := by kernel_rfl
theorem fi125_1 : fieldI Try.prog 125 1 = some (1, 1, false) := by kernel_rfl
theorem fi125_2 : fieldI Try.prog 125 2 = some (2, 2, true) := by kernel_rfl
theorem fi125_3 : fieldI Try.prog 125 3 = some (4, 2, true) := by kernel_rfl
theorem fi125_4 : fieldI Try.prog 125 4 = some (6, 1, false) := by kernel_rfl
theorem fi125_5 : fieldI Try.prog 125 5 = some (7, 1, false) := by kernel_rfl
theorem ty126 : tyI Try.prog 126 = some ⟨true, 2, [(.slice none 0 0), (.slice none 0 0)], 48⟩ := by kernel_rfl
theorem el126 : elemI Try.prog 126 = none := by kernel_rfl
theorem ar126 : arrI Try.prog 126 = some (2, 33) := by kernel_rfl
theorem pl126 : placesI Try.prog 126 = some [(0, 1), (1, 1)] := by kernel_rfl
theorem ty127 : tyI Try.prog 127 = some ⟨false, 1, [.nilFunc], 8⟩ := by kernel_rfl
theorem el127 : elemI Try.prog 127 = none := by kernel_rfl
theorem ty128 : tyI Try.prog 128 = some ⟨true, 5, [(.slice none 0 0), (.slice none 0 0), (.slice none 0 0), (.slice none 0 0), (.int .i64 0)], 104⟩ := by kernel_rfl
theorem el128 : elemI Try.prog 128 = none := by kernel_rfl
theorem pl128 : placesI Try.prog 128 = some [(0, 2), (2, 2), (4, 1)] := by kernel_rfl
theorem fi128_0 : fieldI Try.prog 128 0 = some (0, 2, true) := by kernel_rfl
theorem fi128_1 : fieldI Try.prog 128 1 = some (2, 2, true) := by kernel_rfl
theorem fi128_2 : fieldI Try.prog 128 2 = some (4, 1, false) := by kernel_rfl
theorem ty129 : tyI Try.prog 129 = some ⟨true, 5, [(.slice none 0 0), (.slice none 0 0), (.slice none 0 0), (.slice none 0 0), (.int .i64 0)], 104⟩ := by kernel_rfl
theorem el129 : elemI Try.prog 129 = none := by kernel_rfl
theorem pl129 : placesI Try.prog 129 = some [(0, 2), (2, 2), (4, 1)] := by kernel_rfl
theorem fi129_0 : fieldI Try.prog 129 0 = some (0, 2, true) := by kernel_rfl
theorem fi129_1 : fieldI Try.prog 129 1 = some (2, 2, true) := by kernel_rfl
theorem fi129_2 : fieldI Try.prog 129 2 = some (4, 1, false) := by kernel_rfl
theorem el130 : elemI Try.prog 130 = none := by kernel_rfl
theorem ty131 : tyI Try.prog 131 = some ⟨false, 1, [.nilFunc], 8⟩ := by kernel_rfl
theorem el131 : elemI Try.prog 131 = none := by kernel_rfl
theorem el132 : elemI Try.prog 132 = none := by kernel_rfl
theorem ty133 : tyI Try.prog 133 = some ⟨false, 1, [.nilFunc], 8⟩ := by kernel_rfl
theorem el133 : elemI Try.prog 133 = none := by kernel_rfl
theorem el134 : elemI Try.prog 134 = none := by kernel_rfl
theorem ty135 : tyI Try.prog 135 = some ⟨false, 1, [.nilFunc], 8⟩ := by kernel_rfl
theorem el135 : elemI Try.prog 135 = none := by kernel_rfl
theorem ty136 : tyI Try.prog 136 = some ⟨false, 1, [.nilFunc], 8⟩ := by kernel_rfl
theorem el136 : elemI Try.prog 136 = none := by kernel_rfl
theorem ty137 : tyI Try.prog 137 = some ⟨false, 1, [.nilFunc], 8⟩ := by kernel_rfl
theorem el137 : elemI Try.prog 137 = none := by kernel_rfl
theorem ty138 : tyI Try.prog 138 = some ⟨false, 1, [.nilFunc], 8⟩ := by kernel_rfl
theorem el138 : elemI Try.prog 138 = none := by kernel_rfl
theorem ty139 : tyI Try.prog 139 = some ⟨true, 13, [(.int .i64 0), (.int .i64 0), (.int .i64 0), (.int .i64 0), (.int .i64 0), (.int .i64 0), (.int .i64 0), (.int .i64 0), (.int .i64 0), (.int .i64 0), (.bool false), (.int .i64 0), (.int .i64 0)], 104⟩ := by kernel_rfl
theorem el139 : elemI Try.prog 139 = none := by kernel_rfl
theorem eq139 : eqTy Try.prog 139 = some (.st [(0, 11, (.st [(0, 2, (.st [(0, 1, .it), (1, 1, .it)])), (2, 2, (.st [(0, 1, .it), (1, 1, .it)])), (4, 2, (.st [(0, 1, .it), (1, 1, .it)])), (6, 2, (.st [(0, 1, .it), (1, 1, .it)])), (8, 2, (.st [(0, 1, .it), (1, 1, .it)])), (10, 1, .bl)])), (11, 2, (.st [(0, 1, .it), (1, 1, .it)]))]) := by kernel_rfl
theorem pl139 : placesI Try.prog 139 = some [(0, 11), (11, 2)] := by kernel_rfl
theorem fi139_0 : fieldI Try.prog 139 0 = some (0, 11, true) := by kernel_rfl
theorem fi139_1 : fieldI Try.prog 139 1 = some (11, 2, true) := by kernel_rfl
theorem ty140 : tyI Try.prog 140 = some ⟨true, 13, [(.int .i64 0), (.int .i64 0), (.int .i64 0), (.int .i64 0), (.int .i64 0), (.int .i64 0), (.int .i64 0), (.int .i64 0), (.int .i64 0), (.int .i64 0), (.bool false), (.int .i64 0), (.int .i64 0)], 104⟩ := by kernel_rfl
theorem el140 : elemI Try.prog 140 = none := by kernel_rfl
theorem eq140 : eqTy Try.prog 140 = some (.st [(0, 11, (.st [(0, 2, (.st [(0, 1, .it), (1, 1, .it)])), (2, 2, (.st [(0, 1, .it), (1, 1, .it)])), (4, 2, (.st [(0, 1, .it), (1, 1, .it)])), (6, 2, (.st [(0, 1, .it), (1, 1, .it)])), (8, 2, (.st [(0, 1, .it), (1, 1, .it)])), (10, 1, .bl)])), (11, 2, (.st [(0, 1, .it), (1, 1, .it)]))]) := by kernel_rfl
theorem pl140 : placesI Try.prog 140 = some [(0, 11), (11, 2)] := by kernel_rfl
theorem fi140_0 : fieldI Try.prog 140 0 = some (0, 11, true) := by kernel_rfl
theorem fi140_1 : fieldI Try.prog 140 1 = some (11, 2, true) := by kernel_rfl
theorem ty141 : tyI Try.prog 141 = some ⟨false, 1, [.nilFunc], 8⟩ := by kernel_rfl
theorem el141 : elemI Try.prog 141 = none := by kernel_rfl
theorem ty142 : tyI Try.prog 142 = some ⟨false, 1, [.nilFunc], 8⟩ := by kernel_rfl
theorem el142 : elemI Try.prog 142 = none := by kernel_rfl
theorem ty143 : tyI Try.prog 143 = some ⟨true, 7, [(.int .i64 0), (.slice none 0 0), (.int .i64 0), (.slice none 0 0), (.slice none 0 0), (.int .i64 0), (.bool false)], 104⟩ := by kernel_rfl
theorem el143 : elemI Try.prog 143 = none := by kernel_rfl
theorem pl143 : placesI Try.prog 143 = some [(0, 7)] := by kernel_rfl
theorem fi143_0 : fieldI Try.prog 143 0 = some (0, 7, true) := by kernel_rfl
theorem ty144 : tyI Try.prog 144 = some ⟨true, 7, [(.int .i64 0), (.slice none 0 0), (.int .i64 0), (.slice none 0 0), (.slice none 0 0), (.int .i64 0), (.bool false)], 104⟩ := by kernel_rfl
theorem el144 : elemI Try.prog 144 = none := by kernel_rfl
theorem pl144 : placesI Try.prog 144 = some [(0, 7)] := by kernel_rfl
theorem fi144_0 : fieldI Try.prog 144 0 = some (0, 7, true) := by kernel_rfl
theorem ty145 : tyI Try.prog 145 = some ⟨false, 1, [.nilFunc], 8⟩ := by kernel_rfl
theorem el145 : elemI Try.prog 145 = none := by kernel_rfl
theorem ty146 : tyI Try.prog 146 = some ⟨true, 2, [(.int .i64 0), (.int .i64 0)], 16⟩ := by kernel_rfl
theorem el146 : elemI Try.prog 146 = none := by kernel_rfl
theorem eq146 : eqTy Try.prog 146 = some (.st [(0, 1, .it), (1, 1, .it)]) := by kernel_rfl
theorem pl146 : placesI Try.prog 146 = some [(0, 1), (1, 1)] := by kernel_rfl
theorem fi146_0 : fieldI Try.prog 146 0 = some (0, 1, false) := by kernel_rfl
theorem fi146_1 : fieldI Try.prog 146 1 = some (1, 1, false) := by kernel_rfl
theorem ty147 : tyI Try.prog 147 = some ⟨true, 2, [(.int .i64 0), (.int .i64 0)], 16⟩ := by kernel_rfl
theorem el147 : elemI Try.prog 147 = none := by kernel_rfl
theorem eq147 : eqTy Try.prog 147 = some (.st [(0, 1, .it), (1, 1, .it)]) := by kernel_rfl
theorem pl147 : placesI Try.prog 147 = some [(0, 1), (1, 1)] := by kernel_rfl
theorem fi147_0 : fieldI Try.prog 147 0 = some (0, 1, false) := by kernel_rfl
theorem fi147_1 : fieldI Try.prog 147 1 = some (1, 1, false) := by kernel_rfl
theorem ty148 : tyI Try.prog 148 = some ⟨false, 1, [.nilFunc], 8⟩ := by kernel_rfl
theorem el148 : elemI Try.prog 148 = none := by kernel_rfl
theorem ty149 : tyI Try.prog 149 = some ⟨false, 1, [.nilFunc], 8⟩ := by kernel_rfl
theorem el149 : elemI Try.prog 149 = none := by kernel_rfl
theorem ty150 : tyI Try.prog 150 = some ⟨false, 1, [.nilFunc], 8⟩ := by kernel_rfl
theorem el150 : elemI Try.prog 150 = none := by kernel_rfl
theorem ty151 : tyI Try.prog 151 = some ⟨false, 1, [.nilFunc], 8⟩ := by kernel_rfl
theorem el151 : elemI Try.prog 151 = none := by kernel_rfl
theorem ty152 : tyI Try.prog 152 = some ⟨false, 1, [.nilFunc], 8⟩ := by kernel_rfl
theorem el152 : elemI Try.prog 152 = none := by kernel_rfl
theorem ty153 : tyI Try.prog 153 = some ⟨true, 3, [(.int .i64 0), (.int .i64 0), (.slice none 0 0)], 40⟩ := by kernel_rfl
theorem el153 : elemI Try.prog 153 = none := by kernel_rfl
theorem pl153 : placesI Try.prog 153 = some [(0, 3)] := by kernel_rfl
theorem fi153_0 : fieldI Try.prog 153 0 = some (0, 3, true) := by kernel_rfl
theorem ty154 : tyI Try.prog 154 = some ⟨true, 3, [(.int .i64 0), (.int .i64 0), (.slice none 0 0)], 40⟩ := by kernel_rfl
theorem el154 : elemI Try.prog 154 = none := by kernel_rfl
theorem pl154 : placesI Try.prog 154 = some [(0, 3)] := by kernel_rfl
theorem fi154_0 : fieldI Try.prog 154 0 = some (0, 3, true) := by kernel_rfl
theorem el155 : elemI Try.prog 155 = none := by kernel_rfl
theorem ty156 : tyI Try.prog 156 = some ⟨false, 1, [.nilFunc], 8⟩ := by kernel_rfl
theorem el156 : elemI Try.prog 156 = none := by kernel_rfl
theorem ty157 : tyI Try.prog 157 = some ⟨false, 1, [.nilFunc], 8⟩ := by kernel_rfl
theorem el157 : elemI Try.prog 157 = none := by kernel_rfl
theorem ty158 : tyI Try.prog 158 = some ⟨false, 1, [.nilFunc], 8⟩ := by kernel_rfl
theorem el158 : elemI Try.prog 158 = none := by kernel_rfl
theorem ty159 : tyI Try.prog 159 = some ⟨false, 1, [(.slice none 0 0)], 24⟩ := by kernel_rfl
theorem el159 : elemI Try.prog 159 = some 3 := by kernel_rfl
theorem ty160 : tyI Try.prog 160 = some ⟨false, 1, [.nilFunc], 8⟩ := by kernel_rfl
theorem el160 : elemI Try.prog 160 = none := by kernel_rfl
theorem ty161 : tyI Try.prog 161 = some ⟨false, 1, [.nilFunc], 8⟩ := by kernel_rfl
theorem el161 : elemI Try.prog 161 = none := by kernel_rfl
theorem el162 : elemI Try.prog 162 = none := by kernel_rfl
theorem ty163 : tyI Try.prog 163 = some ⟨false, 1, [.nilFunc], 8⟩ := by kernel_rfl
theorem el163 : elemI Try.prog 163 = none := by kernel_rfl
theorem ty164 : tyI Try.prog 164 = some ⟨false, 1, [.nilFunc], 8⟩ := by kernel_rfl
theorem el164 : elemI Try.prog 164 = none := by kernel_rfl
theorem ty165 : tyI Try.prog 165 = some ⟨false, 1, [.nilFunc], 8⟩ := by kernel_rfl
theorem el165 : elemI Try.prog 165 = none := by kernel_rfl
theorem ty166 : tyI Try.prog 166 = some ⟨false, 1, [.nilFunc], 8⟩ := by kernel_rfl
theorem el166 : elemI Try.prog 166 = none := by kernel_rfl
theorem ty167 : tyI Try.prog 167 = some ⟨false, 1, [.nilFunc], 8⟩ := by kernel_rfl
theorem el167 : elemI Try.prog 167 = none := by kernel_rfl
theorem ty168 : tyI Try.prog 168 = some ⟨false, 1, [(.slice none 0 0)], 24⟩ := by kernel_rfl
theorem el168 : elemI Try.prog 168 = some 159 := by kernel_rfl
theorem ty169 : tyI Try.prog 169 = some ⟨false, 1, [(.slice none 0 0)], 24⟩ := by kernel_rfl
theorem el169 : elemI Try.prog 169 = some 159 := by kernel_rfl
theorem ty170 : tyI Try.prog 170 = some ⟨false, 1, [.nilFunc], 8⟩ := by kernel_rfl
theorem el170 : elemI Try.prog 170 = none := by kernel_rfl
theorem ty171 : tyI Try.prog 171 = some ⟨false, 1, [.nilFunc], 8⟩ := by kernel_rfl
theorem el171 : elemI Try.prog 171 = none := by kernel_rfl
theorem ty172 : tyI Try.prog 172 = some ⟨false, 1, [.nilFunc], 8⟩ := by kernel_rfl
theorem el172 : elemI Try.prog 172 = none := by kernel_rfl
theorem ty173 : tyI Try.prog 173 = some ⟨true, 5, [(.int .i64 0), (.int .i64 0), (.int .i64 0), (.int .i64 0), (.slice none 0 0)], 56⟩ := by kernel_rfl
theorem el173 : elemI Try.prog 173 = none := by kernel_rfl
theorem pl173 : placesI Try.prog 173 = some [(0, 4), (4, 1)] := by kernel_rfl
theorem fi173_0 : fieldI Try.prog 173 0 = some (0, 4, true) := by kernel_rfl
theorem fi173_1 : fieldI Try.prog 173 1 = some (4, 1, false) := by kernel_rfl
theorem ty174 : tyI Try.prog 174 = some ⟨true, 5, [(.int .i64 0), (.int .i64 0), (.int .i64 0), (.int .i64 0), (.slice none 0 0)], 56⟩ := by kernel_rfl
theorem el174 : elemI Try.prog 174 = none := by kernel_rfl
theorem pl174 : placesI Try.prog 174 = some [(0, 4), (4, 1)] := by kernel_rfl
theorem fi174_0 : fieldI Try.prog 174 0 = some (0, 4, true) := by kernel_rfl
theorem fi174_1 : fieldI Try.prog 174 1 = some (4, 1, false) := by kernel_rfl
theorem el175 : elemI Try.prog 175 = none := by kernel_rfl
theorem ty176 : tyI Try.prog 176 = some ⟨false, 1, [.nilFunc], 8⟩ := by kernel_rfl
theorem el176 : elemI Try.prog 176 = none := by kernel_rfl
theorem ty177 : tyI Try.prog 177 = some ⟨false, 1, [.nilFunc], 8⟩ := by kernel_rfl
theorem el177 : elemI Try.prog 177 = none := by kernel_rfl
theorem ty178 : tyI Try.prog 178 = some ⟨false, 1, [(.map none)], 8⟩ := by kernel_rfl
theorem el178 : elemI Try.prog 178 = none := by kernel_rfl
theorem mp178 : mapI Try.prog 178 = some ((.c (.v (.int .i64 0))), (.int .i64)) := by kernel_rfl
theorem ty179 : tyI Try.prog 179 = some ⟨false, 1, [.nilFunc], 8⟩ := by kernel_rfl
theorem el179 : elemI Try.prog 179 = none := by kernel_rfl
theorem ty180 : tyI Try.prog 180 = some ⟨false, 1, [.nilFunc], 8⟩ := by kernel_rfl
theorem el180 : elemI Try.prog 180 = none := by kernel_rfl
theorem el181 : elemI Try.prog 181 = none := by kernel_rfl
theorem ty182 : tyI Try.prog 182 = some ⟨false, 1, [.nilFunc], 8⟩ := by kernel_rfl
theorem el182 : elemI Try.prog 182 = none := by kernel_rfl
theorem el183 : elemI Try.prog 183 = none := by kernel_rfl
theorem ty184 : tyI Try.prog 184 = some ⟨false, 1, [.nilFunc], 8⟩ := by kernel_rfl
theorem el184 : elemI Try.prog 184 = none := by kernel_rfl
theorem el185 : elemI Try.prog 185 = none := by kernel_rfl
theorem ty186 : tyI Try.prog 186 = some ⟨false, 1, [.nilFunc], 8⟩ := by kernel_rfl
theorem el186 : elemI Try.prog 186 = none := by kernel_rfl
theorem ty187 : tyI Try.prog 187 = some ⟨false, 1, [.nilFunc], 8⟩ := by kernel_rfl
theorem el187 : elemI Try.prog 187 = none := by kernel_rfl
theorem ty188 : tyI Try.prog 188 = some ⟨false, 1, [.nilFunc], 8⟩ := by kernel_rfl
theorem el188 : elemI Try.prog 188 = none := by kernel_rfl
theorem ty189 : tyI Try.prog 189 = some ⟨false, 1, [.nilFunc], 8⟩ := by kernel_rfl
theorem el189 : elemI Try.prog 189 = none := by kernel_rfl
theorem ty190 : tyI Try.prog 190 = some ⟨false, 1, [.nilFunc], 8⟩ := by kernel_rfl
theorem el190 : elemI Try.prog 190 = none := by kernel_rfl
theorem ty191 : tyI Try.prog 191 = some ⟨true, 6, [(.int .i64 0), (.int .i64 0), (.int .i64 0), (.int .i64 0), (.int .i64 0), (.int .i64 0)], 48⟩ := by kernel_rfl
theorem el191 : elemI Try.prog 191 = none := by kernel_rfl
theorem ar191 : arrI Try.prog 191 = some (3, 38) := by kernel_rfl
theorem pl191 : placesI Try.prog 191 = some [(0, 2), (2, 2), (4, 2)] := by kernel_rfl
theorem ty192 : tyI Try.prog 192 = some ⟨false, 1, [.nilFunc], 8⟩ := by kernel_rfl
theorem el192 : elemI Try.prog 192 = none := by kernel_rfl
theorem ty193 : tyI Try.prog 193 = some ⟨true, 4, [(.int .i64 0), (.int .i64 0), (.int .i64 0), (.int .i64 0)], 32⟩ := by kernel_rfl
theorem el193 : elemI Try.prog 193 = none := by kernel_rfl
theorem ar193 : arrI Try.prog 193 = some (2, 38) := by kernel_rfl
theorem pl193 : placesI Try.prog 193 = some [(0, 2), (2, 2)] := by kernel_rfl
theorem ty194 : tyI Try.prog 194 = some ⟨false, 1, [.nilFunc], 8⟩ := by kernel_rfl
theorem el194 : elemI Try.prog 194 = none := by kernel_rfl
theorem ty195 : tyI Try.prog 195 = some ⟨false, 1, [.nilFunc], 8⟩ := by kernel_rfl
theorem el195 : elemI Try.prog 195 = none := by kernel_rfl
theorem ty196 : tyI Try.prog 196 = some ⟨false, 1, [.nilFunc], 8⟩ := by kernel_rfl
theorem el196 : elemI Try.prog 196 = none := by kernel_rfl
theorem ty197 : tyI Try.prog 197 = some ⟨false, 1, [.nilFunc], 8⟩ := by kernel_rfl
theorem el197 : elemI Try.prog 197 = none := by kernel_rfl
theorem ty198 : tyI Try.prog 198 = some ⟨false, 1, [.nilFunc], 8⟩ := by kernel_rfl
theorem el198 : elemI Try.prog 198 = none := by kernel_rfl
theorem ty199 : tyI Try.prog 199 = some ⟨false, 1, [.nilFunc], 8⟩ := by kernel_rfl
theorem el199 : elemI Try.prog 199 = none := by kernel_rfl
theorem el200 : elemI Try.prog 200 = none := by kernel_rfl
theorem ty201 : tyI Try.prog 201 = some ⟨false, 1, [.nilFunc], 8⟩ := by kernel_rfl
theorem el201 : elemI Try.prog 201 = none := by kernel_rfl
theorem ty202 : tyI Try.prog 202 = some ⟨true, 2, [(.bool false), (.int .i64 0)], 16⟩ := by kernel_rfl
theorem el202 : elemI Try.prog 202 = none := by kernel_rfl
theorem eq202 : eqTy Try.prog 202 = some (.st [(0, 1, .bl), (1, 1, .it)]) := by kernel_rfl
theorem pl202 : placesI Try.prog 202 = some [(0, 1), (1, 1)] := by kernel_rfl
theorem fi202_0 : fieldI Try.prog 202 0 = some (0, 1, false) := by kernel_rfl
theorem fi202_1 : fieldI Try.prog 202 1 = some (1, 1, false) := by kernel_rfl
theorem ty203 : tyI Try.prog 203 = some ⟨false, 1, [(.slice none 0 0)], 24⟩ := by kernel_rfl
theorem el203 : elemI Try.prog 203 = some 202 := by kernel_rfl
theorem ty204 : tyI Try.prog 204 = some ⟨false, 1, [.nilFunc], 8⟩ := by kernel_rfl
theorem el204 : elemI Try.prog 204 = none := by kernel_rfl
theorem ty205 : tyI Try.prog 205 = some ⟨true, 2, [(.int .i64 0), (.int .i64 0)], 16⟩ := by kernel_rfl
theorem el205 : elemI Try.prog 205 = none := by kernel_rfl
theorem eq205 : eqTy Try.prog 205 = some (.st [(0, 1, .it), (1, 1, .it)]) := by kernel_rfl
theorem pl205 : placesI Try.prog 205 = some [(0, 1), (1, 1)] := by kernel_rfl
theorem fi205_0 : fieldI Try.prog 205 0 = some (0, 1, false) := by kernel_rfl
theorem fi205_1 : fieldI Try.prog 205 1 = some (1, 1, false) := by kernel_rfl
theorem ty206 : tyI Try.prog 206 = some ⟨true, 2, [(.int .i64 0), (.int .i64 0)], 16⟩ := by kernel_rfl
theorem el206 : elemI Try.prog 206 = none := by kernel_rfl
theorem eq206 : eqTy Try.prog 206 = some (.st [(0, 1, .it), (1, 1, .it)]) := by kernel_rfl
theorem pl206 : placesI Try.prog 206 = some [(0, 1), (1, 1)] := by kernel_rfl
theorem fi206_0 : fieldI Try.prog 206 0 = some (0, 1, false) := by kernel_rfl
theorem fi206_1 : fieldI Try.prog 206 1 = some (1, 1, false) := by kernel_rfl
theorem ty207 : tyI Try.prog 207 = some ⟨false, 1, [(.slice none 0 0)], 24⟩ := by kernel_rfl
theorem el207 : elemI Try.prog 207 = some 206 := by kernel_rfl
theorem ty208 : tyI Try.prog 208 = some ⟨false, 1, [.nilFunc], 8⟩ := by kernel_rfl
theorem el208 : elemI Try.prog 208 = none := by kernel_rfl
theorem ty209 : tyI Try.prog 209 = some ⟨false, 1, [.nilFunc], 8⟩ := by kernel_rfl
theorem el209 : elemI Try.prog 209 = none := by kernel_rfl
theorem ty210 : tyI Try.prog 210 = some ⟨false, 1, [.nilFunc], 8⟩ := by kernel_rfl
theorem el210 : elemI Try.prog 210 = none := by kernel_rfl
theorem ty211 : tyI Try.prog 211 = some ⟨false, 1, [.nilFunc], 8⟩ := by kernel_rfl
theorem el211 : elemI Try.prog 211 = none := by kernel_rfl
theorem ty212 : tyI Try.prog 212 = some ⟨false, 1, [.nilFunc], 8⟩ := by kernel_rfl
theorem el212 : elemI Try.prog 212 = none := by kernel_rfl
theorem ty213 : tyI Try.prog 213 = some ⟨false, 1, [.nilFunc], 8⟩ := by kernel_rfl
theorem el213 : elemI Try.prog 213 = none := by kernel_rfl
theorem ty214 : tyI Try.prog 214 = some ⟨false, 1, [.nilFunc], 8⟩ := by kernel_rfl
theorem el214 : elemI Try.prog 214 = none := by kernel_rfl
theorem ty215 : tyI Try.prog 215 = some ⟨false, 1, [.nilFunc], 8⟩ := by kernel_rfl
theorem el215 : elemI Try.prog 215 = none := by kernel_rfl
theorem ty216 : tyI Try.prog 216 = some ⟨false, 1, [.nilFunc], 8⟩ := by kernel_rfl
theorem el216 : elemI Try.prog 216 = none := by kernel_rfl
theorem ty217 : tyI Try.prog 217 = some ⟨false, 1, [.nilFunc], 8⟩ := by kernel_rfl
theorem el217 : elemI Try.prog 217 = none := by kernel_rfl
theorem ty218 : tyI Try.prog 218 = some ⟨false, 1, [.nilFunc], 8⟩ := by kernel_rfl
theorem el218 : elemI Try.prog 218 = none := by kernel_rfl
theorem ty219 : tyI Try.prog 219 = some ⟨false, 1, [.nilFunc], 8⟩ := by kernel_rfl
theorem el219 : elemI Try.prog 219 = none := by kernel_rfl
theorem ty220 : tyI Try.prog 220 = some ⟨false, 1, [.nilFunc], 8⟩ := by kernel_rfl
theorem el220 : elemI Try.prog 220 = none := by kernel_rfl
theorem ty221 : tyI Try.prog 221 = some ⟨false, 1, [.nilFunc], 8⟩ := by kernel_rfl
theorem el221 : elemI Try.prog 221 = none := by kernel_rfl
theorem ty222 : tyI Try.prog 222 = some ⟨false, 1, [.nilFunc], 8⟩ := by kernel_rfl
theorem el222 : elemI Try.prog 222 = none := by kernel_rfl
theorem ty223 : tyI Try.prog 223 = some ⟨false, 1, [.nilFunc], 8⟩ := by kernel_rfl
theorem el223 : elemI Try.prog 223 = none := by kernel_rfl
theorem el224 : elemI Try.prog 224 = none := by kernel_rfl
theorem ty225 : tyI Try.prog 225 = some ⟨false, 1, [.nilFunc], 8⟩ := by kernel_rfl
theorem el225 : elemI Try.prog 225 = none := by kernel_rfl
theorem ty226 : tyI Try.prog 226 = some ⟨false, 1, [.nilFunc], 8⟩ := by kernel_rfl
theorem el226 : elemI Try.prog 226 = none := by kernel_rfl
theorem ty227 : tyI Try.prog 227 = some ⟨false, 1, [.nilFunc], 8⟩ := by kernel_rfl
theorem el227 : elemI Try.prog 227 = none := by kernel_rfl
theorem ty228 : tyI Try.prog 228 = some ⟨false, 1, [.nilFunc], 8⟩ := by kernel_rfl
theorem el228 : elemI Try.prog 228 = none := by kernel_rfl
theorem ty229 : tyI Try.prog 229 = some ⟨false, 1, [(.slice none 0 0)], 24⟩ := by kernel_rfl
theorem el229 : elemI Try.prog 229 = some 123 := by kernel_rfl
theorem ty230 : tyI Try.prog 230 = some ⟨false, 1, [.nilFunc], 8⟩ := by kernel_rfl
theorem el230 : elemI Try.prog 230 = none := by kernel_rfl
theorem ty231 : tyI Try.prog 231 = some ⟨false, 1, [.nilFunc], 8⟩ := by kernel_rfl
theorem el231 : elemI Try.prog 231 = none := by kernel_rfl
theorem ty232 : tyI Try.prog 232 = some ⟨false, 1, [.nilFunc], 8⟩ := by kernel_rfl
theorem el232 : elemI Try.prog 232 = none := by kernel_rfl
theorem el233 : elemI Try.prog 233 = none := by kernel_rfl
theorem ty234 : tyI Try.prog 234 = some ⟨false, 1, [.nilFunc], 8⟩ := by kernel_rfl
theorem el234 : elemI Try.prog 234 = none := by kernel_rfl
theorem ty235 : tyI Try.prog 235 = some ⟨false, 1, [.nilFunc], 8⟩ := by kernel_rfl
theorem el235 : elemI Try.prog 235 = none := by kernel_rfl
theorem ty236 : tyI Try.prog 236 = some ⟨false, 1, [.nilFunc], 8⟩ := by kernel_rfl
theorem el236 : elemI Try.prog 236 = none := by kernel_rfl
theorem ty237 : tyI Try.prog 237 = some ⟨false, 1, [.nilFunc], 8⟩ := by kernel_rfl
theorem el237 : elemI Try.prog 237 = none := by kernel_rfl
theorem ty238 : tyI Try.prog 238 = some ⟨false, 1, [.nilFunc], 8⟩ := by kernel_rfl
theorem el238 : elemI Try.prog 238 = none := by kernel_rfl
theorem ty239 : tyI Try.prog 239 = some ⟨false, 1, [.nilFunc], 8⟩ := by kernel_rfl
theorem el239 : elemI Try.prog 239 = none := by kernel_rfl
theorem ty240 : tyI Try.prog 240 = some ⟨false, 1, [.nilFunc], 8⟩ := by kernel_rfl
theorem el240 : elemI Try.prog 240 = none := by kernel_rfl
theorem ty241 : tyI Try.prog 241 = some ⟨false, 1, [.nilFunc], 8⟩ := by kernel_rfl
theorem el241 : elemI Try.prog 241 = none := by kernel_rfl
theorem ty242 : tyI Try.prog 242 = some ⟨false, 1, [.nilFunc], 8⟩ := by kernel_rfl
theorem el242 : elemI Try.prog 242 = none := by kernel_rfl
theorem ty243 : tyI Try.prog 243 = some ⟨false, 1, [.nilFunc], 8⟩ := by kernel_rfl
theorem el243 : elemI Try.prog 243 = none := by kernel_rfl
theorem ty244 : tyI Try.prog 244 = some ⟨false, 1, [(.pointer none)], 8⟩ := by kernel_rfl
theorem el244 : elemI Try.prog 244 = none := by kernel_rfl
theorem ty245 : tyI Try.prog 245 = some ⟨false, 1, [.nilFunc], 8⟩ := by kernel_rfl
theorem el245 : elemI Try.prog 245 = none := by kernel_rfl
theorem ty246 : tyI Try.prog 246 = some ⟨true, 9, [(.int .i64 0), (.int .i64 0), (.int .i64 0), (.int .i64 0), (.slice none 0 0), (.slice none 0 0), (.slice none 0 0), (.int .i64 0), (.bool false)], 120⟩ := by kernel_rfl
theorem el246 : elemI Try.prog 246 = none := by kernel_rfl
theorem pl246 : placesI Try.prog 246 = some [(0, 5), (5, 1), (6, 1), (7, 1), (8, 1)] := by kernel_rfl
theorem fi246_0 : fieldI Try.prog 246 0 = some (0, 5, true) := by kernel_rfl
theorem fi246_1 : fieldI Try.prog 246 1 = some (5, 1, false) := by kernel_rfl
theorem fi246_2 : fieldI Try.prog 246 2 = some (6, 1, false) := by kernel_rfl
theorem fi246_3 : fieldI Try.prog 246 3 = some (7, 1, false) := by kernel_rfl
theorem fi246_4 : fieldI Try.prog 246 4 = some (8, 1, false) := by kernel_rfl
theorem ty247 : tyI Try.prog 247 = some ⟨true, 9, [(.int .i64 0), (.int .i64 0), (.int .i64 0), (.int .i64 0), (.slice none 0 0), (.slice none 0 0), (.slice none 0 0), (.int .i64 0), (.bool false)], 120⟩ := by kernel_rfl
theorem el247 : elemI Try.prog 247 = none := by kernel_rfl
theorem pl247 : placesI Try.prog 247 = some [(0, 5), (5, 1), (6, 1), (7, 1), (8, 1)] := by kernel_rfl
theorem fi247_0 : fieldI Try.prog 247 0 = some (0, 5, true) := by kernel_rfl
theorem fi247_1 : fieldI Try.prog 247 1 = some (5, 1, false) := by kernel_rfl
theorem fi247_2 : fieldI Try.prog 247 2 = some (6, 1, false) := by kernel_rfl
theorem fi247_3 : fieldI Try.prog 247 3 = some (7, 1, false) := by kernel_rfl
theorem fi247_4 : fieldI Try.prog 247 4 = some (8, 1, false) := by kernel_rfl
theorem ty248 : tyI Try.prog 248 = some ⟨false, 1, [.nilFunc], 8⟩ := by kernel_rfl
theorem el248 : elemI Try.prog 248 = none := by kernel_rfl
theorem ty249 : tyI Try.prog 249 = some ⟨false, 1, [.nilFunc], 8⟩ := by kernel_rfl
theorem el249 : elemI Try.prog 249 = none := by kernel_rfl
theorem ty250 : tyI Try.prog 250 = some ⟨false, 1, [.nilFunc], 8⟩ := by kernel_rfl
theorem el250 : elemI Try.prog 250 = none := by kernel_rfl
theorem ty251 : tyI Try.prog 251 = some ⟨false, 1, [.nilFunc], 8⟩ := by kernel_rfl
theorem el251 : elemI Try.prog 251 = none := by kernel_rfl
theorem ty252 : tyI Try.prog 252 = some ⟨false, 1, [.nilFunc], 8⟩ := by kernel_rfl
theorem el252 : elemI Try.prog 252 = none := by kernel_rfl
theorem ty253 : tyI Try.prog 253 = some ⟨false, 1, [.nilFunc], 8⟩ := by kernel_rfl
theorem el253 : elemI Try.prog 253 = none := by kernel_rfl
theorem ty254 : tyI Try.prog 254 = some ⟨false, 1, [.nilFunc], 8⟩ := by kernel_rfl
theorem el254 : elemI Try.prog 254 = none := by kernel_rfl
theorem ty255 : tyI Try.prog 255 = some ⟨false, 1, [.nilFunc], 8⟩ := by kernel_rfl
theorem el255 : elemI Try.prog 255 = none := by kernel_rfl
theorem ty256 : tyI Try.prog 256 = some ⟨false, 1, [.nilFunc], 8⟩ := by kernel_rfl
theorem el256 : elemI Try.prog 256 = none := by kernel_rfl
theorem ty257 : tyI Try.prog 257 = some ⟨false, 1, [.nilFunc], 8⟩ := by kernel_rfl
theorem el257 : elemI Try.prog 257 = none := by kernel_rfl
theorem ty258 : tyI Try.prog 258 = some ⟨false, 1, [.nilFunc], 8⟩ := by kernel_rfl
theorem el258 : elemI Try.prog 258 = none := by kernel_rfl
theorem ty259 : tyI Try.prog 259 = some ⟨false, 1, [.nilFunc], 8⟩ := by kernel_rfl
theorem el259 : elemI Try.prog 259 = none := by kernel_rfl
theorem el260 : elemI Try.prog 260 = none := by kernel_rfl
theorem ty261 : tyI Try.prog 261 = some ⟨false, 1, [.nilFunc], 8⟩ := by kernel_rfl
theorem el261 : elemI Try.prog 261 = none := by kernel_rfl
theorem ty262 : tyI Try.prog 262 = some ⟨false, 1, [.nilFunc], 8⟩ := by kernel_rfl
theorem el262 : elemI Try.prog 262 = none := by kernel_rfl
theorem ty263 : tyI Try.prog 263 = some ⟨false, 1, [.nilFunc], 8⟩ := by kernel_rfl
theorem el263 : elemI Try.prog 263 = none := by kernel_rfl
theorem ty264 : tyI Try.prog 264 = some ⟨false, 1, [(.int .u32 0)], 4⟩ := by kernel_rfl
theorem el264 : elemI Try.prog 264 = none := by kernel_rfl
theorem it264 : intI Try.prog 264 = some .u32 := by kernel_rfl
theorem el265 : elemI Try.prog 265 = none := by kernel_rfl
theorem ty266 : tyI Try.prog 266 = some ⟨false, 1, [.nilFunc], 8⟩ := by kernel_rfl
theorem el266 : elemI Try.prog 266 = none := by kernel_rfl
theorem ty267 : tyI Try.prog 267 = some ⟨false, 1, [(.int .u64 0)], 8⟩ := by kernel_rfl
theorem el267 : elemI Try.prog 267 = none := by kernel_rfl
theorem it267 : intI Try.prog 267 = some .u64 := by kernel_rfl
theorem el268 : elemI Try.prog 268 = none := by kernel_rfl
theorem ty269 : tyI Try.prog 269 = some ⟨false, 1, [.nilFunc], 8⟩ := by kernel_rfl
theorem el269 : elemI Try.prog 269 = none := by kernel_rfl
theorem ty270 : tyI Try.prog 270 = some ⟨false, 1, [.nilFunc], 8⟩ := by kernel_rfl
theorem el270 : elemI Try.prog 270 = none := by kernel_rfl
theorem ty271 : tyI Try.prog 271 = some ⟨true, 4, [(.pointer none), (.pointer none), (.pointer none), (.string ⟨#[]⟩)], 40⟩ := by kernel_rfl
theorem el271 : elemI Try.prog 271 = none := by kernel_rfl
theorem pl271 : placesI Try.prog 271 = some [(0, 1), (1, 1), (2, 1), (3, 1)] := by kernel_rfl
theorem fi271_0 : fieldI Try.prog 271 0 = some (0, 1, false) := by kernel_rfl
theorem fi271_1 : fieldI Try.prog 271 1 = some (1, 1, false) := by kernel_rfl
theorem fi271_2 : fieldI Try.prog 271 2 = some (2, 1, false) := by kernel_rfl
theorem fi271_3 : fieldI Try.prog 271 3 = some (3, 1, false) := by kernel_rfl
theorem ty272 : tyI Try.prog 272 = some ⟨true, 4, [(.pointer none), (.pointer none), (.pointer none), (.string ⟨#[]⟩)], 40⟩ := by kernel_rfl
theorem el272 : elemI Try.prog 272 = none := by kernel_rfl
theorem pl272 : placesI Try.prog 272 = some [(0, 1), (1, 1), (2, 1), (3, 1)] := by kernel_rfl
theorem fi272_0 : fieldI Try.prog 272 0 = some (0, 1, false) := by kernel_rfl
theorem fi272_1 : fieldI Try.prog 272 1 = some (1, 1, false) := by kernel_rfl
theorem fi272_2 : fieldI Try.prog 272 2 = some (2, 1, false) := by kernel_rfl
theorem fi272_3 : fieldI Try.prog 272 3 = some (3, 1, false) := by kernel_rfl
theorem ty273 : tyI Try.prog 273 = some ⟨true, 0, [], 0⟩ := by kernel_rfl
theorem el273 : elemI Try.prog 273 = none := by kernel_rfl
theorem ar273 : arrI Try.prog 273 = some (0, 16) := by kernel_rfl
theorem pl273 : placesI Try.prog 273 = some [] := by kernel_rfl
theorem ty274 : tyI Try.prog 274 = some ⟨true, 0, [], 0⟩ := by kernel_rfl
theorem el274 : elemI Try.prog 274 = none := by kernel_rfl
theorem pl274 : placesI Try.prog 274 = some [(0, 0)] := by kernel_rfl
theorem ty275 : tyI Try.prog 275 = some ⟨true, 0, [], 0⟩ := by kernel_rfl
theorem el275 : elemI Try.prog 275 = none := by kernel_rfl
theorem pl275 : placesI Try.prog 275 = some [(0, 0)] := by kernel_rfl
theorem ty276 : tyI Try.prog 276 = some ⟨false, 1, [(.int .u8 0)], 1⟩ := by kernel_rfl
theorem el276 : elemI Try.prog 276 = none := by kernel_rfl
theorem it276 : intI Try.prog 276 = some .u8 := by kernel_rfl
theorem ty277 : tyI Try.prog 277 = some ⟨false, 1, [(.int .u8 0)], 1⟩ := by kernel_rfl
theorem el277 : elemI Try.prog 277 = none := by kernel_rfl
theorem it277 : intI Try.prog 277 = some .u8 := by kernel_rfl
theorem ty278 : tyI Try.prog 278 = some ⟨false, 1, [.nilFunc], 8⟩ := by kernel_rfl
theorem el278 : elemI Try.prog 278 = none := by kernel_rfl
theorem ty279 : tyI Try.prog 279 = some ⟨false, 1, [(.pointer none)], 8⟩ := by kernel_rfl
theorem el279 : elemI Try.prog 279 = none := by kernel_rfl
theorem ty280 : tyI Try.prog 280 = some ⟨false, 1, [(.int .i32 0)], 4⟩ := by kernel_rfl
theorem el280 : elemI Try.prog 280 = none := by kernel_rfl
theorem it280 : intI Try.prog 280 = some .i32 := by kernel_rfl
theorem ty281 : tyI Try.prog 281 = some ⟨false, 1, [(.int .i32 0)], 4⟩ := by kernel_rfl
theorem el281 : elemI Try.prog 281 = none := by kernel_rfl
theorem it281 : intI Try.prog 281 = some .i32 := by kernel_rfl
theorem ty282 : tyI Try.prog 282 = some ⟨true, 11, [(.int .u64 0), (.int .u64 0), (.int .u32 0), (.int .u8 0), (.int .u8 0), (.int .u8 0), (.int .u8 0), .nilFunc, (.pointer none), (.int .i32 0), (.int .i32 0)], 48⟩ := by kernel_rfl
theorem el282 : elemI Try.prog 282 = none := by kernel_rfl
theorem pl282 : placesI Try.prog 282 = some [(0, 1), (1, 1), (2, 1), (3, 1), (4, 1), (5, 1), (6, 1), (7, 1), (8, 1), (9, 1), (10, 1)] := by kernel_rfl
theorem fi282_0 : fieldI Try.prog 282 0 = some (0, 1, false) := by kernel_rfl
theorem fi282_1 : fieldI Try.prog 282 1 = some (1, 1, false) := by kernel_rfl
theorem fi282_2 : fieldI Try.prog 282 2 = some (2, 1, false) := by kernel_rfl
theorem fi282_3 : fieldI Try.prog 282 3 = some (3, 1, false) := by kernel_rfl
theorem fi282_4 : fieldI Try.prog 282 4 = some (4, 1, false) := by kernel_rfl
theorem fi282_5 : fieldI Try.prog 282 5 = some (5, 1, false) := by kernel_rfl
theorem fi282_6 : fieldI Try.prog 282 6 = some (6, 1, false) := by kernel_rfl
theorem fi282_7 : fieldI Try.prog 282 7 = some (7, 1, false) := by kernel_rfl
theorem fi282_8 : fieldI Try.prog 282 8 = some (8, 1, false) := by kernel_rfl
theorem fi282_9 : fieldI Try.prog 282 9 = some (9, 1, false) := by kernel_rfl
theorem fi282_10 : fieldI Try.prog 282 10 = some (10, 1, false) := by kernel_rfl
theorem ty283 : tyI Try.prog 283 = some ⟨true, 11, [(.int .u64 0), (.int .u64 0), (.int .u32 0), (.int .u8 0), (.int .u8 0), (.int .u8 0), (.int .u8 0), .nilFunc, (.pointer none), (.int .i32 0), (.int .i32 0)], 48⟩ := by kernel_rfl
theorem el283 : elemI Try.prog 283 = none := by kernel_rfl
theorem pl283 : placesI Try.prog 283 = some [(0, 1), (1, 1), (2, 1), (3, 1), (4, 1), (5, 1), (6, 1), (7, 1), (8, 1), (9, 1), (10, 1)] := by kernel_rfl
theorem fi283_0 : fieldI Try.prog 283 0 = some (0, 1, false) := by kernel_rfl
theorem fi283_1 : fieldI Try.prog 283 1 = some (1, 1, false) := by kernel_rfl
theorem fi283_2 : fieldI Try.prog 283 2 = some (2, 1, false) := by kernel_rfl
theorem fi283_3 : fieldI Try.prog 283 3 = some (3, 1, false) := by kernel_rfl
theorem fi283_4 : fieldI Try.prog 283 4 = some (4, 1, false) := by kernel_rfl
theorem fi283_5 : fieldI Try.prog 283 5 = some (5, 1, false) := by kernel_rfl
theorem fi283_6 : fieldI Try.prog 283 6 = some (6, 1, false) := by kernel_rfl
theorem fi283_7 : fieldI Try.prog 283 7 = some (7, 1, false) := by kernel_rfl
theorem fi283_8 : fieldI Try.prog 283 8 = some (8, 1, false) := by kernel_rfl
theorem fi283_9 : fieldI Try.prog 283 9 = some (9, 1, false) := by kernel_rfl
theorem fi283_10 : fieldI Try.prog 283 10 = some (10, 1, false) := by kernel_rfl
theorem ty284 : tyI Try.prog 284 = some ⟨false, 1, [.nilFunc], 8⟩ := by kernel_rfl
theorem el284 : elemI Try.prog 284 = none := by kernel_rfl
theorem ty285 : tyI Try.prog 285 = some ⟨false, 1, [.nilFunc], 8⟩ := by kernel_rfl
theorem el285 : elemI Try.prog 285 = none := by kernel_rfl
theorem ty286 : tyI Try.prog 286 = some ⟨false, 1, [(.pointer none)], 8⟩ := by kernel_rfl
theorem el286 : elemI Try.prog 286 = none := by kernel_rfl
attribute [go_sem] el0 ty1 el1 ty2 el2 it2 ty3 el3 it3 ty4 el4 bl4 ty5 el5 it5 ty6 el6 it6 ty7 el7 eq7 pl7 fi7_0 fi7_1 fi7_2 fi7_3 ty8 el8 eq8 pl8 fi8_0 fi8_1 fi8_2 fi8_3 ty9 el9 ty10 el10 ty11 el11 ty12 el12 it12 ty13 el13 pl13 fi13_0 fi13_1 ty14 el14 pl14 fi14_0 fi14_1 ty15 el15 ty16 el16 ty17 el17 ty18 el18 pl18 fi18_0 ty19 el19 pl19 fi19_0 ty20 el20 ty21 el21 it21 ty22 el22 ty23 el23 ty24 el24 ty25 el25 pl25 fi25_0 fi25_1 fi25_2 ty26 el26 pl26 fi26_0 fi26_1 fi26_2 ty27 el27 ar27 pl27 ty28 el28 ty29 el29 ty30 el30 pl30 fi30_0 fi30_1 ty31 el31 pl31 fi31_0 fi31_1 ty32 el32 ty33 el33 ty34 el34 pl34 fi34_0 fi34_1 ty35 el35 pl35 fi35_0 fi35_1 ty36 el36 ty37 el37 eq37 pl37 fi37_0 fi37_1 ty38 el38 eq38 pl38 fi38_0 fi38_1 ty39 el39 it39 el40 ty41 el41 ty42 el42 ty43 el43 ty44 el44 ty45 el45 ty46 el46 eq46 pl46 fi46_0 fi46_1 fi46_2 fi46_3 fi46_4 fi46_5 ty47 el47 eq47 pl47 fi47_0 fi47_1 fi47_2 fi47_3 fi47_4 fi47_5 ty48 el48 pl48 fi48_0 fi48_1 fi48_2 fi48_3 fi48_4 fi48_5 fi48_6 ty49 el49 pl49 fi49_0 fi49_1 fi49_2 fi49_3 fi49_4 fi49_5 fi49_6 el50 ty51 el51 ty52 el52 el53 ty54 el54 ty55 el55 el56 ty57 el57 ty58 el58 ty59 el59 ty60 el60 ar60 pl60 ty61 el61 ar61 pl61 el62 ty63 el63 ty64 el64 it64 ty65 el65 ty66 el66 pl66 fi66_0 fi66_1 fi66_2 ty67 el67 pl67 fi67_0 fi67_1 fi67_2 ty68 el68 ty69 el69 ty70 el70 eq70 pl70 fi70_0 fi70_1 ty71 el71 eq71 pl71 fi71_0 fi71_1 ty72 el72 el73 ty74 el74 ty75 el75 el76 ty77 el77 ty78 el78 el79 ty80 el80 ty81 el81 eq81 pl81 fi81_0 fi81_1 ty82 el82 eq82 pl82 fi82_0 fi82_1 ty83 el83 ty84 el84 ty85 el85 ar85 pl85 ty86 el86 ar86 pl86 ty87 el87 ar87 pl87 ty88 el88 ar88 pl88 ty89 el89 pl89 fi89_0 fi89_1 fi89_2 ty90 el90 pl90 fi90_0 fi90_1 fi90_2 ty91 el91 ar91 pl91 ty92 el92 ar92 pl92 ty93 el93 ar93 pl93 ty94 el94 pl94 fi94_0 fi94_1 fi94_2 ty95 el95 pl95 fi95_0 fi95_1 fi95_2 ty96 el96 el97 ty98 el98 ty99 el99 eq99 pl99 fi99_0 fi99_1 fi99_2 ty100 el100 eq100 pl100 fi100_0 fi100_1 fi100_2 ty101 el101 ty102 el102 el103 ty104 el104 el105 ty106 el106 ty107 el107 ty108 el108 ty109 el109 pl109 fi109_0 fi109_1 ty110 el110 pl110 fi110_0 fi110_1 ty111 el111 eq111 pl111 fi111_0 fi111_1 ty112 el112 eq112 pl112 fi112_0 fi112_1 ty113 el113 eq113 pl113 fi113_0 fi113_1 fi113_2 ty114 el114 eq114 pl114 fi114_0 fi114_1 fi114_2 ty115 el115 ty116 el116 ar116 pl116 el117 ty118 el118 ty119 el119 ar119 pl119 ty120 el120 eq120 pl120 fi120_0 fi120_1 ty121 el121 eq121 pl121 fi121_0 fi121_1 ty122 el122 ty123 el123 it123 ty124 el124 eq124 pl124 fi124_0 fi124_1 fi124_2 fi124_3 fi124_4 fi124_5 ty125 el125 eq125 pl125 fi125_0 fi125_1 fi125_2 fi125_3 fi125_4 fi125_5 ty126 el126 ar126 pl126 ty127 el127 ty128 el128 pl128 fi128_0 fi128_1 fi128_2 ty129 el129 pl129 fi129_0 fi129_1 fi129_2 el130 ty131 el131 el132 ty133 el133 el134 ty135 el135 ty136 el136 ty137 el137 ty138 el138 ty139 el139 eq139 pl139 fi139_0 fi139_1 ty140 el140 eq140 pl140 fi140_0 fi140_1 ty141 el141 ty142 el142 ty143 el143 pl143 fi143_0 ty144 el144 pl144 fi144_0 ty145 el145 ty146 el146 eq146 pl146 fi146_0 fi146_1 ty147 el147 eq147 pl147 fi147_0 fi147_1 ty148 el148 ty149 el149 ty150 el150 ty151 el151 ty152 el152 ty153 el153 pl153 fi153_0 ty154 el154 pl154 fi154_0 el155 ty156 el156 ty157 el157 ty158 el158 ty159 el159 ty160 el160 ty161 el161 el162 ty163 el163 ty164 el164 ty165 el165 ty166 el166 ty167 el167 ty168 el168 ty169 el169 ty170 el170 ty171 el171 ty172 el172 ty173 el173 pl173 fi173_0 fi173_1 ty174 el174 pl174 fi174_0 fi174_1 el175 ty176 el176 ty177 el177 ty178 el178 mp178 ty179 el179 ty180 el180 el181 ty182 el182 el183 ty184 el184 el185 ty186 el186 ty187 el187 ty188 el188 ty189 el189 ty190 el190 ty191 el191 ar191 pl191 ty192 el192 ty193 el193 ar193 pl193 ty194 el194 ty195 el195 ty196 el196 ty197 el197 ty198 el198 ty199 el199 el200 ty201 el201 ty202 el202 eq202 pl202 fi202_0 fi202_1 ty203 el203 ty204 el204 ty205 el205 eq205 pl205 fi205_0 fi205_1 ty206 el206 eq206 pl206 fi206_0 fi206_1 ty207 el207 ty208 el208 ty209 el209 ty210 el210 ty211 el211 ty212 el212 ty213 el213 ty214 el214 ty215 el215 ty216 el216 ty217 el217 ty218 el218 ty219 el219 ty220 el220 ty221 el221 ty222 el222 ty223 el223 el224 ty225 el225 ty226 el226 ty227 el227 ty228 el228 ty229 el229 ty230 el230 ty231 el231 ty232 el232 el233 ty234 el234 ty235 el235 ty236 el236 ty237 el237 ty238 el238 ty239 el239 ty240 el240 ty241 el241 ty242 el242 ty243 el243 ty244 el244 ty245 el245 ty246 el246 pl246 fi246_0 fi246_1 fi246_2 fi246_3 fi246_4 ty247 el247 pl247 fi247_0 fi247_1 fi247_2 fi247_3 fi247_4 ty248 el248 ty249 el249 ty250 el250 ty251 el251 ty252 el252 ty253 el253 ty254 el254 ty255 el255 ty256 el256 ty257 el257 ty258 el258 ty259 el259 el260 ty261 el261 ty262 el262 ty263 el263 ty264 el264 it264 el265 ty266 el266 ty267 el267 it267 el268 ty269 el269 ty270 el270 ty271 el271 pl271 fi271_0 fi271_1 fi271_2 fi271_3 ty272 el272 pl272 fi272_0 fi272_1 fi272_2 fi272_3 ty273 el273 ar273 pl273 ty274 el274 pl274 ty275 el275 pl275 ty276 el276 it276 ty277 el277 it277 ty278 el278 ty279 el279 ty280 el280 it280 ty281 el281 it281 ty282 el282 pl282 fi282_0 fi282_1 fi282_2 fi282_3 fi282_4 fi282_5 fi282_6 fi282_7 fi282_8 fi282_9 fi282_10 ty283 el283 pl283 fi283_0 fi283_1 fi283_2 fi283_3 fi283_4 fi283_5 fi283_6 fi283_7 fi283_8 fi283_9 fi283_10 ty284 el284 ty285 el285 ty286 el286
end Go.Dw.Seat
end
section
namespace Go.Dw.Seat
open Go Go.Dw
def Tm (n : Nat) : Operand := .tmp n
def Kn (n : Int) : Operand := .const (.int .i64 n)
def Kb (b : Bool) : Operand := .const (.bool b)
def Mv (a c : Nat) : SO := ⟨some a, .move (.tmp c), none⟩
def Sg (a c : Nat) : SO := ⟨some a, .assign (.tmp c), none⟩
def Sk (a : Nat) (c : Operand) : SO := ⟨some a, .assign c, none⟩
def Ld (a b c : Nat) : SO := ⟨some a, .load b (.tmp c), none⟩
def Fa (a b c d : Nat) : SO := ⟨some a, .fieldAddr b (.tmp c) d, none⟩
def Xt (a c d : Nat) : SO := ⟨some a, .extract (.tmp c) d, none⟩
def Ix (a b c d : Nat) : SO := ⟨some a, .indexAddr b (.tmp c) (.tmp d), none⟩
def Lq (a c t : Nat) : SO := ⟨some a, .call { callee := .builtin .len, args := #[.tmp c], argTypes := #[t] }, none⟩
def Cl (a f : Nat) (x : Array Operand) (y : Array TypeId) : SO := ⟨some a, .call { callee := .value (.func f), args := x, argTypes := y }, none⟩
def Bo (a : Nat) (o : BinOp) (t : Nat) (x y : Operand) (u : Nat) : SO := ⟨some a, .binOp o t x y u, none⟩
def Pk (a x : Nat) (y z : Operand) : SO := ⟨some a, .pick (.tmp x) y z, none⟩
def Sr (t : Nat) (x y : Operand) : SO := ⟨none, .store t x y, none⟩
def Nk (a c : Nat) : SO := ⟨some a, .nilCheck (.tmp c), none⟩
def Oo (a : Nat) (o : Op) : SO := ⟨some a, o, none⟩
def Gm (a c g : Nat) (b : Bool) : SO := ⟨some a, .move (.tmp c), some (g, b)⟩
def Gl (a t c g : Nat) (b : Bool) : SO := ⟨some a, .load t (.tmp c), some (g, b)⟩
def Gf (a t c d g : Nat) (b : Bool) : SO := ⟨some a, .fieldAddr t (.tmp c) d, some (g, b)⟩
def Gx (a t c d g : Nat) (b : Bool) : SO := ⟨some a, .indexAddr t (.tmp c) (.tmp d), some (g, b)⟩
def Gc (a f : Nat) (x : Array Operand) (y : Array TypeId) (g : Nat) (b : Bool) : SO := ⟨some a, .call { callee := .value (.func f), args := x, argTypes := y }, some (g, b)⟩
def Gb (a : Nat) (o : BinOp) (t : Nat) (x y : Operand) (u g : Nat) (b : Bool) : SO := ⟨some a, .binOp o t x y u, some (g, b)⟩
def Og (a : Nat) (o : Op) (g : Nat) (b : Bool) : SO := ⟨some a, o, some (g, b)⟩
abbrev R0 (l : List SO) : SC := .reg false l
abbrev R1 (l : List SO) : SC := .reg true l
attribute [go_sem] Tm Kn Kb Mv Sg Sk Ld Fa Xt Ix Lq Cl Bo Pk Sr Nk Oo Gm Gl Gf Gx Gc Gb Og
end Go.Dw.Seat
namespace Go.Dw.Seat
open Go Go.Dw Go.Proofs
def o3_0 : SO := (Ld 31 31 7)
def o3_1 : SO := (Cl 32 9 #[Tm 31] #[31])
def o3_2 : SO := (Ld 33 35 8)
def o3_3 : SO := (Cl 34 10 #[Tm 33] #[35])
def o3_4 : SO := (Cl 35 8 #[Tm 32, Tm 34] #[31, 35])
def o3_5 : SO := (Mv 30 35)
def o3_6 : SO := (Xt 36 30 0)
def o3_7 : SO := (Oo 9 (.alloc 38))
def o3_8 : SO := (Oo 10 (.alloc 38))
def o3_9 : SO := (Xt 37 30 1)
def o3_10 : SO := (Xt 38 30 2)
def o3_11 : SO := (Sr 38 (Tm 9) (Tm 36))
def o3_12 : SO := (Sr 38 (Tm 10) (Tm 37))
def o3_13 : SO := (Sg 11 38)
def o3_14 : SO := (Ld 152 49 13)
def o3_15 : SO := (Cl 153 16 #[Tm 152] #[49])
def o3_16 : SO := (Ld 154 47 12)
def o3_17 : SO := (Cl 155 17 #[Tm 153, Tm 154] #[49, 47])
def o3_18 : SO := (Mv 151 155)
def o3_19 : SO := (Xt 156 151 0)
def o3_20 : SO := (Oo 18 (.alloc 38))
def o3_21 : SO := (Xt 157 151 1)
def o3_22 : SO := (Sr 38 (Tm 18) (Tm 156))
def o3_23 : SO := (Sg 19 157)
def o3_24 : SO := (Ld 173 47 12)
def o3_25 : SO := (Mv 174 20)
def o3_26 : SO := (Mv 175 20)
def o3_27 : SO := (Cl 176 13 #[Tm 174, Tm 175] #[3, 3])
def o3_28 : SO := (Oo 177 (.indexAddr 27 (Tm 5) (Kn 3)))
def o3_29 : SO := (Ld 178 5 177)
def o3_30 : SO := (Oo 179 (.convert 5 3 (Tm 178)))
def o3_31 : SO := (Bo 180 .rem 3 (Tm 179) (Kn 50) 3)
def o3_32 : SO := (Cl 181 14 #[Tm 173, Tm 176, Tm 180] #[47, 38, 3])
def o3_33 : SO := (Mv 172 181)
def o3_34 : SO := (Xt 182 172 0)
def o3_35 : SO := (Oo 23 (.alloc 49))
def o3_36 : SO := (Sr 49 (Tm 23) (Tm 182))
def o3_37 : SO := (Xt 183 172 1)
def o3_38 : SO := (Xt 184 172 2)
def o3_39 : SO := (Sg 24 183)
def o3_40 : SO := (Sg 25 184)
def s3 : SF := ⟨239, [.tmp 6], (.seq (R0 [Oo 3 (.box 26 (Tm 0)), Oo 5 (.box 27 (Tm 2)), Sk 6 (Kb false)]) (.seq (R1 [Ld 26 26 3, Cl 27 6 #[Tm 26] #[26], Ld 28 26 3, Cl 29 7 #[Tm 28] #[26], Oo 7 (.alloc 31), Oo 8 (.alloc 35), Sr 31 (Tm 7) (Tm 27), Sr 35 (Tm 8) (Tm 29)]) (.seq (.ord (.op o3_0 (.op o3_1 (.op o3_2 (.op o3_3 (.op o3_4 (.op o3_5 (.op o3_6 (.op o3_7 (.op o3_8 (.alt (.op o3_9 (.alt (.op o3_10 (.op o3_11 (.op o3_12 (.op o3_13 .done)))) (.op o3_11 (.alt (.op o3_10 (.op o3_12 (.op o3_13 .done))) (.op o3_12 (.op o3_10 (.op o3_13 .done))))))) (.alt (.op o3_10 (.alt (.op o3_9 (.op o3_11 (.op o3_12 (.op o3_13 .done)))) (.op o3_11 (.op o3_9 (.op o3_12 (.op o3_13 .done)))))) (.op o3_11 (.op o3_9 (.alt (.op o3_10 (.op o3_12 (.op o3_13 .done))) (.op o3_12 (.op o3_10 (.op o3_13 .done)))))))))))))))))) (.seq (.seq (R0 [Mv 39 11, Bo 40 .neq 39 (Tm 39) (Kn 0) 39, Mv 41 40, Gf 42 38 10 0 41 false, Gl 43 3 42 41 false, Gb 44 .lss 3 (Tm 43) (Kn 1) 3 41 false, Pk 45 41 (Kb true) (Tm 44)]) (.cond (Tm 45) (.seq (R0 [Sk 6 (Kb false)]) .ret) .skip)) (.seq (.seq (R0 [Fa 46 38 10 1, Ld 47 3 46, Bo 48 .gtr 3 (Tm 47) (Kn 10000) 3]) (.cond (Tm 48) (.seq (R0 [Cl 49 11 #[] #[], Mv 50 49, Gc 51 12 #[] #[] 50 true, Pk 52 50 (Tm 51) (Kb false), Sg 6 52]) .ret) .skip)) (.seq (R1 [Oo 53 (.indexAddr 27 (Tm 5) (Kn 0)), Ld 54 5 53, Oo 55 (.convert 5 3 (Tm 54)), Bo 56 .add 3 (Kn 50) (Tm 55) 3, Oo 57 (.indexAddr 27 (Tm 5) (Kn 0)), Ld 58 5 57, Oo 59 (.convert 5 3 (Tm 58)), Bo 60 .add 3 (Kn 50) (Tm 59) 3, Oo 61 (.indexAddr 27 (Tm 5) (Kn 4)), Ld 62 5 61, Oo 63 (.convert 5 3 (Tm 62)), Bo 64 .rem 3 (Tm 63) (Kn 4) 3, Bo 65 .add 3 (Tm 60) (Tm 64) 3, Cl 66 13 #[Tm 56, Tm 65] #[3, 3], Oo 67 (.indexAddr 27 (Tm 5) (Kn 1)), Ld 68 5 67, Oo 69 (.convert 5 3 (Tm 68)), Bo 70 .add 3 (Kn 40) (Tm 69) 3, Oo 71 (.indexAddr 27 (Tm 5) (Kn 1)), Ld 72 5 71, Oo 73 (.convert 5 3 (Tm 72)), Bo 74 .add 3 (Kn 40) (Tm 73) 3, Oo 75 (.indexAddr 27 (Tm 5) (Kn 4)), Ld 76 5 75, Oo 77 (.convert 5 3 (Tm 76)), Bo 78 .quo 3 (Tm 77) (Kn 4) 3, Bo 79 .rem 3 (Tm 78) (Kn 4) 3, Bo 80 .add 3 (Tm 74) (Tm 79) 3, Cl 81 13 #[Tm 70, Tm 80] #[3, 3], Oo 82 (.indexAddr 27 (Tm 5) (Kn 2)), Ld 83 5 82, Oo 84 (.convert 5 3 (Tm 83)), Bo 85 .add 3 (Kn 30) (Tm 84) 3, Oo 86 (.indexAddr 27 (Tm 5) (Kn 2)), Ld 87 5 86, Oo 88 (.convert 5 3 (Tm 87)), Bo 89 .add 3 (Kn 30) (Tm 88) 3, Oo 90 (.indexAddr 27 (Tm 5) (Kn 4)), Ld 91 5 90, Oo 92 (.convert 5 3 (Tm 91)), Bo 93 .quo 3 (Tm 92) (Kn 16) 3, Bo 94 .rem 3 (Tm 93) (Kn 4) 3, Bo 95 .add 3 (Tm 89) (Tm 94) 3, Cl 96 13 #[Tm 85, Tm 95] #[3, 3], Oo 97 (.indexAddr 27 (Tm 5) (Kn 5)), Ld 98 5 97, Oo 99 (.convert 5 3 (Tm 98)), Oo 100 (.unOp .neg 3 (Tm 99)), Bo 101 .rem 3 (Tm 100) (Kn 8) 3, Oo 102 (.indexAddr 27 (Tm 5) (Kn 5)), Ld 103 5 102, Oo 104 (.convert 5 3 (Tm 103)), Bo 105 .quo 3 (Tm 104) (Kn 8) 3, Bo 106 .rem 3 (Tm 105) (Kn 4) 3, Cl 107 13 #[Tm 101, Tm 106] #[3, 3], Oo 108 (.indexAddr 27 (Tm 5) (Kn 3)), Ld 109 5 108, Oo 110 (.convert 5 3 (Tm 109)), Cl 111 13 #[Kn (-100), Tm 110] #[3, 3], Oo 112 (.indexAddr 27 (Tm 5) (Kn 5)), Ld 113 5 112, Bo 114 .quo 5 (Tm 113) (.const (.int .u8 32)) 5, Bo 115 .rem 5 (Tm 114) (.const (.int .u8 4)) 5, Bo 116 .eql 5 (Tm 115) (.const (.int .u8 0)) 5, Oo 117 (.build 47 #[(0, (Tm 66)), (1, (Tm 81)), (2, (Tm 96)), (3, (Tm 107)), (4, (Tm 111)), (5, (Tm 116))]), Oo 12 (.alloc 47), Sr 47 (Tm 12) (Tm 117)]) (.seq (R0 [Ld 119 47 12, Ld 120 38 10, Oo 121 (.indexAddr 27 (Tm 5) (Kn 3)), Ld 122 5 121, Oo 123 (.convert 5 3 (Tm 122)), Bo 124 .rem 3 (Tm 123) (Kn 50) 3, Cl 125 14 #[Tm 119, Tm 120, Tm 124] #[47, 38, 3], Mv 118 125, Xt 126 118 0, Xt 127 118 1, Xt 128 118 2, Oo 13 (.alloc 49), Sr 49 (Tm 13) (Tm 126), Sg 14 127, Sg 15 128]) (.seq (.seq (R0 [Mv 129 15, Bo 130 .eql 39 (Tm 129) (Kn 9) 39]) (.cond (Tm 130) (.seq (R0 [Mv 131 14, Bo 132 .geq 3 (Tm 131) (Kn 0) 3, Mv 133 132, Gm 134 14 133 true, Gb 135 .leq 3 (Tm 134) (Kn 9) 3 133 true, Pk 136 133 (Tm 135) (Kb false), Mv 137 136, Gc 138 11 #[] #[] 137 true, Pk 139 137 (Tm 138) (Kb false), Mv 140 139, Gc 141 12 #[] #[] 140 true, Pk 142 140 (Tm 141) (Kb false), Sg 6 142]) .ret) .skip)) (.seq (R1 [Ld 144 49 13, Cl 145 16 #[Tm 144] #[49], Ld 146 47 12, Ld 147 38 10, Cl 148 15 #[Tm 145, Tm 146, Tm 147] #[49, 47, 38], Mv 143 148, Xt 149 143 0, Xt 150 143 1, Sg 16 149, Sg 17 150]) (.seq (.ord (.op o3_14 (.op o3_15 (.op o3_16 (.op o3_17 (.op o3_18 (.op o3_19 (.op o3_20 (.alt (.op o3_21 (.op o3_22 (.op o3_23 .done))) (.op o3_22 (.op o3_21 (.op o3_23 .done)))))))))))) (.seq (R0 [Ld 158 31 7, Ld 159 35 8, Mv 160 1, Cl 161 18 #[Tm 158, Tm 159, Tm 160] #[31, 35, 24], Sg 20 161]) (.seq (R1 [Ld 163 49 13, Cl 164 16 #[Tm 163] #[49], Ld 165 47 12, Mv 166 20, Mv 167 20, Cl 168 13 #[Tm 166, Tm 167] #[3, 3], Cl 169 15 #[Tm 164, Tm 165, Tm 168] #[49, 47, 38], Mv 162 169, Xt 170 162 0, Xt 171 162 1, Sg 21 170, Sg 22 171]) (.seq (.ord (.op o3_24 (.op o3_25 (.op o3_26 (.op o3_27 (.op o3_28 (.op o3_29 (.op o3_30 (.op o3_31 (.op o3_32 (.op o3_33 (.op o3_34 (.op o3_35 (.app o3_36 [172, 172] [183, 184] (.op o3_37 (.op o3_38 (.op o3_39 (.op o3_40 .done)))))))))))))))))) (.seq (R0 [Mv 185 15, Bo 186 .eql 39 (Tm 185) (Kn 0) 39, Mv 187 186, Gm 188 17 187 true, Gb 189 .eql 39 (Tm 188) (Kn 0) 39 187 true, Pk 190 187 (Tm 189) (Kb false), Mv 191 190, Gm 192 19 191 true, Gb 193 .eql 39 (Tm 192) (Kn 0) 39 191 true, Pk 194 191 (Tm 193) (Kb false), Mv 195 194, Gm 196 22 195 true, Gb 197 .eql 39 (Tm 196) (Kn 0) 39 195 true, Pk 198 195 (Tm 197) (Kb false), Mv 199 198, Gm 200 25 199 true, Gb 201 .eql 39 (Tm 200) (Kn 0) 39 199 true, Pk 202 199 (Tm 201) (Kb false), Mv 203 202, Gm 204 16 203 true, Og 205 (.call { callee := .builtin .len, args := #[Tm 204], argTypes := #[52] }) 203 true, Gb 206 .eql 3 (Tm 205) (Kn 0) 3 203 true, Pk 207 203 (Tm 206) (Kb false), Mv 208 207, Gm 209 21 208 true, Og 210 (.call { callee := .builtin .len, args := #[Tm 209], argTypes := #[52] }) 208 true, Gb 211 .eql 3 (Tm 210) (Kn 0) 3 208 true, Pk 212 208 (Tm 211) (Kb false), Mv 213 212, Gf 214 38 18 0 213 true, Gl 215 3 214 213 true, Gf 216 38 10 0 213 true, Gl 217 3 216 213 true, Gb 218 .leq 3 (Tm 215) (Tm 217) 3 213 true, Pk 219 213 (Tm 218) (Kb false), Mv 220 219, Gf 221 38 18 1 220 true, Gl 222 3 221 220 true, Gf 223 38 10 1 220 true, Gl 224 3 223 220 true, Gb 225 .geq 3 (Tm 222) (Tm 224) 3 220 true, Pk 226 220 (Tm 225) (Kb false), Mv 227 226, Gf 228 49 23 1 227 true, Gl 229 33 228 227 true, Og 230 (.call { callee := .builtin .len, args := #[Tm 229], argTypes := #[33] }) 227 true, Gb 231 .eql 3 (Tm 230) (Kn 4) 3 227 true, Pk 232 227 (Tm 231) (Kb false), Mv 233 232, Gc 234 11 #[] #[] 233 true, Pk 235 233 (Tm 234) (Kb false), Mv 236 235, Gc 237 12 #[] #[] 236 true, Pk 238 236 (Tm 237) (Kb false), Sg 6 238]) .ret))))))))))))))⟩
theorem hb3 : hasBody Try.prog 3 = true := by kernel_rfl
def o4_0 : SO := (Ld 98 3 10)
def o4_1 : SO := (Oo 99 (.makeSlice 33 (Tm 98) (Tm 98)))
def o4_2 : SO := (Oo 13 (.alloc 33))
def o4_3 : SO := (Sr 33 (Tm 13) (Tm 99))
def o4_4 : SO := (Fa 100 49 7 3)
def o4_5 : SO := (Ld 101 33 100)
def o4_6 : SO := (Oo 102 (.indexAddr 33 (Tm 101) (Kn 0)))
def o4_7 : SO := (Ld 103 3 102)
def o4_8 : SO := (Fa 104 49 7 3)
def o4_9 : SO := (Ld 105 33 104)
def o4_10 : SO := (Oo 106 (.indexAddr 33 (Tm 105) (Kn 1)))
def o4_11 : SO := (Ld 107 3 106)
def o4_12 : SO := (Oo 108 (.call { callee := .builtin .max, args := #[Tm 103, Tm 107], argTypes := #[3, 3] }))
def o4_13 : SO := (Sk 14 (Kn 0))
def o4_14 : SO := (Sk 15 (Kn 0))
def o4_15 : SO := (Sg 16 108)
def s4 : SF := ⟨377, [.tmp 6], (.seq (R0 [Oo 3 (.box 60 (Tm 0)), Oo 4 (.box 61 (Tm 1)), Sk 6 (Kb false)]) (.seq (R0 [Oo 33 (.indexAddr 60 (Tm 3) (Kn 4)), Ld 34 5 33, Oo 35 (.convert 5 3 (Tm 34)), Bo 36 .rem 3 (Tm 35) (Kn 2) 3, Bo 37 .add 3 (Kn 1) (Tm 36) 3, Oo 38 (.indexAddr 60 (Tm 3) (Kn 5)), Ld 39 5 38, Oo 40 (.convert 5 3 (Tm 39)), Bo 41 .rem 3 (Tm 40) (Kn 2) 3, Oo 42 (.indexAddr 60 (Tm 3) (Kn 6)), Ld 43 5 42, Oo 44 (.convert 5 3 (Tm 43)), Bo 45 .rem 3 (Tm 44) (Kn 2) 3, Oo 46 (.buildSlice 33 2 #[(0, (Tm 41)), (1, (Tm 45))]), Oo 47 (.indexAddr 60 (Tm 3) (Kn 7)), Ld 48 5 47, Oo 49 (.convert 5 3 (Tm 48)), Bo 50 .rem 3 (Tm 49) (Kn 2) 3, Oo 51 (.indexAddr 60 (Tm 3) (Kn 8)), Ld 52 5 51, Oo 53 (.convert 5 3 (Tm 52)), Bo 54 .rem 3 (Tm 53) (Kn 2) 3, Oo 55 (.buildSlice 33 2 #[(0, (Tm 50)), (1, (Tm 54))]), Oo 56 (.build 49 #[(2, (Tm 37)), (3, (Tm 46)), (4, (Tm 55))]), Oo 7 (.alloc 49), Sr 49 (Tm 7) (Tm 56)]) (.seq (.seq (R0 [Sk 8 (Kn 0)]) (.block 0 (.loop (.seq (.seq (R0 [Mv 57 8, Bo 58 .lss 3 (Tm 57) (Kn 4) 3]) (.cond (Tm 58) .skip (.exit 0))) (.seq (.block 1 (R1 [Fa 61 49 7 1, Ld 62 33 61, Mv 63 8, Ix 64 60 3 63, Ld 65 5 64, Oo 66 (.convert 5 3 (Tm 65)), Bo 67 .rem 3 (Tm 66) (Kn 2) 3, Bo 68 .add 3 (Kn 1) (Tm 67) 3, Oo 69 (.buildSlice 33 1 #[(0, (Tm 68))]), Oo 70 (.call { callee := .builtin .append, args := #[Tm 62, Tm 69], argTypes := #[33, 33] }), Fa 71 49 7 1, Sr 33 (Tm 71) (Tm 70)])) (R0 [Mv 59 8, Bo 60 .add 3 (Tm 59) (Kn 1) 3, Sg 8 60])))))) (.seq (R0 [Ld 73 49 7, Cl 74 16 #[Tm 73] #[49], Cl 75 19 #[Tm 74] #[49], Mv 72 75, Xt 76 72 0, Xt 77 72 1, Xt 78 72 2, Xt 79 72 3, Oo 9 (.alloc 3), Oo 10 (.alloc 3), Sr 3 (Tm 9) (Tm 76), Sr 3 (Tm 10) (Tm 77), Sg 11 78, Sg 12 79]) (.seq (.seq (R0 [Mv 80 12, Bo 81 .neq 39 (Tm 80) (Kn 0) 39, Mv 82 81, Gl 83 3 9 82 false, Gb 84 .lss 3 (Tm 83) (Kn 4) 3 82 false, Pk 85 82 (Kb true) (Tm 84), Mv 86 85, Gl 87 3 9 86 false, Gb 88 .gtr 3 (Tm 87) (Kn 8) 3 86 false, Pk 89 86 (Kb true) (Tm 88), Mv 90 89, Gl 91 3 10 90 false, Gb 92 .lss 3 (Tm 91) (Kn 1) 3 90 false, Pk 93 90 (Kb true) (Tm 92), Mv 94 93, Gl 95 3 10 94 false, Gb 96 .gtr 3 (Tm 95) (Kn 4) 3 94 false, Pk 97 94 (Kb true) (Tm 96)]) (.cond (Tm 97) (.seq (R0 [Sk 6 (Kb false)]) .ret) .skip)) (.seq (.ord (.op o4_0 (.op o4_1 (.op o4_2 (.app o4_3 [7, 100, 101, 102, 7, 104, 105, 106, 103, 107] [100, 101, 102, 103, 104, 105, 106, 107, 108] (.op o4_4 (.op o4_5 (.op o4_6 (.op o4_7 (.op o4_8 (.op o4_9 (.op o4_10 (.op o4_11 (.op o4_12 (.op o4_13 (.op o4_14 (.op o4_15 .done))))))))))))))))) (.seq (.seq (R0 [Sk 17 (Kn 0)]) (.block 2 (.loop (.seq (.seq (R0 [Mv 109 17, Bo 110 .lss 3 (Tm 109) (Kn 4) 3]) (.cond (Tm 110) .skip (.exit 2))) (.seq (.block 3 (.seq (.seq (R0 [Mv 113 14, Sg 18 113]) (.block 4 (.loop (.seq (.seq (R0 [Mv 114 18, Mv 115 14, Fa 116 49 7 1, Ld 117 33 116, Mv 118 17, Ix 119 33 117 118, Ld 120 3 119, Bo 121 .add 3 (Tm 115) (Tm 120) 3, Bo 122 .lss 3 (Tm 114) (Tm 121) 3]) (.cond (Tm 122) .skip (.exit 4))) (.seq (.block 5 (.seq (R0 [Mv 125 16, Fa 126 49 7 3, Ld 127 33 126, Mv 128 17, Bo 129 .rem 3 (Tm 128) (Kn 2) 3, Ix 130 33 127 129, Ld 131 3 130, Bo 132 .sub 3 (Tm 125) (Tm 131) 3, Sg 19 132]) (.block 6 (.loop (.seq (.seq (R1 [Mv 133 19, Mv 134 16, Fa 135 49 7 2, Ld 136 3 135, Bo 137 .add 3 (Tm 134) (Tm 136) 3, Fa 138 49 7 4, Ld 139 33 138, Mv 140 17, Bo 141 .rem 3 (Tm 140) (Kn 2) 3, Ix 142 33 139 141, Ld 143 3 142, Bo 144 .add 3 (Tm 137) (Tm 143) 3, Bo 145 .lss 3 (Tm 133) (Tm 144) 3, Mv 146 145, Gm 147 19 146 true, Gl 148 3 10 146 true, Gb 149 .lss 3 (Tm 147) (Tm 148) 3 146 true, Pk 150 146 (Tm 149) (Kb false)]) (.cond (Tm 150) .skip (.exit 6))) (.seq (.block 7 (.seq (R0 [Ld 153 33 13, Mv 154 19, Ix 155 33 153 154, Ld 156 3 155, Mv 157 18, Oo 158 (.convert 3 64 (Tm 157)), Bo 159 .shl 3 (Kn 1) (Tm 158) 64, Bo 160 .or 3 (Tm 156) (Tm 159) 3, Ix 161 33 153 154, Sr 3 (Tm 161) (Tm 160)]) (R0 [Mv 162 15, Bo 163 .add 3 (Tm 162) (Kn 1) 3, Sg 15 163]))) (R0 [Mv 151 19, Bo 152 .add 3 (Tm 151) (Kn 1) 3, Sg 19 152]))))))) (R0 [Mv 123 18, Bo 124 .add 3 (Tm 123) (Kn 1) 3, Sg 18 124])))))) (R0 [Mv 164 14, Fa 165 49 7 1, Ld 166 33 165, Mv 167 17, Ix 168 33 166 167, Ld 169 3 168, Bo 170 .add 3 (Tm 164) (Tm 169) 3, Sg 14 170]))) (R0 [Mv 111 17, Bo 112 .add 3 (Tm 111) (Kn 1) 3, Sg 17 112])))))) (.seq (R0 [Oo 171 (.makeFunc (.func 20) #[] #[Tm 9, Tm 10, Tm 13]), Sg 20 171]) (.seq (R1 [Oo 172 (.indexAddr 61 (Tm 4) (Kn 0)), Ld 173 5 172, Oo 174 (.convert 5 3 (Tm 173)), Oo 175 (.unOp .neg 3 (Tm 174)), Bo 176 .rem 3 (Tm 175) (Kn 3) 3, Oo 177 (.indexAddr 61 (Tm 4) (Kn 0)), Ld 178 5 177, Oo 179 (.convert 5 3 (Tm 178)), Bo 180 .quo 3 (Tm 179) (Kn 8) 3, Bo 181 .rem 3 (Tm 180) (Kn 3) 3, Cl 182 13 #[Tm 176, Tm 181] #[3, 3], Oo 183 (.indexAddr 61 (Tm 4) (Kn 1)), Ld 184 5 183, Oo 185 (.convert 5 3 (Tm 184)), Oo 186 (.unOp .neg 3 (Tm 185)), Bo 187 .rem 3 (Tm 186) (Kn 3) 3, Oo 188 (.indexAddr 61 (Tm 4) (Kn 1)), Ld 189 5 188, Oo 190 (.convert 5 3 (Tm 189)), Bo 191 .quo 3 (Tm 190) (Kn 8) 3, Bo 192 .rem 3 (Tm 191) (Kn 3) 3, Cl 193 13 #[Tm 187, Tm 192] #[3, 3], Oo 194 (.build 71 #[(0, (Tm 182)), (1, (Tm 193))]), Oo 21 (.alloc 71), Sr 71 (Tm 21) (Tm 194)]) (.seq (R0 [Mv 196 20, Oo 197 (.call { callee := .value (Tm 196), args := #[], argTypes := #[] }), Oo 198 (.build 71 #[]), Oo 199 (.buildSlice 75 1 #[(0, (Tm 198))]), Mv 200 2, Oo 201 (.convert 5 3 (Tm 200)), Cl 202 22 #[Tm 197, Tm 199, Tm 201] #[67, 75, 3], Mv 195 202, Xt 203 195 0, Xt 204 195 1, Sg 22 203, Sg 23 204]) (.seq (R1 [Mv 206 20, Oo 207 (.call { callee := .value (Tm 206), args := #[], argTypes := #[] }), Ld 208 71 21, Oo 209 (.buildSlice 75 1 #[(0, (Tm 208))]), Mv 210 2, Oo 211 (.convert 5 3 (Tm 210)), Cl 212 22 #[Tm 207, Tm 209, Tm 211] #[67, 75, 3], Mv 205 212, Xt 213 205 0, Xt 214 205 1, Sg 24 213, Sg 25 214]) (.seq (R1 [Mv 216 20, Oo 217 (.call { callee := .value (Tm 216), args := #[], argTypes := #[] }), Ld 218 71 21, Oo 219 (.buildSlice 75 1 #[(0, (Tm 218))]), Cl 220 23 #[Tm 217, Tm 219] #[67, 75], Mv 215 220, Xt 221 215 0, Xt 222 215 1, Xt 223 215 2, Sg 26 221, Sg 27 222, Sg 28 223]) (.seq (R0 [Mv 225 20, Oo 226 (.call { callee := .value (Tm 225), args := #[], argTypes := #[] }), Oo 227 (.build 82 #[]), Oo 228 (.buildSlice 83 1 #[(0, (Tm 227))]), Cl 229 24 #[Tm 226, Tm 228] #[67, 83], Mv 224 229, Xt 230 224 0, Xt 231 224 1, Sg 29 230, Sg 30 231]) (.seq (.seq (R0 [Mv 232 23, Bo 233 .neq 39 (Tm 232) (Kn 0) 39, Mv 234 233, Gm 235 25 234 false, Gb 236 .neq 39 (Tm 235) (Kn 0) 39 234 false, Pk 237 234 (Kb true) (Tm 236), Mv 238 237, Gm 239 28 238 false, Gb 240 .neq 39 (Tm 239) (Kn 0) 39 238 false, Pk 241 238 (Kb true) (Tm 240), Mv 242 241, Gm 243 30 242 false, Gb 244 .neq 39 (Tm 243) (Kn 0) 39 242 false, Pk 245 242 (Kb true) (Tm 244), Mv 246 245, Gm 247 22 246 false, Og 248 (.call { callee := .builtin .len, args := #[Tm 247], argTypes := #[72] }) 246 false, Gb 249 .neq 3 (Tm 248) (Kn 1) 3 246 false, Pk 250 246 (Kb true) (Tm 249), Mv 251 250, Gm 252 24 251 false, Og 253 (.call { callee := .builtin .len, args := #[Tm 252], argTypes := #[72] }) 251 false, Gb 254 .neq 3 (Tm 253) (Kn 1) 3 251 false, Pk 255 251 (Kb true) (Tm 254), Mv 256 255, Gm 257 26 256 false, Og 258 (.call { callee := .builtin .len, args := #[Tm 257], argTypes := #[33] }) 256 false, Gl 259 3 10 256 false, Gb 260 .neq 3 (Tm 258) (Tm 259) 3 256 false, Pk 261 256 (Kb true) (Tm 260), Mv 262 261, Gm 263 27 262 false, Og 264 (.call { callee := .builtin .len, args := #[Tm 263], argTypes := #[33] }) 262 false, Gl 265 3 10 262 false, Gb 266 .neq 3 (Tm 264) (Tm 265) 3 262 false, Pk 267 262 (Kb true) (Tm 266), Mv 268 267, Gm 269 29 268 false, Og 270 (.call { callee := .builtin .len, args := #[Tm 269], argTypes := #[78] }) 268 false, Gl 271 3 10 268 false, Gb 272 .neq 3 (Tm 270) (Tm 271) 3 268 false, Pk 273 268 (Kb true) (Tm 272)]) (.cond (Tm 273) (.seq (R0 [Sk 6 (Kb false)]) .ret) .skip)) (.seq (.seq (R1 [Mv 274 22, Oo 275 (.indexAddr 72 (Tm 274) (Kn 0)), Ld 276 38 275, Mv 277 15, Mv 278 2, Oo 279 (.convert 5 3 (Tm 278)), Bo 280 .mul 3 (Tm 277) (Tm 279) 3, Mv 281 15, Mv 282 2, Oo 283 (.convert 5 3 (Tm 282)), Bo 284 .mul 3 (Tm 281) (Tm 283) 3, Cl 285 13 #[Tm 280, Tm 284] #[3, 3], Bo 286 .neq 38 (Tm 276) (Tm 285) 38, Mv 287 286, Gm 288 24 287 false, Og 289 (.indexAddr 72 (Tm 288) (Kn 0)) 287 false, Gf 290 38 289 1 287 false, Gl 291 3 290 287 false, Gm 292 22 287 false, Og 293 (.indexAddr 72 (Tm 292) (Kn 0)) 287 false, Gf 294 38 293 1 287 false, Gl 295 3 294 287 false, Gb 296 .gtr 3 (Tm 291) (Tm 295) 3 287 false, Pk 297 287 (Kb true) (Tm 296), Mv 298 297, Gm 299 24 298 false, Og 300 (.indexAddr 72 (Tm 299) (Kn 0)) 298 false, Gf 301 38 300 0 298 false, Gl 302 3 301 298 false, Gm 303 24 298 false, Og 304 (.indexAddr 72 (Tm 303) (Kn 0)) 298 false, Gf 305 38 304 1 298 false, Gl 306 3 305 298 false, Gb 307 .gtr 3 (Tm 302) (Tm 306) 3 298 false, Pk 308 298 (Kb true) (Tm 307), Mv 309 308, Gm 310 24 309 false, Og 311 (.indexAddr 72 (Tm 310) (Kn 0)) 309 false, Gf 312 38 311 0 309 false, Gl 313 3 312 309 false, Gb 314 .lss 3 (Tm 313) (Kn 0) 3 309 false, Pk 315 309 (Kb true) (Tm 314)]) (.cond (Tm 315) (.seq (R0 [Sk 6 (Kb false)]) .ret) .skip)) (.seq (.seq (R0 [Sk 31 (Kn 0)]) (.block 8 (.loop (.seq (.seq (R0 [Mv 316 31, Ld 317 3 10, Bo 318 .lss 3 (Tm 316) (Tm 317) 3]) (.cond (Tm 318) .skip (.exit 8))) (.seq (.block 9 (.seq (.seq (R1 [Mv 321 26, Mv 322 31, Ix 323 33 321 322, Ld 324 3 323, Ld 325 33 13, Mv 326 31, Ix 327 33 325 326, Ld 328 3 327, Bo 329 .andNot 3 (Tm 324) (Tm 328) 3, Bo 330 .neq 3 (Tm 329) (Kn 0) 3, Mv 331 330, Gm 332 27 331 false, Gm 333 31 331 false, Gx 334 33 332 333 331 false, Gl 335 3 334 331 false, Gm 336 26 331 false, Gm 337 31 331 false, Gx 338 33 336 337 331 false, Gl 339 3 338 331 false, Gb 340 .andNot 3 (Tm 335) (Tm 339) 3 331 false, Gb 341 .neq 3 (Tm 340) (Kn 0) 3 331 false, Pk 342 331 (Kb true) (Tm 341), Mv 343 342, Gm 344 29 343 false, Gm 345 31 343 false, Gx 346 78 344 345 343 false, Gl 347 9 346 343 false, Og 348 (.call { callee := .builtin .len, args := #[Tm 347], argTypes := #[9] }) 343 false, Gl 349 3 9 343 false, Gb 350 .neq 3 (Tm 348) (Tm 349) 3 343 false, Pk 351 343 (Kb true) (Tm 350)]) (.cond (Tm 351) (.seq (R0 [Sk 6 (Kb false)]) .ret) .skip)) (.seq (R0 [Sk 32 (Kn 0)]) (.block 10 (.loop (.seq (.seq (R0 [Mv 352 32, Ld 353 3 9, Bo 354 .lss 3 (Tm 352) (Tm 353) 3]) (.cond (Tm 354) .skip (.exit 10))) (.seq (.block 11 (.seq (R1 [Mv 357 29, Mv 358 31, Ix 359 78 357 358, Ld 360 9 359, Mv 361 32, Oo 362 (.index 9 (Tm 360) (Tm 361)), Ld 363 33 13, Mv 364 31, Ix 365 33 363 364, Ld 366 3 365, Mv 367 32, Oo 368 (.convert 3 64 (Tm 367)), Bo 369 .shr 3 (Tm 366) (Tm 368) 64, Bo 370 .and 3 (Tm 369) (Kn 1) 3, ⟨some 371, .index 9 (.const (.string ⟨#[48, 49]⟩)) (Tm 370), none⟩, Bo 372 .neq 5 (Tm 362) (Tm 371) 5]) (.cond (Tm 372) (.seq (R0 [Sk 6 (Kb false)]) .ret) .skip))) (R0 [Mv 355 32, Bo 356 .add 3 (Tm 355) (Kn 1) 3, Sg 32 356])))))))) (R0 [Mv 319 31, Bo 320 .add 3 (Tm 319) (Kn 1) 3, Sg 31 320])))))) (.seq (R0 [Cl 373 12 #[] #[], Mv 374 373, Gc 375 25 #[] #[] 374 true, Pk 376 374 (Tm 375) (Kb false), Sg 6 376]) .ret)))))))))))))))))⟩
def s5 : SF := ⟨215, [.tmp 4], (.seq (R0 [Oo 2 (.box 90 (Tm 0)), Oo 3 (.box 95 (Tm 1)), Sk 4 (Kb false)]) (.seq (R0 [Ld 31 90 2, Cl 32 26 #[Tm 31] #[90], Mv 30 32, Xt 33 30 0, Xt 34 30 1, Xt 35 30 2, Xt 36 30 3, Sg 5 33, Sg 6 34, Sg 7 35, Sg 8 36]) (.seq (.seq (R0 [Mv 37 8, Oo 38 (.unOp .not 4 (Tm 37))]) (.cond (Tm 38) (.seq (R0 [Sk 4 (Kb false)]) .ret) .skip)) (.seq (R0 [Ld 40 90 2, Mv 41 7, Cl 42 27 #[Tm 40, Tm 41] #[90, 33], Mv 39 42, Xt 43 39 0, Xt 44 39 1, Xt 45 39 2, Oo 9 (.alloc 100), Sr 100 (Tm 9) (Tm 43), Sg 10 44, Sg 11 45]) (.seq (.regL [Ld 47 100 9, Mv 48 10, Cl 49 29 #[Tm 48] #[101], Mv 50 11, Cl 51 30 #[Tm 50] #[102]] (Cl 52 28 #[Tm 47, Tm 49, Tm 51] #[100, 101, 102]) [Mv 46 52, Xt 53 46 0, Xt 54 46 1, Xt 55 46 2, Xt 56 46 3, Sg 12 53, Sg 13 54, Sg 14 55, Sg 15 56]) (.seq (.seq (R0 [Mv 57 15, Bo 58 .neq 39 (Tm 57) (Kn 0) 39, Mv 59 58, Gm 60 12 59 false, Og 61 (.call { callee := .builtin .len, args := #[Tm 60], argTypes := #[33] }) 59 false, Gb 62 .neq 3 (Tm 61) (Kn 3) 3 59 false, Pk 63 59 (Kb true) (Tm 62)]) (.cond (Tm 63) (.seq (R0 [Sk 4 (Kb false)]) .ret) .skip)) (.seq (R0 [Sk 16 (Kn 0), Sk 17 (Kn 0)]) (.seq (.seq (R0 [Sk 18 (Kn 0)]) (.block 0 (.loop (.seq (.seq (R0 [Mv 64 18, Mv 65 11, Lq 66 65 102, Bo 67 .lss 3 (Tm 64) (Tm 66) 3]) (.cond (Tm 67) .skip (.exit 0))) (.seq (.block 1 (R0 [Mv 70 16, Mv 71 11, Mv 72 18, Ix 73 102 71 72, Fa 74 110 73 1, Ld 75 3 74, Bo 76 .add 3 (Tm 70) (Tm 75) 3, Sg 16 76])) (R0 [Mv 68 18, Bo 69 .add 3 (Tm 68) (Kn 1) 3, Sg 18 69])))))) (.seq (.seq (R0 [Sk 19 (Kn 0)]) (.block 2 (.loop (.seq (.seq (R0 [Mv 77 19, Bo 78 .lss 3 (Tm 77) (Kn 3) 3]) (.cond (Tm 78) .skip (.exit 2))) (.seq (.block 3 (R1 [Mv 81 17, Mv 82 10, Mv 83 19, Ix 84 101 82 83, Fa 85 112 84 0, Ld 86 3 85, Mv 87 12, Mv 88 19, Ix 89 33 87 88, Ld 90 3 89, Bo 91 .mul 3 (Tm 86) (Tm 90) 3, Bo 92 .add 3 (Tm 81) (Tm 91) 3, Sg 17 92])) (R0 [Mv 79 19, Bo 80 .add 3 (Tm 79) (Kn 1) 3, Sg 19 80])))))) (.seq (.seq (R0 [Fa 93 100 9 0, Ld 94 3 93, Mv 95 16, Bo 96 .mul 3 (Tm 94) (Tm 95) 3, Mv 97 17, Mv 98 13, Bo 99 .add 3 (Tm 97) (Tm 98) 3, Bo 100 .neq 3 (Tm 96) (Tm 99) 3]) (.cond (Tm 100) (.seq (R0 [Sk 4 (Kb false)]) .ret) .skip)) (.seq (R0 [Ld 101 95 3, Cl 102 31 #[Tm 101] #[95], Oo 20 (.alloc 31), Sr 31 (Tm 20) (Tm 102)]) (.seq (R0 [Fa 103 31 20 1, Ld 104 29 103, Oo 105 (.indexAddr 29 (Tm 104) (Kn 0)), Fa 106 114 105 0, Ld 107 3 106, Sg 21 107]) (.seq (R0 [Oo 108 (.build 116 #[]), Oo 22 (.alloc 116), Sr 116 (Tm 22) (Tm 108)]) (.seq (.seq (R0 [Sk 23 (Kn 0)]) (.block 4 (.loop (.seq (.seq (R0 [Mv 109 23, Bo 110 .lss 3 (Tm 109) (Kn 3) 3]) (.cond (Tm 110) .skip (.exit 4))) (.seq (.block 5 (.seq (R1 [Ld 114 31 20, Cl 115 33 #[Tm 114] #[31], Cl 116 34 #[] #[], Mv 117 17, Mv 118 13, Fa 119 100 9 0, Ld 120 3 119, Mv 121 16, Bo 122 .mul 3 (Tm 120) (Tm 121) 3, Oo 123 (.build 119 #[(0, (Tm 117)), (1, (Tm 118)), (2, (Tm 122))]), Mv 124 23, Oo 125 (.index 119 (Tm 123) (Tm 124)), Cl 126 32 #[Tm 115, Tm 116, Tm 125] #[31, 35, 3], Mv 113 126, Xt 127 113 0, Xt 128 113 1, Sg 24 127, Sg 25 128]) (.seq (.seq (R0 [Mv 129 25, Bo 130 .neq 39 (Tm 129) (Kn 0) 39, Mv 131 130, Gm 132 24 131 false, Og 133 (.call { callee := .builtin .len, args := #[Tm 132], argTypes := #[115] }) 131 false, Gb 134 .neq 3 (Tm 133) (Kn 3) 3 131 false, Pk 135 131 (Kb true) (Tm 134)]) (.cond (Tm 135) (.seq (R0 [Sk 4 (Kb false)]) .ret) .skip)) (.seq (.seq (R0 [Sk 26 (Kn 0)]) (.block 6 (.loop (.seq (.seq (R0 [Mv 136 26, Bo 137 .lss 3 (Tm 136) (Kn 3) 3]) (.cond (Tm 137) .skip (.exit 6))) (.seq (.block 7 (.seq (R0 [Mv 140 24, Mv 141 26, Ix 142 115 140 141, Fa 143 121 142 1, Ld 144 3 143, Bo 145 .lss 3 (Tm 144) (Kn 1) 3, Mv 146 145, Gm 147 21 146 false, Gm 148 24 146 false, Gm 149 26 146 false, Gx 150 115 148 149 146 false, Gf 151 121 150 1 146 false, Gl 152 3 151 146 false, Gb 153 .rem 3 (Tm 147) (Tm 152) 3 146 false, Gb 154 .neq 3 (Tm 153) (Kn 0) 3 146 false, Pk 155 146 (Kb true) (Tm 154), Mv 156 155, Gm 157 24 156 false, Gm 158 26 156 false, Gx 159 115 157 158 156 false, Gf 160 121 159 0 156 false, Gl 161 3 160 156 false, Gb 162 .lss 3 (Tm 161) (Kn 0) 3 156 false, Pk 163 156 (Kb true) (Tm 162), Mv 164 163, Gm 165 24 164 false, Gm 166 26 164 false, Gx 167 115 165 166 164 false, Gf 168 121 167 0 164 false, Gl 169 3 168 164 false, Gb 170 .gtr 3 (Tm 169) (Kn 35184372088832) 3 164 false, Pk 171 164 (Kb true) (Tm 170)]) (.cond (Tm 171) (.seq (R0 [Sk 4 (Kb false)]) .ret) .skip))) (R0 [Mv 138 26, Bo 139 .add 3 (Tm 138) (Kn 1) 3, Sg 26 139])))))) (R0 [Mv 172 23, Mv 173 24, Ix 174 116 22 172, Sr 115 (Tm 174) (Tm 173)]))))) (R0 [Mv 111 23, Bo 112 .add 3 (Tm 111) (Kn 1) 3, Sg 23 112])))))) (.seq (.seq (R0 [Sk 27 (Kn 0)]) (.block 8 (.loop (.seq (.seq (R0 [Mv 175 27, Bo 176 .lss 3 (Tm 175) (Kn 3) 3]) (.cond (Tm 176) .skip (.exit 8))) (.seq (.block 9 (.seq (R0 [Oo 179 (.build 119 #[]), Oo 28 (.alloc 119), Sr 119 (Tm 28) (Tm 179)]) (.seq (.seq (R0 [Sk 29 (Kn 0)]) (.block 10 (.loop (.seq (.seq (R0 [Mv 180 29, Bo 181 .lss 3 (Tm 180) (Kn 3) 3]) (.cond (Tm 181) .skip (.exit 10))) (.seq (.block 11 (R1 [Mv 184 29, Mv 185 29, Ix 186 116 22 185, Ld 187 115 186, Mv 188 27, Ix 189 115 187 188, Fa 190 121 189 0, Ld 191 3 190, Mv 192 21, Mv 193 29, Ix 194 116 22 193, Ld 195 115 194, Mv 196 27, Ix 197 115 195 196, Fa 198 121 197 1, Ld 199 3 198, Bo 200 .quo 3 (Tm 192) (Tm 199) 3, Bo 201 .mul 3 (Tm 191) (Tm 200) 3, Ix 202 119 28 184, Sr 3 (Tm 202) (Tm 201)])) (R0 [Mv 182 29, Bo 183 .add 3 (Tm 182) (Kn 1) 3, Sg 29 183])))))) (.seq (R0 [Oo 203 (.indexAddr 119 (Tm 28) (Kn 0)), Ld 204 3 203, Oo 205 (.indexAddr 119 (Tm 28) (Kn 1)), Ld 206 3 205, Bo 207 .add 3 (Tm 204) (Tm 206) 3, Oo 208 (.indexAddr 119 (Tm 28) (Kn 2)), Ld 209 3 208, Bo 210 .neq 3 (Tm 207) (Tm 209) 3]) (.cond (Tm 210) (.seq (R0 [Sk 4 (Kb false)]) .ret) .skip))))) (R0 [Mv 177 27, Bo 178 .add 3 (Tm 177) (Kn 1) 3, Sg 27 178])))))) (.seq (R0 [Cl 211 35 #[] #[], Mv 212 211, Gc 213 36 #[] #[] 212 true, Pk 214 212 (Tm 213) (Kb false), Sg 4 214]) .ret))))))))))))))))⟩
theorem sf5 : sfOf Try.f5 = some s5 := by kernel_rfl
theorem hb5 : hasBody Try.prog 5 = true := by kernel_rfl
def s6 : SF := ⟨159, [.cell 2 31], (.seq (R0 [Oo 1 (.box 26 (Tm 0)), Oo 2 (.alloc 31)]) (.seq (R0 [Oo 10 (.build 31 #[]), Oo 3 (.alloc 31), Sr 31 (Tm 3) (Tm 10)]) (.seq (.seq (R0 [Sk 4 (Kn 0)]) (.block 0 (.loop (.seq (.seq (R0 [Mv 11 4, Bo 12 .lss 3 (Tm 11) (Kn 2) 3, Mv 13 12, Gm 14 4 13 false, Gf 15 26 1 0 13 false, Gl 16 22 15 13 false, Og 17 (.call { callee := .builtin .len, args := #[Tm 16], argTypes := #[22] }) 13 false, Gb 18 .lss 3 (Tm 14) (Tm 17) 3 13 false, Gm 19 18 13 false, Gm 20 4 19 true, Gb 21 .lss 3 (Tm 20) (Kn 5) 3 19 true, Og 22 (.pick (Tm 19) (Tm 21) (Kb false)) 13 false, Pk 23 13 (Kb true) (Tm 22)]) (.cond (Tm 23) .skip (.exit 0))) (.seq (.block 1 (.seq (R0 [Mv 26 4, Oo 27 (.convert 3 5 (Tm 26)), Oo 28 (.build 27 #[(0, (Tm 27)), (1, (.const (.int .u8 120))), (2, (.const (.int .u8 20))), (3, (.const (.int .u8 7))), (4, (.const (.int .u8 30))), (5, (.const (.int .u8 20)))]), Oo 5 (.alloc 27), Sr 27 (Tm 5) (Tm 28)]) (.seq (.seq (R0 [Mv 29 4, Fa 30 26 1 0, Ld 31 22 30, Lq 32 31 22, Bo 33 .lss 3 (Tm 29) (Tm 32) 3]) (.cond (Tm 33) (R0 [Fa 34 26 1 0, Ld 35 22 34, Mv 36 4, Ix 37 22 35 36, Ld 38 27 37, Sr 27 (Tm 5) (Tm 38)]) .skip)) (.seq (R1 [Mv 39 4, Bo 40 .add 3 (Kn 1) (Tm 39) 3, Oo 41 (.indexAddr 27 (Tm 5) (Kn 1)), Ld 42 5 41, Oo 43 (.convert 5 3 (Tm 42)), Bo 44 .add 3 (Kn 50) (Tm 43) 3, Oo 45 (.indexAddr 27 (Tm 5) (Kn 2)), Ld 46 5 45, Oo 47 (.convert 5 3 (Tm 46)), Bo 48 .add 3 (Kn 50) (Tm 47) 3, Oo 49 (.indexAddr 27 (Tm 5) (Kn 2)), Ld 50 5 49, Oo 51 (.convert 5 3 (Tm 50)), Bo 52 .add 3 (Kn 50) (Tm 51) 3, Oo 53 (.indexAddr 27 (Tm 5) (Kn 0)), Ld 54 5 53, Oo 55 (.convert 5 3 (Tm 54)), Bo 56 .quo 3 (Tm 55) (Kn 8) 3, Bo 57 .add 3 (Tm 52) (Tm 56) 3, Cl 58 13 #[Tm 48, Tm 57] #[3, 3], Oo 59 (.indexAddr 27 (Tm 5) (Kn 3)), Ld 60 5 59, Oo 61 (.convert 5 3 (Tm 60)), Bo 62 .rem 3 (Tm 61) (Kn 100) 3, Oo 63 (.indexAddr 27 (Tm 5) (Kn 3)), Ld 64 5 63, Oo 65 (.convert 5 3 (Tm 64)), Bo 66 .rem 3 (Tm 65) (Kn 100) 3, Oo 67 (.indexAddr 27 (Tm 5) (Kn 3)), Ld 68 5 67, Oo 69 (.convert 5 3 (Tm 68)), Bo 70 .quo 3 (Tm 69) (Kn 16) 3, Bo 71 .add 3 (Tm 66) (Tm 70) 3, Cl 72 13 #[Tm 62, Tm 71] #[3, 3], Oo 73 (.indexAddr 27 (Tm 5) (Kn 4)), Ld 74 5 73, Oo 75 (.convert 5 3 (Tm 74)), Bo 76 .mul 3 (Kn 1000) (Tm 75) 3, Oo 77 (.indexAddr 27 (Tm 5) (Kn 5)), Ld 78 5 77, Oo 79 (.convert 5 3 (Tm 78)), Bo 80 .mul 3 (Kn 10) (Tm 79) 3, Oo 81 (.build 125 #[(0, (Tm 40)), (1, (Tm 44)), (2, (Tm 58)), (3, (Tm 72)), (4, (Tm 76)), (5, (Tm 80))]), Oo 6 (.alloc 125), Sr 125 (Tm 6) (Tm 81)]) (.seq (.seq (R0 [Mv 82 4, Bo 83 .gtr 3 (Tm 82) (Kn 1) 3]) (.cond (Tm 83) (R0 [Oo 84 (.indexAddr 27 (Tm 5) (Kn 0)), Ld 85 5 84, Bo 86 .rem 5 (Tm 85) (.const (.int .u8 2)) 5, Bo 87 .add 5 (.const (.int .u8 1)) (Tm 86) 5, Oo 88 (.convert 5 123 (Tm 87)), Fa 89 125 6 0, Sr 123 (Tm 89) (Tm 88)]) .skip)) (R0 [Fa 90 31 3 0, Ld 91 28 90, Ld 92 125 6, Oo 93 (.buildSlice 28 1 #[(0, (Tm 92))]), Oo 94 (.call { callee := .builtin .append, args := #[Tm 91, Tm 93], argTypes := #[28, 28] }), Fa 95 31 3 0, Sr 28 (Tm 95) (Tm 94)])))))) (R0 [Mv 24 4, Bo 25 .add 3 (Tm 24) (Kn 1) 3, Sg 4 25])))))) (.seq (.seq (R0 [Sk 7 (Kn 0)]) (.block 2 (.loop (.seq (.seq (R0 [Mv 96 7, Bo 97 .eql 3 (Tm 96) (Kn 0) 3, Mv 98 97, Gm 99 7 98 false, Gf 100 26 1 1 98 false, Gl 101 23 100 98 false, Og 102 (.call { callee := .builtin .len, args := #[Tm 101], argTypes := #[23] }) 98 false, Gb 103 .lss 3 (Tm 99) (Tm 102) 3 98 false, Gm 104 103 98 false, Gm 105 7 104 true, Gb 106 .lss 3 (Tm 105) (Kn 3) 3 104 true, Og 107 (.pick (Tm 104) (Tm 106) (Kb false)) 98 false, Pk 108 98 (Kb true) (Tm 107)]) (.cond (Tm 108) .skip (.exit 2))) (.seq (.block 3 (.seq (R0 [Oo 111 (.build 87 #[(0, (.const (.int .u8 80))), (1, (.const (.int .u8 128))), (2, (.const (.int .u8 36)))]), Oo 8 (.alloc 87), Sr 87 (Tm 8) (Tm 111)]) (.seq (.seq (R0 [Mv 112 7, Fa 113 26 1 1, Ld 114 23 113, Lq 115 114 23, Bo 116 .lss 3 (Tm 112) (Tm 115) 3]) (.cond (Tm 116) (R0 [Fa 117 26 1 1, Ld 118 23 117, Mv 119 7, Ix 120 23 118 119, Ld 121 87 120, Sr 87 (Tm 8) (Tm 121)]) .skip)) (.seq (R0 [Oo 122 (.indexAddr 87 (Tm 8) (Kn 0)), Ld 123 5 122, Oo 124 (.convert 5 3 (Tm 123)), Bo 125 .mul 3 (Kn 35) (Tm 124) 3, Bo 126 .add 3 (Kn 1000) (Tm 125) 3, Sg 9 126]) (R1 [Fa 127 31 3 1, Ld 128 29 127, Mv 129 9, Mv 130 9, Mv 131 9, Oo 132 (.indexAddr 87 (Tm 8) (Kn 1)), Ld 133 5 132, Oo 134 (.convert 5 3 (Tm 133)), Bo 135 .mul 3 (Tm 131) (Tm 134) 3, Bo 136 .quo 3 (Tm 135) (Kn 255) 3, Bo 137 .add 3 (Tm 130) (Tm 136) 3, Oo 138 (.indexAddr 87 (Tm 8) (Kn 2)), Ld 139 5 138, Oo 140 (.convert 5 3 (Tm 139)), Bo 141 .mul 3 (Kn 10) (Tm 140) 3, Bo 142 .add 3 (Kn 500) (Tm 141) 3, Oo 143 (.indexAddr 87 (Tm 8) (Kn 2)), Ld 144 5 143, Oo 145 (.convert 5 3 (Tm 144)), Bo 146 .mul 3 (Kn 10) (Tm 145) 3, Bo 147 .add 3 (Kn 500) (Tm 146) 3, Oo 148 (.indexAddr 87 (Tm 8) (Kn 1)), Ld 149 5 148, Oo 150 (.convert 5 3 (Tm 149)), Bo 151 .rem 3 (Tm 150) (Kn 90) 3, Bo 152 .add 3 (Tm 147) (Tm 151) 3, Cl 153 13 #[Tm 142, Tm 152] #[3, 3], Oo 154 (.build 114 #[(0, (Tm 129)), (1, (Tm 137)), (2, (Tm 153))]), Oo 155 (.buildSlice 29 1 #[(0, (Tm 154))]), Oo 156 (.call { callee := .builtin .append, args := #[Tm 128, Tm 155], argTypes := #[29, 29] }), Fa 157 31 3 1, Sr 29 (Tm 157) (Tm 156)]))))) (R0 [Mv 109 7, Bo 110 .add 3 (Tm 109) (Kn 1) 3, Sg 7 110])))))) (.seq (R0 [Ld 158 31 3, Sr 31 (Tm 2) (Tm 158)]) .ret)))))⟩
def s7 : SF := ⟨87, [.cell 2 35], (.seq (R0 [Oo 1 (.box 26 (Tm 0)), Oo 2 (.alloc 35)]) (.seq (R0 [Ld 11 26 1, Cl 12 6 #[Tm 11] #[26], Oo 13 (.build 35 #[]), Oo 3 (.alloc 31), Oo 4 (.alloc 35), Sr 31 (Tm 3) (Tm 12), Sr 35 (Tm 4) (Tm 13)]) (.seq (R0 [Oo 14 (.build 126 #[]), Oo 5 (.alloc 126), Sr 126 (Tm 5) (Tm 14)]) (.seq (.seq (R0 [Sk 6 (Kn 0)]) (.block 0 (.loop (.seq (.seq (R0 [Mv 15 6, Fa 16 31 3 0, Ld 17 28 16, Lq 18 17 28, Bo 19 .lss 3 (Tm 15) (Tm 18) 3]) (.cond (Tm 19) .skip (.exit 0))) (.seq (.block 1 (.seq (R0 [Fa 22 31 3 0, Ld 23 28 22, Mv 24 6, Ix 25 28 23 24, Fa 26 125 25 0, Ld 27 123 26, Bo 28 .sub 3 (Tm 27) (Kn 1) 3, Sg 7 28]) (R0 [Mv 29 7, Mv 30 7, Ix 31 126 5 30, Ld 32 33 31, Mv 33 6, Oo 34 (.buildSlice 33 1 #[(0, (Tm 33))]), Oo 35 (.call { callee := .builtin .append, args := #[Tm 32, Tm 34], argTypes := #[33, 33] }), Ix 36 126 5 29, Sr 33 (Tm 36) (Tm 35)]))) (R0 [Mv 20 6, Bo 21 .add 3 (Tm 20) (Kn 1) 3, Sg 6 21])))))) (.seq (R0 [Fa 37 26 1 2, Ld 38 24 37, Cl 39 37 #[Tm 38, Kn 0] #[24, 3], Bo 40 .rem 3 (Tm 39) (Kn 2) 3, Bo 41 .add 3 (Kn 1) (Tm 40) 3, Sg 8 41]) (.seq (.seq (R0 [Sk 9 (Kn 0)]) (.block 2 (.loop (.seq (.seq (R0 [Mv 42 9, Mv 43 8, Bo 44 .mul 3 (Kn 2) (Tm 43) 3, Bo 45 .add 3 (Tm 44) (Kn 1) 3, Bo 46 .lss 3 (Tm 42) (Tm 45) 3]) (.cond (Tm 46) .skip (.exit 2))) (.seq (.block 3 (.seq (R0 [Mv 49 9, Bo 50 .rem 3 (Tm 49) (Kn 2) 3, Ix 51 126 5 50, Ld 52 33 51, Sg 10 52]) (.seq (R1 [Fa 53 35 4 0, Ld 54 33 53, Mv 55 10, Fa 56 26 1 2, Ld 57 24 56, Mv 58 9, Bo 59 .add 3 (Tm 58) (Kn 1) 3, Cl 60 37 #[Tm 57, Tm 59] #[24, 3], Mv 61 10, Lq 62 61 33, Bo 63 .rem 3 (Tm 60) (Tm 62) 3, Ix 64 33 55 63, Ld 65 3 64, Oo 66 (.buildSlice 33 1 #[(0, (Tm 65))]), Oo 67 (.call { callee := .builtin .append, args := #[Tm 54, Tm 66], argTypes := #[33, 33] }), Fa 68 35 4 0, Sr 33 (Tm 68) (Tm 67)]) (.seq (R0 [Mv 69 9, Bo 70 .rem 3 (Tm 69) (Kn 2) 3, Bo 71 .eql 3 (Tm 70) (Kn 1) 3]) (.cond (Tm 71) (R1 [Fa 72 35 4 1, Ld 73 33 72, Fa 74 26 1 2, Ld 75 24 74, Mv 76 9, Bo 77 .add 3 (Tm 76) (Kn 6) 3, Cl 78 37 #[Tm 75, Tm 77] #[24, 3], Fa 79 31 3 1, Ld 80 29 79, Lq 81 80 29, Bo 82 .rem 3 (Tm 78) (Tm 81) 3, Oo 83 (.buildSlice 33 1 #[(0, (Tm 82))]), Oo 84 (.call { callee := .builtin .append, args := #[Tm 73, Tm 83], argTypes := #[33, 33] }), Fa 85 35 4 1, Sr 33 (Tm 85) (Tm 84)]) .skip))))) (R0 [Mv 47 9, Bo 48 .add 3 (Tm 47) (Kn 1) 3, Sg 9 48])))))) (.seq (R0 [Ld 86 35 4, Sr 35 (Tm 2) (Tm 86)]) .ret)))))))⟩
def o8_0 : SO := (Ld 16 38 4)
def o8_1 : SO := (Ld 17 38 5)
def o8_2 : SO := (Mv 18 6)
def o8_3 : SO := (Sr 38 (Tm 4) (Tm 16))
def o8_4 : SO := (Sr 38 (Tm 5) (Tm 17))
def o8_5 : SO := (Sg 6 18)
def o8_6 : SO := (Ld 24 38 4)
def o8_7 : SO := (Ld 25 38 5)
def o8_8 : SO := (Sr 38 (Tm 4) (Tm 24))
def o8_9 : SO := (Sr 38 (Tm 5) (Tm 25))
def o8_10 : SO := (Sk 6 (Kn 0))
def s8 : SF := ⟨26, [.cell 4 38, .cell 5 38, .tmp 6], (.seq (R0 [Oo 2 (.box 31 (Tm 0)), Oo 3 (.box 35 (Tm 1)), Oo 4 (.alloc 38), Oo 5 (.alloc 38), Sk 6 (Kn 0)]) (.seq (R0 [Ld 9 31 2, Ld 10 35 3, Cl 11 38 #[Tm 9, Tm 10] #[31, 35], Mv 8 11, Xt 12 8 0, Xt 13 8 1, Oo 7 (.alloc 129), Sr 129 (Tm 7) (Tm 12), Sg 6 13]) (.seq (.seq (R0 [Mv 14 6, Bo 15 .neq 39 (Tm 14) (Kn 0) 39]) (.cond (Tm 15) (.seq (.ord (.op o8_0 (.alt (.op o8_1 (.alt (.op o8_2 (.op o8_3 (.op o8_4 (.op o8_5 .done)))) (.op o8_3 (.alt (.op o8_2 (.op o8_4 (.op o8_5 .done))) (.op o8_4 (.op o8_2 (.op o8_5 .done))))))) (.alt (.op o8_2 (.alt (.op o8_1 (.op o8_3 (.op o8_4 (.op o8_5 .done)))) (.op o8_3 (.op o8_1 (.op o8_4 (.op o8_5 .done)))))) (.op o8_3 (.op o8_1 (.alt (.op o8_2 (.op o8_4 (.op o8_5 .done))) (.op o8_4 (.op o8_2 (.op o8_5 .done)))))))))) .ret) .skip)) (.seq (R0 [Ld 20 129 7, Cl 21 39 #[Tm 20] #[129], Mv 19 21, Xt 22 19 0, Xt 23 19 1, Sr 38 (Tm 4) (Tm 22), Sr 38 (Tm 5) (Tm 23)]) (.seq (.ord (.op o8_6 (.alt (.op o8_7 (.op o8_8 (.op o8_9 (.op o8_10 .done)))) (.op o8_8 (.op o8_7 (.op o8_9 (.op o8_10 .done))))))) .ret)))))⟩
theorem sf8 : sfOf Try.f8 = some s8 := by kernel_rfl
theorem hb8 : hasBody Try.prog 8 = true := by kernel_rfl
def s19 : SF := ⟨42, [.tmp 2, .tmp 3, .tmp 4, .tmp 5], (.seq (R0 [Oo 1 (.box 49 (Tm 0)), Sk 2 (Kn 0), Sk 3 (Kn 0), Sk 4 (Kn 0), Sk 5 (Kn 0)]) (.seq (.seq (R0 [Ld 9 49 1, Cl 10 50 #[Tm 9] #[49], Sg 6 10]) (.seq (R0 [Mv 11 6, Bo 12 .neq 39 (Tm 11) (Kn 0) 39]) (.cond (Tm 12) (.seq (R0 [Mv 13 6, Sk 2 (Kn 0), Sk 3 (Kn 0), Sk 4 (Kn 0), Sg 5 13]) .ret) .skip))) (.seq (R0 [Fa 14 49 1 0, Ld 15 3 14, Sg 2 15]) (.seq (.seq (R0 [Fa 16 49 1 1, Ld 17 33 16, Lq 18 17 33, Oo 19 (.move (Kn 0))]) (.block 0 (.loop (.seq (R0 [Bo 20 .lss 3 (Tm 19) (Tm 18) 3]) (.seq (.cond (Tm 20) .skip (.exit 0)) (.seq (.block 1 (.seq (R0 [Ix 21 33 17 19, Ld 22 3 21, Sg 8 22]) (R0 [Mv 23 2, Mv 24 8, Bo 25 .add 3 (Tm 23) (Tm 24) 3, Sg 2 25]))) (R0 [Bo 26 .add 3 (Tm 19) (Kn 1) 3, Mv 19 26]))))))) (.seq (R1 [Fa 27 49 1 3, Ld 28 33 27, Cl 29 51 #[Tm 28] #[33], Fa 30 49 1 2, Ld 31 3 30, Bo 32 .add 3 (Tm 29) (Tm 31) 3, Fa 33 49 1 4, Ld 34 33 33, Cl 35 51 #[Tm 34] #[33], Bo 36 .add 3 (Tm 32) (Tm 35) 3, Sg 3 36]) (.seq (R0 [Mv 37 2, Mv 38 3, Mv 39 2, Mv 40 3, Bo 41 .mul 3 (Tm 39) (Tm 40) 3, Sg 2 37, Sg 3 38, Sg 4 41, Sk 5 (Kn 0)]) .ret))))))⟩
theorem sf19 : sfOf Try.f19 = some s19 := by kernel_rfl
theorem hb19 : hasBody Try.prog 19 = true := by kernel_rfl
end Go.Dw.Seat
end
section
namespace Go.Dw.Seat
open Go Go.Dw Go.Proofs
def s26 : SF := ⟨63, [.tmp 2, .tmp 3, .tmp 4, .tmp 5], (.seq (R0 [Oo 1 (.box 90 (Tm 0)), Oo 2 (.assign (.const (.slice none 0 0))), Oo 3 (.assign (.const (.slice none 0 0))), Oo 4 (.assign (.const (.slice none 0 0))), Sk 5 (Kb false)]) (.seq (.seq (R0 [Sk 6 (Kn 0)]) (.block 0 (.loop (.seq (.seq (R0 [Mv 12 6, Bo 13 .lss 3 (Tm 12) (Kn 3) 3]) (.cond (Tm 13) .skip (.exit 0))) (.seq (.block 1 (.seq (R0 [Mv 16 6, Fa 17 90 1 0, Ix 18 86 17 16, Ld 19 85 18, Oo 20 (.build 95 #[(2, (Tm 19))]), Cl 21 65 #[Tm 20, Kn 100] #[95, 3], Oo 7 (.alloc 49), Sr 49 (Tm 7) (Tm 21)]) (.seq (R0 [Ld 23 49 7, Cl 24 66 #[Tm 23] #[49], Cl 25 19 #[Tm 24] #[49], Mv 22 25, Xt 26 22 0, Xt 27 22 1, Xt 28 22 2, Xt 29 22 3, Sg 8 26, Sg 9 27, Sg 10 28, Sg 11 29]) (.seq (.seq (R0 [Mv 30 11, Bo 31 .neq 39 (Tm 30) (Kn 0) 39, Mv 32 31, Gm 33 8 32 false, Gb 34 .lss 3 (Tm 33) (Kn 1) 3 32 false, Pk 35 32 (Kb true) (Tm 34), Mv 36 35, Gm 37 8 36 false, Gb 38 .gtr 3 (Tm 37) (Kn 5000) 3 36 false, Pk 39 36 (Kb true) (Tm 38), Mv 40 39, Gm 41 9 40 false, Gb 42 .lss 3 (Tm 41) (Kn 1) 3 40 false, Pk 43 40 (Kb true) (Tm 42), Mv 44 43, Gm 45 9 44 false, Gb 46 .gtr 3 (Tm 45) (Kn 1000) 3 44 false, Pk 47 44 (Kb true) (Tm 46)]) (.cond (Tm 47) (.seq (R0 [Oo 2 (.assign (.const (.slice none 0 0))), Oo 3 (.assign (.const (.slice none 0 0))), Oo 4 (.assign (.const (.slice none 0 0))), Sk 5 (Kb false)]) .ret) .skip)) (R0 [Mv 48 2, Ld 49 49 7, Oo 50 (.buildSlice 96 1 #[(0, (Tm 49))]), Oo 51 (.call { callee := .builtin .append, args := #[Tm 48, Tm 50], argTypes := #[96, 96] }), Mv 52 3, Mv 53 8, Oo 54 (.buildSlice 33 1 #[(0, (Tm 53))]), Oo 55 (.call { callee := .builtin .append, args := #[Tm 52, Tm 54], argTypes := #[33, 33] }), Mv 56 4, Mv 57 9, Oo 58 (.buildSlice 33 1 #[(0, (Tm 57))]), Oo 59 (.call { callee := .builtin .append, args := #[Tm 56, Tm 58], argTypes := #[33, 33] }), Sg 2 51, Sg 3 55, Sg 4 59]))))) (R0 [Mv 14 6, Bo 15 .add 3 (Tm 14) (Kn 1) 3, Sg 6 15])))))) (.seq (R0 [Mv 60 2, Mv 61 3, Mv 62 4, Sg 2 60, Sg 3 61, Sg 4 62, Sk 5 (Kb true)]) .ret)))⟩
theorem sf26 : sfOf Try.f26 = some s26 := by kernel_rfl
theorem hb26 : hasBody Try.prog 26 = true := by kernel_rfl
def s27 : SF := ⟨168, [.cell 4 100, .tmp 5, .tmp 6], (.seq (R0 [Oo 2 (.box 90 (Tm 0)), Oo 4 (.alloc 100), Oo 5 (.assign (.const (.slice none 0 0))), Oo 6 (.assign (.const (.slice none 0 0)))]) (.seq (R0 [Cl 16 67 #[Kn 3000, Kn 0] #[3, 3], Oo 17 (.build 100 #[(0, (Kn 2900)), (2, (Kn 4)), (1, (Tm 16))]), Oo 7 (.alloc 100), Sr 100 (Tm 7) (Tm 17)]) (.seq (R0 [Oo 18 (.buildSlice 101 0 #[]), Oo 19 (.buildSlice 33 3 #[(0, (Kn 0)), (1, (Kn 0)), (2, (Kn 0))]), Sg 8 18, Sg 9 19]) (.seq (R0 [Fa 20 90 2 2, Oo 21 (.indexAddr 88 (Tm 20) (Kn 0)), Oo 22 (.indexAddr 87 (Tm 21) (Kn 0)), Ld 23 5 22, Oo 24 (.convert 5 3 (Tm 23)), Bo 25 .rem 3 (Tm 24) (Kn 2) 3, Bo 26 .add 3 (Kn 1) (Tm 25) 3, Oo 27 (.buildSlice 33 3 #[(0, (Kn 0)), (1, (Kn 0)), (2, (Tm 26))]), Fa 28 90 2 2, Oo 29 (.indexAddr 88 (Tm 28) (Kn 0)), Oo 30 (.indexAddr 87 (Tm 29) (Kn 1)), Ld 31 5 30, Oo 32 (.convert 5 3 (Tm 31)), Bo 33 .rem 3 (Tm 32) (Kn 9) 3, Bo 34 .add 3 (Kn 1) (Tm 33) 3, Oo 35 (.build 110 #[(0, (Tm 27)), (1, (Tm 34))]), Fa 36 90 2 2, Oo 37 (.indexAddr 88 (Tm 36) (Kn 1)), Oo 38 (.indexAddr 87 (Tm 37) (Kn 0)), Ld 39 5 38, Oo 40 (.convert 5 3 (Tm 39)), Bo 41 .rem 3 (Tm 40) (Kn 2) 3, Bo 42 .add 3 (Kn 1) (Tm 41) 3, Oo 43 (.buildSlice 33 3 #[(0, (Kn 1)), (1, (Tm 42)), (2, (Kn 0))]), Fa 44 90 2 2, Oo 45 (.indexAddr 88 (Tm 44) (Kn 1)), Oo 46 (.indexAddr 87 (Tm 45) (Kn 1)), Ld 47 5 46, Oo 48 (.convert 5 3 (Tm 47)), Bo 49 .rem 3 (Tm 48) (Kn 9) 3, Bo 50 .add 3 (Kn 1) (Tm 49) 3, Oo 51 (.build 110 #[(0, (Tm 43)), (1, (Tm 50))]), Oo 52 (.buildSlice 102 2 #[(0, (Tm 35)), (1, (Tm 51))]), Sg 10 52]) (.seq (.seq (R0 [Sk 11 (Kn 0)]) (.block 0 (.loop (.seq (.seq (R0 [Mv 53 11, Bo 54 .lss 3 (Tm 53) (Kn 3) 3]) (.cond (Tm 54) .skip (.exit 0))) (.seq (.block 1 (R0 [Mv 57 8, Mv 58 1, Mv 59 11, Ix 60 33 58 59, Ld 61 3 60, Oo 62 (.build 112 #[(0, (Tm 61))]), Oo 63 (.buildSlice 101 1 #[(0, (Tm 62))]), Oo 64 (.call { callee := .builtin .append, args := #[Tm 57, Tm 63], argTypes := #[101, 101] }), Sg 8 64])) (R0 [Mv 55 11, Bo 56 .add 3 (Tm 55) (Kn 1) 3, Sg 11 56])))))) (.seq (.seq (R0 [Sk 12 (Kn 0)]) (.block 2 (.loop (.seq (.seq (R0 [Mv 65 12, Mv 66 10, Lq 67 66 102, Bo 68 .lss 3 (Tm 65) (Tm 67) 3]) (.cond (Tm 68) .skip (.exit 2))) (.seq (.block 3 (.seq (R0 [Fa 71 100 7 0, Ld 72 3 71, Sg 13 72]) (.seq (.seq (R0 [Sk 14 (Kn 0)]) (.block 4 (.loop (.seq (.seq (R0 [Mv 73 14, Bo 74 .lss 3 (Tm 73) (Kn 3) 3]) (.cond (Tm 74) .skip (.exit 4))) (.seq (.block 5 (.seq (R1 [Mv 77 13, Mv 78 10, Mv 79 12, Ix 80 102 78 79, Fa 81 110 80 0, Ld 82 33 81, Mv 83 14, Ix 84 33 82 83, Ld 85 3 84, Mv 86 1, Mv 87 14, Ix 88 33 86 87, Ld 89 3 88, Bo 90 .mul 3 (Tm 85) (Tm 89) 3, Bo 91 .sub 3 (Tm 77) (Tm 90) 3, Sg 13 91]) (R1 [Mv 92 9, Mv 93 14, Ix 94 33 92 93, Ld 95 3 94, Mv 96 10, Mv 97 12, Ix 98 102 96 97, Fa 99 110 98 0, Ld 100 33 99, Mv 101 14, Ix 102 33 100 101, Ld 103 3 102, Mv 104 10, Mv 105 12, Ix 106 102 104 105, Fa 107 110 106 1, Ld 108 3 107, Bo 109 .mul 3 (Tm 103) (Tm 108) 3, Bo 110 .add 3 (Tm 95) (Tm 109) 3, Ix 111 33 92 93, Sr 3 (Tm 111) (Tm 110)]))) (R0 [Mv 75 14, Bo 76 .add 3 (Tm 75) (Kn 1) 3, Sg 14 76])))))) (R0 [Fa 112 100 7 1, Fa 113 38 112 0, Ld 114 3 113, Mv 115 13, Oo 116 (.call { callee := .builtin .min, args := #[Tm 114, Tm 115], argTypes := #[3, 3] }), Oo 117 (.call { callee := .builtin .max, args := #[Kn 0, Tm 116], argTypes := #[3, 3] }), Fa 118 100 7 1, Fa 119 38 118 1, Ld 120 3 119, Mv 121 13, Fa 122 90 2 1, Ld 123 5 122, Oo 124 (.convert 5 3 (Tm 123)), Bo 125 .rem 3 (Tm 124) (Kn 20) 3, Bo 126 .add 3 (Tm 121) (Tm 125) 3, Oo 127 (.call { callee := .builtin .max, args := #[Tm 120, Tm 126], argTypes := #[3, 3] }), Cl 128 67 #[Tm 117, Tm 127] #[3, 3], Fa 129 100 7 1, Sr 38 (Tm 129) (Tm 128)])))) (R0 [Mv 69 12, Bo 70 .add 3 (Tm 69) (Kn 1) 3, Sg 12 70])))))) (.seq (.seq (R0 [Sk 15 (Kn 0)]) (.block 6 (.loop (.seq (.seq (R0 [Mv 130 15, Bo 131 .lss 3 (Tm 130) (Kn 3) 3]) (.cond (Tm 131) .skip (.exit 6))) (.seq (.block 7 (R1 [Mv 134 8, Mv 135 15, Mv 136 9, Mv 137 15, Ix 138 33 136 137, Ld 139 3 138, Mv 140 15, Fa 141 90 2 2, Oo 142 (.indexAddr 88 (Tm 141) (Kn 2)), Ix 143 87 142 140, Ld 144 5 143, Oo 145 (.convert 5 3 (Tm 144)), Bo 146 .rem 3 (Tm 145) (Kn 2) 3, Bo 147 .sub 3 (Tm 139) (Tm 146) 3, Oo 148 (.call { callee := .builtin .max, args := #[Kn 0, Tm 147], argTypes := #[3, 3] }), Mv 149 9, Mv 150 15, Ix 151 33 149 150, Ld 152 3 151, Mv 153 15, Fa 154 90 2 2, Oo 155 (.indexAddr 88 (Tm 154) (Kn 2)), Ix 156 87 155 153, Ld 157 5 156, Oo 158 (.convert 5 3 (Tm 157)), Bo 159 .quo 3 (Tm 158) (Kn 2) 3, Bo 160 .rem 3 (Tm 159) (Kn 2) 3, Bo 161 .add 3 (Tm 152) (Tm 160) 3, Cl 162 67 #[Tm 148, Tm 161] #[3, 3], Ix 163 101 134 135, Fa 164 112 163 1, Sr 38 (Tm 164) (Tm 162)])) (R0 [Mv 132 15, Bo 133 .add 3 (Tm 132) (Kn 1) 3, Sg 15 133])))))) (.seq (R0 [Ld 165 100 7, Mv 166 8, Mv 167 10, Sr 100 (Tm 4) (Tm 165), Sg 5 166, Sg 6 167]) .ret))))))))⟩
theorem sf27 : sfOf Try.f27 = some s27 := by kernel_rfl
theorem hb27 : hasBody Try.prog 27 = true := by kernel_rfl
def s28 : SF := ⟨27, [.tmp 6, .tmp 7, .tmp 8, .tmp 9], (.seq (R0 [Oo 3 (.box 100 (Tm 0)), Oo 6 (.assign (.const (.slice none 0 0))), Sk 7 (Kn 0), Sk 8 (Kn 0), Sk 9 (Kn 0)]) (.seq (R0 [Ld 12 100 3, Mv 13 1, Cl 14 68 #[Tm 12, Tm 13] #[100, 101], Mv 11 14, Xt 15 11 0, Xt 16 11 1, Oo 10 (.alloc 174), Sr 174 (Tm 10) (Tm 15), Sg 9 16]) (.seq (.seq (R0 [Mv 17 9, Bo 18 .neq 39 (Tm 17) (Kn 0) 39]) (.cond (Tm 18) (.seq (R0 [Mv 19 9, Oo 6 (.assign (.const (.slice none 0 0))), Sk 7 (Kn 0), Sk 8 (Kn 0), Sg 9 19]) .ret) .skip)) (.seq (R0 [Ld 20 174 10, Mv 21 2, Cl 22 69 #[Tm 20, Tm 21] #[174, 102], Xt 23 22 0, Xt 24 22 1, Xt 25 22 2, Xt 26 22 3, Sg 6 23, Sg 7 24, Sg 8 25, Sg 9 26]) .ret))))⟩
theorem sf28 : sfOf Try.f28 = some s28 := by kernel_rfl
theorem hb28 : hasBody Try.prog 28 = true := by kernel_rfl
def s29 : SF := ⟨6, [.tmp 2], (.seq (R0 [Oo 2 (.assign (.const (.slice none 0 0)))]) (.seq (R0 [Oo 3 (.buildSlice 101 0 #[]), Mv 4 0, Oo 5 (.call { callee := .builtin .append, args := #[Tm 3, Tm 4], argTypes := #[101, 101] }), Sg 2 5]) .ret))⟩
theorem sf29 : sfOf Try.f29 = some s29 := by kernel_rfl
theorem hb29 : hasBody Try.prog 29 = true := by kernel_rfl
def s30 : SF := ⟨28, [.tmp 2], (.seq (R0 [Oo 2 (.assign (.const (.slice none 0 0)))]) (.seq (R0 [Oo 5 (.buildSlice 102 0 #[]), Sg 3 5]) (.seq (.seq (R0 [Sk 4 (Kn 0)]) (.block 0 (.loop (.seq (.seq (R0 [Mv 6 4, Mv 7 0, Lq 8 7 102, Bo 9 .lss 3 (Tm 6) (Tm 8) 3]) (.cond (Tm 9) .skip (.exit 0))) (.seq (.block 1 (R1 [Mv 12 3, Mv 13 0, Mv 14 4, Ix 15 102 13 14, Fa 16 110 15 0, Ld 17 33 16, Cl 18 70 #[Tm 17] #[33], Mv 19 0, Mv 20 4, Ix 21 102 19 20, Fa 22 110 21 1, Ld 23 3 22, Oo 24 (.build 110 #[(0, (Tm 18)), (1, (Tm 23))]), Oo 25 (.buildSlice 102 1 #[(0, (Tm 24))]), Oo 26 (.call { callee := .builtin .append, args := #[Tm 12, Tm 25], argTypes := #[102, 102] }), Sg 3 26])) (R0 [Mv 10 4, Bo 11 .add 3 (Tm 10) (Kn 1) 3, Sg 4 11])))))) (.seq (R0 [Mv 27 3, Sg 2 27]) .ret))))⟩
theorem sf30 : sfOf Try.f30 = some s30 := by kernel_rfl
theorem hb30 : hasBody Try.prog 30 = true := by kernel_rfl
def s31 : SF := ⟨109, [.cell 2 31], (.seq (R0 [Oo 1 (.box 95 (Tm 0)), Oo 2 (.alloc 31)]) (.seq (R0 [Oo 11 (.build 31 #[]), Oo 3 (.alloc 31), Sr 31 (Tm 3) (Tm 11)]) (.seq (.seq (R0 [Sk 4 (Kn 0)]) (.block 0 (.loop (.seq (.seq (R0 [Mv 12 4, Bo 13 .lss 3 (Tm 12) (Kn 3) 3]) (.cond (Tm 13) .skip (.exit 0))) (.seq (.block 1 (.seq (R0 [Mv 16 4, Fa 17 95 1 0, Ix 18 92 17 16, Ld 19 91 18, Oo 5 (.alloc 91), Sr 91 (Tm 5) (Tm 19)]) (.seq (R0 [Oo 20 (.indexAddr 91 (Tm 5) (Kn 1)), Ld 21 5 20, Oo 22 (.convert 5 3 (Tm 21)), Bo 23 .add 3 (Kn 100) (Tm 22) 3, Sg 6 23]) (R1 [Fa 24 31 3 0, Ld 25 28 24, Mv 26 4, Bo 27 .rem 3 (Tm 26) (Kn 2) 3, Bo 28 .add 3 (Kn 1) (Tm 27) 3, Oo 29 (.indexAddr 91 (Tm 5) (Kn 0)), Ld 30 5 29, Oo 31 (.convert 5 3 (Tm 30)), Bo 32 .add 3 (Kn 80) (Tm 31) 3, Mv 33 6, Mv 34 6, Oo 35 (.indexAddr 91 (Tm 5) (Kn 2)), Ld 36 5 35, Oo 37 (.convert 5 3 (Tm 36)), Bo 38 .rem 3 (Tm 37) (Kn 60) 3, Bo 39 .add 3 (Tm 34) (Tm 38) 3, Cl 40 67 #[Tm 33, Tm 39] #[3, 3], Oo 41 (.indexAddr 91 (Tm 5) (Kn 3)), Ld 42 5 41, Oo 43 (.convert 5 3 (Tm 42)), Bo 44 .rem 3 (Tm 43) (Kn 90) 3, Oo 45 (.indexAddr 91 (Tm 5) (Kn 3)), Ld 46 5 45, Oo 47 (.convert 5 3 (Tm 46)), Bo 48 .rem 3 (Tm 47) (Kn 90) 3, Oo 49 (.indexAddr 91 (Tm 5) (Kn 2)), Ld 50 5 49, Oo 51 (.convert 5 3 (Tm 50)), Bo 52 .rem 3 (Tm 51) (Kn 20) 3, Bo 53 .add 3 (Tm 48) (Tm 52) 3, Cl 54 67 #[Tm 44, Tm 53] #[3, 3], Oo 55 (.indexAddr 91 (Tm 5) (Kn 0)), Ld 56 5 55, Oo 57 (.convert 5 3 (Tm 56)), Bo 58 .mul 3 (Kn 2000) (Tm 57) 3, Oo 59 (.indexAddr 91 (Tm 5) (Kn 1)), Ld 60 5 59, Oo 61 (.convert 5 3 (Tm 60)), Bo 62 .mul 3 (Kn 5) (Tm 61) 3, Oo 63 (.build 125 #[(0, (Tm 28)), (1, (Tm 32)), (2, (Tm 40)), (3, (Tm 54)), (4, (Tm 58)), (5, (Tm 62))]), Oo 64 (.buildSlice 28 1 #[(0, (Tm 63))]), Oo 65 (.call { callee := .builtin .append, args := #[Tm 25, Tm 64], argTypes := #[28, 28] }), Fa 66 31 3 0, Sr 28 (Tm 66) (Tm 65)])))) (R0 [Mv 14 4, Bo 15 .add 3 (Tm 14) (Kn 1) 3, Sg 4 15])))))) (.seq (.seq (R0 [Sk 7 (Kn 0)]) (.block 2 (.loop (.seq (.seq (R0 [Mv 67 7, Bo 68 .lss 3 (Tm 67) (Kn 2) 3]) (.cond (Tm 68) .skip (.exit 2))) (.seq (.block 3 (.seq (R0 [Mv 71 7, Fa 72 95 1 1, Ix 73 93 72 71, Ld 74 87 73, Oo 8 (.alloc 87), Sr 87 (Tm 8) (Tm 74)]) (.seq (R1 [Oo 75 (.indexAddr 87 (Tm 8) (Kn 0)), Ld 76 5 75, Oo 77 (.convert 5 3 (Tm 76)), Bo 78 .mul 3 (Kn 20) (Tm 77) 3, Bo 79 .add 3 (Kn 2000) (Tm 78) 3, Oo 80 (.indexAddr 87 (Tm 8) (Kn 1)), Ld 81 5 80, Oo 82 (.convert 5 3 (Tm 81)), Bo 83 .mul 3 (Kn 8) (Tm 82) 3, Bo 84 .add 3 (Kn 1000) (Tm 83) 3, Sg 9 79, Sg 10 84]) (R1 [Fa 85 31 3 1, Ld 86 29 85, Mv 87 9, Mv 88 9, Mv 89 9, Oo 90 (.indexAddr 87 (Tm 8) (Kn 2)), Ld 91 5 90, Oo 92 (.convert 5 3 (Tm 91)), Bo 93 .mul 3 (Tm 89) (Tm 92) 3, Bo 94 .quo 3 (Tm 93) (Kn 400) 3, Bo 95 .add 3 (Tm 88) (Tm 94) 3, Mv 96 10, Mv 97 10, Oo 98 (.indexAddr 87 (Tm 8) (Kn 2)), Ld 99 5 98, Oo 100 (.convert 5 3 (Tm 99)), Bo 101 .rem 3 (Tm 100) (Kn 200) 3, Bo 102 .add 3 (Tm 97) (Tm 101) 3, Cl 103 67 #[Tm 96, Tm 102] #[3, 3], Oo 104 (.build 114 #[(0, (Tm 87)), (1, (Tm 95)), (2, (Tm 103))]), Oo 105 (.buildSlice 29 1 #[(0, (Tm 104))]), Oo 106 (.call { callee := .builtin .append, args := #[Tm 86, Tm 105], argTypes := #[29, 29] }), Fa 107 31 3 1, Sr 29 (Tm 107) (Tm 106)])))) (R0 [Mv 69 7, Bo 70 .add 3 (Tm 69) (Kn 1) 3, Sg 7 70])))))) (.seq (R0 [Ld 108 31 3, Sr 31 (Tm 2) (Tm 108)]) .ret)))))⟩
theorem sf31 : sfOf Try.f31 = some s31 := by kernel_rfl
theorem hb31 : hasBody Try.prog 31 = true := by kernel_rfl
def s32 : SF := ⟨63, [.tmp 6, .tmp 7], (.seq (R0 [Oo 3 (.box 31 (Tm 0)), Oo 4 (.box 35 (Tm 1)), Oo 6 (.assign (.const (.slice none 0 0))), Sk 7 (Kn 0)]) (.seq (R0 [Ld 15 31 3, Ld 16 35 4, Cl 17 38 #[Tm 15, Tm 16] #[31, 35], Mv 14 17, Xt 18 14 0, Xt 19 14 1, Oo 8 (.alloc 129), Sr 129 (Tm 8) (Tm 18), Sg 7 19]) (.seq (.block 0 (.seq (R0 [Mv 21 7, Bo 22 .neq 39 (Tm 21) (Kn 0) 39, Sg 20 22]) (.cond (Tm 20) (.seq (R0 [Mv 23 7, Oo 6 (.assign (.const (.slice none 0 0))), Sg 7 23]) .ret) (.seq (R0 [Mv 25 2, Oo 26 (.buildSlice 33 1 #[(0, (Tm 25))]), Cl 27 71 #[Kn 0, Kn 1000000, Tm 26] #[3, 3, 33], Oo 28 (.unOp .not 4 (Tm 27)), Sg 24 28]) (.cond (Tm 24) (.seq (R0 [Oo 6 (.assign (.const (.slice none 0 0))), Sk 7 (Kn 3)]) .ret) .skip))))) (.seq (R0 [Oo 29 (.makeMap 178 none), Oo 9 (.alloc 178), Sr 178 (Tm 9) (Tm 29)]) (.seq (.seq (R0 [Ld 30 129 8, Oo 31 (.makeFunc (.func 72) #[Tm 30] #[])]) (.block 1 (.rng (Tm 31) [32, 33] (.seq (R0 [Sg 10 32]) (R0 [Sg 11 33])) (.block 2 (R0 [Ld 34 178 9, Mv 35 10, Oo 36 (.lookup 178 (Tm 34) (Tm 35) false), Mv 37 11, Bo 38 .add 3 (Tm 36) (Tm 37) 3, ⟨none, .mapUpdate 178 (Tm 34) (Tm 35) (Tm 38), none⟩]))))) (.seq (.seq (R0 [Fa 39 31 3 0, Ld 40 28 39, Lq 41 40 28, Oo 42 (.move (Kn 0))]) (.block 3 (.loop (.seq (R0 [Bo 43 .lss 3 (Tm 42) (Tm 41) 3]) (.seq (.cond (Tm 43) .skip (.exit 3)) (.seq (.block 4 (.seq (R0 [Mv 44 42, Ix 45 28 40 42, Ld 46 125 45, Oo 13 (.alloc 125), Sg 12 44, Sr 125 (Tm 13) (Tm 46)]) (R0 [Mv 47 6, Ld 48 178 9, Mv 49 12, Oo 50 (.lookup 178 (Tm 48) (Tm 49) false), Fa 51 125 13 1, Ld 52 3 51, Bo 53 .mul 3 (Tm 50) (Tm 52) 3, Mv 54 2, Bo 55 .mul 3 (Tm 53) (Tm 54) 3, Fa 56 129 8 2, Ld 57 3 56, Cl 58 73 #[Tm 55, Tm 57] #[3, 3], Oo 59 (.buildSlice 115 1 #[(0, (Tm 58))]), Oo 60 (.call { callee := .builtin .append, args := #[Tm 47, Tm 59], argTypes := #[115, 115] }), Sg 6 60]))) (R0 [Bo 61 .add 3 (Tm 42) (Kn 1) 3, Mv 42 61]))))))) (.seq (R0 [Mv 62 6, Sg 6 62, Sk 7 (Kn 0)]) .ret)))))))⟩
theorem sf32 : sfOf Try.f32 = some s32 := by kernel_rfl
theorem hb32 : hasBody Try.prog 32 = true := by kernel_rfl
def o33_0 : SO := (Oo 3 (.buildSlice 28 0 #[]))
def o33_1 : SO := (Fa 4 31 1 0)
def o33_2 : SO := (Ld 5 28 4)
def o33_3 : SO := (Oo 6 (.call { callee := .builtin .append, args := #[Tm 3, Tm 5], argTypes := #[28, 28] }))
def o33_4 : SO := (Oo 7 (.buildSlice 29 0 #[]))
def o33_5 : SO := (Fa 8 31 1 1)
def o33_6 : SO := (Ld 9 29 8)
def o33_7 : SO := (Oo 10 (.call { callee := .builtin .append, args := #[Tm 7, Tm 9], argTypes := #[29, 29] }))
def o33_8 : SO := (Oo 11 (.build 31 #[(0, (Tm 6)), (1, (Tm 10))]))
def o33_9 : SO := (Sr 31 (Tm 2) (Tm 11))
def s33 : SF := ⟨12, [.cell 2 31], (.seq (R0 [Oo 1 (.box 31 (Tm 0)), Oo 2 (.alloc 31)]) (.seq (.ord (.op o33_0 (.op o33_1 (.op o33_2 (.app o33_3 [1, 8] [7, 8, 9] (.op o33_4 (.op o33_5 (.op o33_6 (.op o33_7 (.op o33_8 (.op o33_9 .done))))))))))) .ret))⟩
theorem sf33 : sfOf Try.f33 = some s33 := by kernel_rfl
theorem hb33 : hasBody Try.prog 33 = true := by kernel_rfl
def s34 : SF := ⟨4, [.cell 0 35], (.seq (R0 [Oo 0 (.alloc 35)]) (.seq (R0 [Oo 1 (.buildSlice 33 3 #[(0, (Kn 0)), (1, (Kn 1)), (2, (Kn 2))]), Oo 2 (.buildSlice 33 1 #[(0, (Kn 0))]), Oo 3 (.build 35 #[(0, (Tm 1)), (1, (Tm 2))]), Sr 35 (Tm 0) (Tm 3)]) .ret))⟩
theorem sf34 : sfOf Try.f34 = some s34 := by kernel_rfl
theorem hb34 : hasBody Try.prog 34 = true := by kernel_rfl
def s35 : SF := ⟨51, [.tmp 0], (.seq (R0 [Sk 0 (Kb false)]) (.seq (R0 [Cl 8 67 #[Kn 250, Kn 270] #[3, 3], Cl 9 67 #[Kn 60, Kn 80] #[3, 3], Oo 10 (.build 125 #[(0, (Kn 1)), (1, (Kn 200)), (2, (Tm 8)), (3, (Tm 9)), (4, (Kn 400000)), (5, (Kn 300))]), Cl 11 67 #[Kn 180, Kn 190] #[3, 3], Cl 12 67 #[Kn 70, Kn 90] #[3, 3], Oo 13 (.build 125 #[(0, (Kn 2)), (1, (Kn 120)), (2, (Tm 11)), (3, (Tm 12)), (4, (Kn 300000)), (5, (Kn 200))]), Oo 14 (.buildSlice 28 2 #[(0, (Tm 10)), (1, (Tm 13))]), Cl 15 67 #[Kn 3600, Kn 3700] #[3, 3], Oo 16 (.build 114 #[(0, (Kn 8000)), (1, (Kn 12000)), (2, (Tm 15))]), Oo 17 (.buildSlice 29 1 #[(0, (Tm 16))]), Oo 18 (.build 31 #[(0, (Tm 14)), (1, (Tm 17))]), Oo 1 (.alloc 31), Sr 31 (Tm 1) (Tm 18)]) (.seq (R0 [Oo 19 (.buildSlice 33 3 #[(0, (Kn 0)), (1, (Kn 1)), (2, (Kn 0))]), Oo 20 (.buildSlice 33 1 #[(0, (Kn 0))]), Oo 21 (.build 35 #[(0, (Tm 19)), (1, (Tm 20))]), Oo 2 (.alloc 35), Sr 35 (Tm 2) (Tm 21)]) (.seq (R0 [Ld 23 31 1, Ld 24 35 2, Cl 25 74 #[Tm 23, Tm 24] #[31, 35], Mv 22 25, Xt 26 22 0, Xt 27 22 1, Oo 3 (.alloc 121), Sr 121 (Tm 3) (Tm 26), Sg 4 27]) (.seq (R0 [Ld 29 31 1, Ld 30 35 2, Cl 31 8 #[Tm 29, Tm 30] #[31, 35], Mv 28 31, Xt 32 28 0, Xt 33 28 1, Xt 34 28 2, Oo 5 (.alloc 38), Oo 6 (.alloc 38), Sr 38 (Tm 5) (Tm 32), Sr 38 (Tm 6) (Tm 33), Sg 7 34]) (.seq (R1 [Mv 35 4, Bo 36 .eql 39 (Tm 35) (Kn 0) 39, Mv 37 36, Gm 38 7 37 true, Gb 39 .eql 39 (Tm 38) (Kn 0) 39 37 true, Pk 40 37 (Tm 39) (Kb false), Mv 41 40, Gl 42 121 3 41 true, Og 43 (.build 121 #[(0, (Kn 580)), (1, (Kn 1))]) 41 true, Gb 44 .eql 121 (Tm 42) (Tm 43) 121 41 true, Pk 45 41 (Tm 44) (Kb false), Mv 46 45, Gl 47 38 6 46 true, Gc 48 67 #[Kn 4100, Kn 4240] #[3, 3] 46 true, Gb 49 .eql 38 (Tm 47) (Tm 48) 38 46 true, Pk 50 46 (Tm 49) (Kb false), Sg 0 50]) .ret))))))⟩
theorem sf35 : sfOf Try.f35 = some s35 := by kernel_rfl
theorem hb35 : hasBody Try.prog 35 = true := by kernel_rfl
def s36 : SF := ⟨59, [.tmp 0], (.seq (R0 [Sk 0 (Kb false)]) (.seq (R0 [Cl 7 67 #[Kn 20, Kn 400] #[3, 3], Oo 8 (.build 100 #[(0, (Kn 2500)), (1, (Tm 7)), (2, (Kn 4))]), Oo 1 (.alloc 100), Sr 100 (Tm 1) (Tm 8)]) (.seq (R0 [Cl 9 67 #[Kn 10, Kn 12] #[3, 3], Oo 10 (.build 112 #[(0, (Kn 800)), (1, (Tm 9))]), Cl 11 67 #[Kn 8, Kn 9] #[3, 3], Oo 12 (.build 112 #[(0, (Kn 700)), (1, (Tm 11))]), Cl 13 67 #[Kn 4, Kn 4] #[3, 3], Oo 14 (.build 112 #[(0, (Kn 1200)), (1, (Tm 13))]), Oo 15 (.buildSlice 101 3 #[(0, (Tm 10)), (1, (Tm 12)), (2, (Tm 14))]), Sg 2 15]) (.seq (R0 [Ld 17 100 1, Mv 18 2, Cl 19 75 #[Tm 17, Tm 18] #[100, 101], Mv 16 19, Xt 20 16 0, Xt 21 16 1, Sg 3 20, Sg 4 21]) (.seq (R0 [Ld 23 100 1, Mv 24 2, Oo 25 (.buildSlice 33 3 #[(0, (Kn 2)), (1, (Kn 1)), (2, (Kn 0))]), Cl 26 76 #[Tm 23, Tm 24, Tm 25] #[100, 101, 33], Mv 22 26, Xt 27 22 0, Xt 28 22 1, Sg 5 27, Sg 6 28]) (.seq (R0 [Mv 29 4, Bo 30 .eql 39 (Tm 29) (Kn 0) 39, Mv 31 30, Gm 32 6 31 true, Gb 33 .eql 39 (Tm 32) (Kn 0) 39 31 true, Pk 34 31 (Tm 33) (Kb false), Mv 35 34, Gm 36 3 35 true, Og 37 (.call { callee := .builtin .len, args := #[Tm 36], argTypes := #[102] }) 35 true, Gb 38 .eql 3 (Tm 37) (Kn 3) 3 35 true, Pk 39 35 (Tm 38) (Kb false), Mv 40 39, Gm 41 3 40 true, Og 42 (.indexAddr 102 (Tm 41) (Kn 1)) 40 true, Gf 43 110 42 1 40 true, Gl 44 3 43 40 true, Gb 45 .eql 3 (Tm 44) (Kn 1) 3 40 true, Pk 46 40 (Tm 45) (Kb false), Mv 47 46, Gm 48 3 47 true, Og 49 (.indexAddr 102 (Tm 48) (Kn 2)) 47 true, Gf 50 110 49 1 47 true, Gl 51 3 50 47 true, Gb 52 .eql 3 (Tm 51) (Kn 5) 3 47 true, Pk 53 47 (Tm 52) (Kb false), Mv 54 53, Gm 55 5 54 true, Og 56 (.buildSlice 33 4 #[(0, (Kn 100)), (1, (Kn 900)), (2, (Kn 1700)), (3, (Kn 2400))]) 54 true, Gc 57 77 #[Tm 55, Tm 56] #[33, 33] 54 true, Pk 58 54 (Tm 57) (Kb false), Sg 0 58]) .ret))))))⟩
theorem sf36 : sfOf Try.f36 = some s36 := by kernel_rfl
theorem hb36 : hasBody Try.prog 36 = true := by kernel_rfl
def s38 : SF := ⟨17, [.cell 4 129, .tmp 5], (.seq (R0 [Oo 2 (.box 31 (Tm 0)), Oo 3 (.box 35 (Tm 1)), Oo 4 (.alloc 129), Sk 5 (Kn 0)]) (.seq (.seq (R0 [Ld 7 31 2, Ld 8 35 3, Cl 9 78 #[Tm 7, Tm 8] #[31, 35], Sg 6 9]) (.seq (R0 [Mv 10 6, Bo 11 .neq 39 (Tm 10) (Kn 0) 39]) (.cond (Tm 11) (.seq (R0 [Ld 12 129 4, Mv 13 6, Sr 129 (Tm 4) (Tm 12), Sg 5 13]) .ret) .skip))) (.seq (R0 [Ld 14 31 2, Ld 15 35 3, Cl 16 79 #[Tm 14, Tm 15] #[31, 35], Sr 129 (Tm 4) (Tm 16), Sk 5 (Kn 0)]) .ret)))⟩
theorem sf38 : sfOf Try.f38 = some s38 := by kernel_rfl
theorem hb38 : hasBody Try.prog 38 = true := by kernel_rfl
def o39_0 : SO := (Ld 6 129 1)
def o39_1 : SO := (Mv 7 4)
def o39_2 : SO := (Cl 8 82 #[Tm 6, Tm 7] #[129, 189])
def o39_3 : SO := (Ld 9 129 1)
def o39_4 : SO := (Mv 10 5)
def o39_5 : SO := (Cl 11 82 #[Tm 9, Tm 10] #[129, 189])
def o39_6 : SO := (Oo 12 (.build 38 #[(0, (Tm 8)), (1, (Tm 11))]))
def o39_7 : SO := (Ld 13 129 1)
def o39_8 : SO := (Mv 14 4)
def o39_9 : SO := (Cl 15 83 #[Tm 13, Tm 14] #[129, 189])
def o39_10 : SO := (Ld 16 129 1)
def o39_11 : SO := (Mv 17 5)
def o39_12 : SO := (Cl 18 83 #[Tm 16, Tm 17] #[129, 189])
def o39_13 : SO := (Sr 38 (Tm 2) (Tm 12))
def o39_14 : SO := (Oo 19 (.build 38 #[(0, (Tm 15)), (1, (Tm 18))]))
def o39_15 : SO := (Sr 38 (Tm 3) (Tm 19))
def s39 : SF := ⟨20, [.cell 2 38, .cell 3 38], (.seq (R0 [Oo 1 (.box 129 (Tm 0)), Oo 2 (.alloc 38), Oo 3 (.alloc 38)]) (.seq (R0 [Oo 4 (.assign (.func 80)), Oo 5 (.assign (.func 81))]) (.seq (.ord (.op o39_0 (.op o39_1 (.op o39_2 (.op o39_3 (.op o39_4 (.op o39_5 (.op o39_6 (.op o39_7 (.op o39_8 (.op o39_9 (.op o39_10 (.op o39_11 (.op o39_12 (.app o39_13 [15, 18] [19] (.op o39_14 (.op o39_15 .done))))))))))))))))) .ret)))⟩
theorem sf39 : sfOf Try.f39 = some s39 := by kernel_rfl
theorem hb39 : hasBody Try.prog 39 = true := by kernel_rfl
def s43 : SF := ⟨11, [.tmp 6], (.seq (R0 [Oo 3 (.box 3 (Tm 0)), Oo 4 (.box 3 (Tm 1)), Sk 6 (Kb false)]) (.seq (R0 [Mv 7 2, Oo 8 (.makeFunc (.func 89) #[] #[Tm 3, Tm 4]), Cl 9 88 #[Tm 7, Tm 8] #[33, 197], Oo 10 (.unOp .not 4 (Tm 9)), Sg 6 10]) .ret))⟩
theorem sf43 : sfOf Try.f43 = some s43 := by kernel_rfl
theorem hb43 : hasBody Try.prog 43 = true := by kernel_rfl
def s50 : SF := ⟨53, [.tmp 2], (.seq (R0 [Oo 1 (.box 49 (Tm 0)), Sk 2 (Kn 0)]) (.seq (.block 0 (.seq (.seq (R0 [Fa 4 49 1 1, Ld 5 33 4, Lq 6 5 33, Bo 7 .neq 3 (Tm 6) (Kn 4) 3, Sg 3 7]) (.cond (Tm 3) .skip (.seq (R0 [Fa 8 49 1 3, Ld 9 33 8, Lq 10 9 33, Bo 11 .neq 3 (Tm 10) (Kn 2) 3, Sg 3 11]) (.cond (Tm 3) .skip (R0 [Fa 12 49 1 4, Ld 13 33 12, Lq 14 13 33, Bo 15 .neq 3 (Tm 14) (Kn 2) 3, Sg 3 15]))))) (.cond (Tm 3) (.seq (R0 [Sk 2 (Kn 4)]) .ret) (.seq (.seq (R0 [Fa 17 49 1 0, Ld 18 3 17, Oo 19 (.buildSlice 33 1 #[(0, (Tm 18))]), Cl 20 43 #[Kn 0, Kn 100, Tm 19] #[3, 3, 33], Oo 21 (.unOp .not 4 (Tm 20)), Sg 16 21]) (.cond (Tm 16) .skip (.seq (R0 [Fa 22 49 1 1, Ld 23 33 22, Cl 24 99 #[Kn 1, Tm 23] #[3, 33], Oo 25 (.unOp .not 4 (Tm 24)), Sg 16 25]) (.cond (Tm 16) .skip (.seq (R0 [Fa 26 49 1 2, Ld 27 3 26, Oo 28 (.buildSlice 33 1 #[(0, (Tm 27))]), Cl 29 99 #[Kn 1, Tm 28] #[3, 33], Oo 30 (.unOp .not 4 (Tm 29)), Sg 16 30]) (.cond (Tm 16) .skip (.seq (R0 [Fa 31 49 1 3, Ld 32 33 31, Fa 33 49 1 4, Ld 34 33 33, Oo 35 (.buildSlice 65 2 #[(0, (Tm 32)), (1, (Tm 34))]), Cl 36 100 #[Tm 35] #[65], Cl 37 99 #[Kn 0, Tm 36] #[3, 33], Oo 38 (.unOp .not 4 (Tm 37)), Sg 16 38]) (.cond (Tm 16) .skip (R0 [Fa 39 49 1 5, Ld 40 3 39, Oo 41 (.buildSlice 33 1 #[(0, (Tm 40))]), Cl 42 43 #[Kn 0, Kn 20, Tm 41] #[3, 3, 33], Oo 43 (.unOp .not 4 (Tm 42)), Sg 16 43]))))))))) (.cond (Tm 16) (.seq (R0 [Sk 2 (Kn 2)]) .ret) (.seq (R0 [Fa 45 49 1 6, Ld 46 4 45, Mv 47 46, Gf 48 49 1 3 47 true, Gl 49 33 48 47 true, Gc 50 43 #[Kn 0, Kn 0, Tm 49] #[3, 3, 33] 47 true, Og 51 (.unOp .not 4 (Tm 50)) 47 true, Pk 52 47 (Tm 51) (Kb false), Sg 44 52]) (.cond (Tm 44) (.seq (R0 [Sk 2 (Kn 2)]) .ret) .skip))))))) (.seq (R0 [Sk 2 (Kn 0)]) .ret)))⟩
theorem sf50 : sfOf Try.f50 = some s50 := by kernel_rfl
theorem hb50 : hasBody Try.prog 50 = true := by kernel_rfl
def s51 : SF := ⟨25, [.tmp 2], (.seq (R0 [Sk 2 (Kn 0)]) (.seq (.seq (R0 [Mv 5 0, Lq 6 5 33, Bo 7 .lss 3 (Tm 6) (Kn 1) 3]) (.cond (Tm 7) (R0 [⟨some 8, .makeInterface 9 (.const (.string ⟨#[115, 108, 105, 99, 101, 115, 46, 77, 97, 120, 58, 32, 101, 109, 112, 116, 121, 32, 108, 105, 115, 116]⟩)), none⟩, ⟨none, .panic (Tm 8), none⟩]) .skip)) (.seq (R0 [Mv 9 0, Oo 10 (.indexAddr 33 (Tm 9) (Kn 0)), Ld 11 3 10, Sg 3 11]) (.seq (.seq (R0 [Sk 4 (Kn 1)]) (.block 0 (.loop (.seq (.seq (R0 [Mv 12 4, Mv 13 0, Lq 14 13 33, Bo 15 .lss 3 (Tm 12) (Tm 14) 3]) (.cond (Tm 15) .skip (.exit 0))) (.seq (.block 1 (R0 [Mv 18 3, Mv 19 0, Mv 20 4, Ix 21 33 19 20, Ld 22 3 21, Oo 23 (.call { callee := .builtin .max, args := #[Tm 18, Tm 22], argTypes := #[3, 3] }), Sg 3 23])) (R0 [Mv 16 4, Bo 17 .add 3 (Tm 16) (Kn 1) 3, Sg 4 17])))))) (.seq (R0 [Mv 24 3, Sg 2 24]) .ret)))))⟩
theorem sf51 : sfOf Try.f51 = some s51 := by kernel_rfl
theorem hb51 : hasBody Try.prog 51 = true := by kernel_rfl
end Go.Dw.Seat
end
section
namespace Go.Dw.Seat
open Go Go.Dw Go.Proofs
def s65 : SF := ⟨64, [.cell 4 49], (.seq (R0 [Oo 2 (.box 95 (Tm 0)), Oo 4 (.alloc 49)]) (.seq (R0 [Fa 9 95 2 2, Ld 10 85 9, Oo 5 (.alloc 85), Sr 85 (Tm 5) (Tm 10)]) (.seq (R1 [Oo 11 (.indexAddr 85 (Tm 5) (Kn 0)), Ld 12 5 11, Oo 13 (.convert 5 3 (Tm 12)), Bo 14 .add 3 (Kn 60) (Tm 13) 3, Mv 15 1, Bo 16 .add 3 (Tm 14) (Tm 15) 3, Oo 17 (.indexAddr 85 (Tm 5) (Kn 1)), Ld 18 5 17, Oo 19 (.convert 5 3 (Tm 18)), Bo 20 .add 3 (Kn 50) (Tm 19) 3, Mv 21 1, Bo 22 .add 3 (Tm 20) (Tm 21) 3, Oo 23 (.indexAddr 85 (Tm 5) (Kn 1)), Ld 24 5 23, Oo 25 (.convert 5 3 (Tm 24)), Bo 26 .add 3 (Kn 50) (Tm 25) 3, Bo 27 .quo 3 (Tm 26) (Kn 2) 3, Oo 28 (.indexAddr 85 (Tm 5) (Kn 4)), Ld 29 5 28, Oo 30 (.convert 5 3 (Tm 29)), Bo 31 .rem 3 (Tm 30) (Kn 3) 3, Bo 32 .add 3 (Tm 27) (Tm 31) 3, Sg 6 16, Sg 7 22, Sg 8 32]) (.seq (R0 [Oo 33 (.indexAddr 85 (Tm 5) (Kn 2)), Ld 34 5 33, Oo 35 (.convert 5 3 (Tm 34)), Bo 36 .rem 3 (Tm 35) (Kn 50) 3, Mv 37 6, Mv 38 7, Mv 39 6, Mv 40 7, Oo 41 (.buildSlice 33 4 #[(0, (Tm 37)), (1, (Tm 38)), (2, (Tm 39)), (3, (Tm 40))]), Oo 42 (.indexAddr 85 (Tm 5) (Kn 3)), Ld 43 5 42, Oo 44 (.convert 5 3 (Tm 43)), Bo 45 .add 3 (Kn 40) (Tm 44) 3, Mv 46 1, Bo 47 .add 3 (Tm 45) (Tm 46) 3, Mv 48 8, Mv 49 8, Oo 50 (.buildSlice 33 2 #[(0, (Tm 48)), (1, (Tm 49))]), Mv 51 8, Mv 52 8, Oo 53 (.indexAddr 85 (Tm 5) (Kn 5)), Ld 54 5 53, Oo 55 (.convert 5 3 (Tm 54)), Bo 56 .rem 3 (Tm 55) (Kn 4) 3, Bo 57 .add 3 (Tm 52) (Tm 56) 3, Oo 58 (.buildSlice 33 2 #[(0, (Tm 51)), (1, (Tm 57))]), Oo 59 (.indexAddr 85 (Tm 5) (Kn 6)), Ld 60 5 59, Oo 61 (.convert 5 3 (Tm 60)), Bo 62 .rem 3 (Tm 61) (Kn 21) 3, Oo 63 (.build 49 #[(0, (Tm 36)), (1, (Tm 41)), (2, (Tm 47)), (3, (Tm 50)), (4, (Tm 58)), (5, (Tm 62))]), Sr 49 (Tm 4) (Tm 63)]) .ret))))⟩
theorem sf65 : sfOf Try.f65 = some s65 := by kernel_rfl
theorem hb65 : hasBody Try.prog 65 = true := by kernel_rfl
def s66 : SF := ⟨16, [.cell 2 49], (.seq (R0 [Oo 1 (.box 49 (Tm 0)), Oo 2 (.alloc 49)]) (.seq (R1 [Fa 3 49 1 1, Ld 4 33 3, Cl 5 70 #[Tm 4] #[33], Fa 6 49 1 3, Ld 7 33 6, Cl 8 70 #[Tm 7] #[33], Fa 9 49 1 4, Ld 10 33 9, Cl 11 70 #[Tm 10] #[33], Fa 12 49 1 1, Sr 33 (Tm 12) (Tm 5), Fa 13 49 1 3, Sr 33 (Tm 13) (Tm 8), Fa 14 49 1 4, Sr 33 (Tm 14) (Tm 11)]) (.seq (R0 [Ld 15 49 1, Sr 49 (Tm 2) (Tm 15)]) .ret)))⟩
theorem sf66 : sfOf Try.f66 = some s66 := by kernel_rfl
theorem hb66 : hasBody Try.prog 66 = true := by kernel_rfl
def s67 : SF := ⟨8, [.cell 4 38], (.seq (R0 [Oo 4 (.alloc 38)]) (.seq (R0 [Mv 5 0, Mv 6 1, Oo 7 (.build 38 #[(0, (Tm 5)), (1, (Tm 6))]), Sr 38 (Tm 4) (Tm 7)]) .ret))⟩
theorem sf67 : sfOf Try.f67 = some s67 := by kernel_rfl
theorem hb67 : hasBody Try.prog 67 = true := by kernel_rfl
def s68 : SF := ⟨36, [.cell 4 174, .tmp 5], (.seq (R0 [Oo 2 (.box 100 (Tm 0)), Oo 4 (.alloc 174), Sk 5 (Kn 0)]) (.seq (R0 [Oo 6 (.assign (.func 115))]) (.seq (.block 0 (.seq (.seq (R0 [Fa 8 100 2 0, Ld 9 3 8, Oo 10 (.buildSlice 33 1 #[(0, (Tm 9))]), Cl 11 116 #[Kn 1, Kn 3000, Tm 10] #[3, 3, 33], Oo 12 (.unOp .not 4 (Tm 11)), Sg 7 12]) (.cond (Tm 7) .skip (.seq (R0 [Fa 13 100 2 1, Ld 14 38 13, Cl 15 117 #[Tm 14, Kn 0, Kn 3000] #[38, 3, 3], Oo 16 (.unOp .not 4 (Tm 15)), Sg 7 16]) (.cond (Tm 7) .skip (R0 [Fa 17 100 2 2, Ld 18 3 17, Oo 19 (.buildSlice 33 1 #[(0, (Tm 18))]), Cl 20 116 #[Kn 1, Kn 4, Tm 19] #[3, 3, 33], Oo 21 (.unOp .not 4 (Tm 20)), Sg 7 21]))))) (.cond (Tm 7) (.seq (R0 [Ld 22 174 4, Sr 174 (Tm 4) (Tm 22), Sk 5 (Kn 2)]) .ret) (.seq (R0 [Mv 24 1, Lq 25 24 101, Bo 26 .gtr 3 (Tm 25) (Kn 4) 3, Sg 23 26]) (.cond (Tm 23) (.seq (R0 [Ld 27 174 4, Sr 174 (Tm 4) (Tm 27), Sk 5 (Kn 5)]) .ret) (.seq (R0 [Mv 29 1, Mv 30 6, Cl 31 118 #[Tm 29, Tm 30] #[101, 219], Sg 28 31]) (.cond (Tm 28) (.seq (R0 [Ld 32 174 4, Sr 174 (Tm 4) (Tm 32), Sk 5 (Kn 4)]) .ret) .skip))))))) (.seq (R0 [Ld 33 100 2, Mv 34 1, Oo 35 (.build 174 #[(0, (Tm 33)), (1, (Tm 34))]), Sr 174 (Tm 4) (Tm 35), Sk 5 (Kn 0)]) .ret))))⟩
theorem sf68 : sfOf Try.f68 = some s68 := by kernel_rfl
theorem hb68 : hasBody Try.prog 68 = true := by kernel_rfl
def s69 : SF := ⟨29, [.tmp 4, .tmp 5, .tmp 6, .tmp 7], (.seq (R0 [Oo 2 (.box 174 (Tm 0)), Oo 4 (.assign (.const (.slice none 0 0))), Sk 5 (Kn 0), Sk 6 (Kn 0), Sk 7 (Kn 0)]) (.seq (.seq (R0 [Ld 10 174 2, Mv 11 1, Cl 12 119 #[Tm 10, Tm 11] #[174, 102], Mv 9 12, Xt 13 9 0, Xt 14 9 1, Xt 15 9 2, Xt 16 9 3, Sg 4 13, Sg 5 14, Sg 6 15, Sg 7 16]) (.seq (R0 [Mv 17 7, Bo 18 .neq 39 (Tm 17) (Kn 0) 39]) (.cond (Tm 18) (.seq (R0 [Mv 19 6, Mv 20 7, Oo 4 (.assign (.const (.slice none 0 0))), Sk 5 (Kn 0), Sg 6 19, Sg 7 20]) .ret) .skip))) (.seq (.seq (R0 [Ld 21 174 2, Mv 22 4, Cl 23 120 #[Tm 21, Tm 22] #[174, 33], Sg 8 23]) (.seq (R0 [Mv 24 8, Bo 25 .geq 3 (Tm 24) (Kn 0) 3]) (.cond (Tm 25) (.seq (R0 [Mv 26 8, Oo 4 (.assign (.const (.slice none 0 0))), Sk 5 (Kn 0), Sg 6 26, Sk 7 (Kn 9)]) .ret) .skip))) (.seq (R0 [Mv 27 4, Mv 28 5, Sg 4 27, Sg 5 28, Sk 6 (Kn 0), Sk 7 (Kn 0)]) .ret))))⟩
theorem sf69 : sfOf Try.f69 = some s69 := by kernel_rfl
theorem hb69 : hasBody Try.prog 69 = true := by kernel_rfl
def s70 : SF := ⟨6, [.tmp 2], (.seq (R0 [Oo 2 (.assign (.const (.slice none 0 0)))]) (.seq (R0 [Oo 3 (.buildSlice 33 0 #[]), Mv 4 0, Oo 5 (.call { callee := .builtin .append, args := #[Tm 3, Tm 4], argTypes := #[33, 33] }), Sg 2 5]) .ret))⟩
theorem sf70 : sfOf Try.f70 = some s70 := by kernel_rfl
theorem hb70 : hasBody Try.prog 70 = true := by kernel_rfl
def s71 : SF := ⟨11, [.tmp 6], (.seq (R0 [Oo 3 (.box 3 (Tm 0)), Oo 4 (.box 3 (Tm 1)), Sk 6 (Kb false)]) (.seq (R0 [Mv 7 2, Oo 8 (.makeFunc (.func 121) #[] #[Tm 3, Tm 4]), Cl 9 88 #[Tm 7, Tm 8] #[33, 197], Oo 10 (.unOp .not 4 (Tm 9)), Sg 6 10]) .ret))⟩
theorem sf71 : sfOf Try.f71 = some s71 := by kernel_rfl
theorem hb71 : hasBody Try.prog 71 = true := by kernel_rfl
def s72 : SF := ⟨47, [], (.seq (R0 [Oo 2 (.box 129 (Tm 0))]) (.seq (R0 [Fa 8 129 2 0, Fa 9 35 8 0, Ld 10 33 9, Lq 11 10 33, Oo 12 (.move (Kn 0))]) (.block 0 (.loop (.seq (R0 [Bo 13 .lss 3 (Tm 12) (Tm 11) 3]) (.seq (.cond (Tm 13) .skip (.exit 0)) (.seq (.block 1 (.seq (R0 [Mv 14 12, Ix 15 33 10 12, Ld 16 3 15, Sg 4 14, Sg 5 16]) (.seq (R0 [Fa 17 129 2 2, Ld 18 3 17, Sg 6 18]) (.seq (.seq (R0 [Mv 19 4, Bo 20 .rem 3 (Tm 19) (Kn 2) 3, Bo 21 .eql 3 (Tm 20) (Kn 1) 3]) (.cond (Tm 21) (.seq (R1 [Fa 22 129 2 1, Fa 23 31 22 1, Ld 24 29 23, Fa 25 129 2 0, Fa 26 35 25 1, Ld 27 33 26, Mv 28 4, Bo 29 .quo 3 (Tm 28) (Kn 2) 3, Ix 30 33 27 29, Ld 31 3 30, Ix 32 29 24 31, Ld 33 114 32, Oo 7 (.alloc 114), Sr 114 (Tm 7) (Tm 33)]) (R1 [Mv 34 6, Fa 35 114 7 0, Ld 36 3 35, Bo 37 .quo 3 (Tm 34) (Tm 36) 3, Fa 38 114 7 1, Ld 39 3 38, Bo 40 .mul 3 (Tm 37) (Tm 39) 3, Sg 6 40])) .skip)) (.seq (R0 [Mv 41 1, Mv 42 5, Mv 43 6, Oo 44 (.call { callee := .value (Tm 41), args := #[Tm 42, Tm 43], argTypes := #[3, 3] }), Oo 45 (.unOp .not 4 (Tm 44))]) (.cond (Tm 45) .ret .skip)))))) (R0 [Bo 46 .add 3 (Tm 12) (Kn 1) 3, Mv 12 46]))))))))⟩
theorem sf72 : sfOf Try.f72 = some s72 := by kernel_rfl
theorem hb72 : hasBody Try.prog 72 = true := by kernel_rfl
def s73 : SF := ⟨24, [.cell 4 121], (.seq (R0 [Oo 4 (.alloc 121)]) (.seq (R0 [Mv 8 0, Mv 9 1, Sg 5 8, Sg 6 9]) (.seq (.block 0 (.loop (.seq (.seq (R0 [Mv 10 6, Bo 11 .neq 3 (Tm 10) (Kn 0) 3]) (.cond (Tm 11) .skip (.exit 0))) (.block 1 (.seq (R0 [Mv 12 5, Mv 13 6, Bo 14 .rem 3 (Tm 12) (Tm 13) 3, Sg 7 14]) (R0 [Mv 15 6, Mv 16 7, Sg 5 15, Sg 6 16])))))) (.seq (R1 [Mv 17 0, Mv 18 5, Bo 19 .quo 3 (Tm 17) (Tm 18) 3, Mv 20 1, Mv 21 5, Bo 22 .quo 3 (Tm 20) (Tm 21) 3, Oo 23 (.build 121 #[(0, (Tm 19)), (1, (Tm 22))]), Sr 121 (Tm 4) (Tm 23)]) .ret))))⟩
theorem sf73 : sfOf Try.f73 = some s73 := by kernel_rfl
theorem hb73 : hasBody Try.prog 73 = true := by kernel_rfl
def s74 : SF := ⟨22, [.cell 4 121, .tmp 5], (.seq (R0 [Oo 2 (.box 31 (Tm 0)), Oo 3 (.box 35 (Tm 1)), Oo 4 (.alloc 121), Sk 5 (Kn 0)]) (.seq (R0 [Ld 8 31 2, Ld 9 35 3, Cl 10 38 #[Tm 8, Tm 9] #[31, 35], Mv 7 10, Xt 11 7 0, Xt 12 7 1, Oo 6 (.alloc 129), Sr 129 (Tm 6) (Tm 11), Sg 5 12]) (.seq (.seq (R0 [Mv 13 5, Bo 14 .neq 39 (Tm 13) (Kn 0) 39]) (.cond (Tm 14) (.seq (R0 [Ld 15 121 4, Mv 16 5, Sr 121 (Tm 4) (Tm 15), Sg 5 16]) .ret) .skip)) (.seq (R1 [Ld 17 129 6, Cl 18 122 #[Tm 17, .func 123] #[129, 223], Fa 19 129 6 2, Ld 20 3 19, Cl 21 73 #[Tm 18, Tm 20] #[3, 3], Sr 121 (Tm 4) (Tm 21), Sk 5 (Kn 0)]) .ret))))⟩
theorem sf74 : sfOf Try.f74 = some s74 := by kernel_rfl
theorem hb74 : hasBody Try.prog 74 = true := by kernel_rfl
def s75 : SF := ⟨30, [.tmp 4, .tmp 5], (.seq (R0 [Oo 2 (.box 100 (Tm 0)), Oo 4 (.assign (.const (.slice none 0 0))), Sk 5 (Kn 0)]) (.seq (R0 [Ld 12 100 2, Mv 13 1, Cl 14 68 #[Tm 12, Tm 13] #[100, 101], Mv 11 14, Xt 15 11 0, Xt 16 11 1, Oo 6 (.alloc 174), Sr 174 (Tm 6) (Tm 15), Sg 7 16]) (.seq (.seq (R0 [Mv 17 7, Bo 18 .neq 39 (Tm 17) (Kn 0) 39]) (.cond (Tm 18) (.seq (R0 [Mv 19 7, Oo 4 (.assign (.const (.slice none 0 0))), Sg 5 19]) .ret) .skip)) (.seq (R0 [Ld 21 174 6, Cl 22 124 #[Tm 21] #[174], Mv 20 22, Xt 23 20 0, Xt 24 20 1, Xt 25 20 2, Sg 8 23, Sg 9 24, Sg 10 25]) (.seq (.seq (R0 [Mv 26 10, Oo 27 (.unOp .not 4 (Tm 26))]) (.cond (Tm 27) (.seq (R0 [Oo 4 (.assign (.const (.slice none 0 0))), Sk 5 (Kn 9)]) .ret) .skip)) (.seq (R0 [Mv 28 8, Cl 29 125 #[Tm 28] #[102], Sg 4 29, Sk 5 (Kn 0)]) .ret))))))⟩
theorem sf75 : sfOf Try.f75 = some s75 := by kernel_rfl
theorem hb75 : hasBody Try.prog 75 = true := by kernel_rfl
def s76 : SF := ⟨54, [.tmp 6, .tmp 7], (.seq (R0 [Oo 3 (.box 100 (Tm 0)), Oo 6 (.assign (.const (.slice none 0 0))), Sk 7 (Kn 0)]) (.seq (R0 [Ld 15 100 3, Mv 16 1, Mv 17 2, Cl 18 126 #[Tm 15, Tm 16, Tm 17] #[100, 101, 33], Mv 14 18, Xt 19 14 0, Xt 20 14 1, Oo 8 (.alloc 174), Sr 174 (Tm 8) (Tm 19), Sg 9 20]) (.seq (.seq (R0 [Mv 21 9, Bo 22 .neq 39 (Tm 21) (Kn 0) 39]) (.cond (Tm 22) (.seq (R0 [Mv 23 9, Oo 6 (.assign (.const (.slice none 0 0))), Sg 7 23]) .ret) .skip)) (.seq (R0 [Ld 24 174 8, Mv 25 2, Cl 26 127 #[Tm 24, Tm 25] #[174, 33], Bo 27 .quo 3 (Tm 26) (Kn 2) 3, Sg 10 27]) (.seq (R0 [Mv 28 10, Oo 29 (.buildSlice 33 1 #[(0, (Tm 28))]), Sg 11 29]) (.seq (.seq (R0 [Mv 30 2, Lq 31 30 33, Oo 32 (.move (Kn 0))]) (.block 0 (.loop (.seq (R0 [Bo 33 .lss 3 (Tm 32) (Tm 31) 3]) (.seq (.cond (Tm 33) .skip (.exit 0)) (.seq (.block 1 (.seq (R0 [Mv 34 32, Ix 35 33 30 32, Ld 36 3 35, Sg 12 34, Sg 13 36]) (.seq (R0 [Mv 37 13, Oo 38 (.move (Kn 0))]) (.block 2 (.loop (.seq (R0 [Bo 39 .lss 3 (Tm 38) (Tm 37) 3]) (.seq (.cond (Tm 39) .skip (.exit 2)) (.seq (.block 3 (.seq (R0 [Mv 40 10, Mv 41 1, Mv 42 12, Ix 43 101 41 42, Fa 44 112 43 0, Ld 45 3 44, Bo 46 .add 3 (Tm 40) (Tm 45) 3, Sg 10 46]) (R0 [Mv 47 11, Mv 48 10, Oo 49 (.buildSlice 33 1 #[(0, (Tm 48))]), Oo 50 (.call { callee := .builtin .append, args := #[Tm 47, Tm 49], argTypes := #[33, 33] }), Sg 11 50]))) (R0 [Bo 51 .add 3 (Tm 38) (Kn 1) 3, Mv 38 51]))))))))) (R0 [Bo 52 .add 3 (Tm 32) (Kn 1) 3, Mv 32 52]))))))) (.seq (R0 [Mv 53 11, Sg 6 53, Sk 7 (Kn 0)]) .ret)))))))⟩
theorem sf76 : sfOf Try.f76 = some s76 := by kernel_rfl
theorem hb76 : hasBody Try.prog 76 = true := by kernel_rfl
def s77 : SF := ⟨26, [.tmp 4], (.seq (R0 [Sk 4 (Kb false)]) (.seq (.seq (R0 [Mv 6 0, Lq 7 6 33, Mv 8 1, Lq 9 8 33, Bo 10 .neq 3 (Tm 7) (Tm 9) 3]) (.cond (Tm 10) (.seq (R0 [Sk 4 (Kb false)]) .ret) .skip)) (.seq (.seq (R0 [Sk 5 (Kn 0)]) (.block 0 (.loop (.seq (.seq (R0 [Mv 11 5, Mv 12 0, Lq 13 12 33, Bo 14 .lss 3 (Tm 11) (Tm 13) 3]) (.cond (Tm 14) .skip (.exit 0))) (.seq (.block 1 (.seq (R1 [Mv 17 0, Mv 18 5, Ix 19 33 17 18, Ld 20 3 19, Mv 21 1, Mv 22 5, Ix 23 33 21 22, Ld 24 3 23, Bo 25 .neq 3 (Tm 20) (Tm 24) 3]) (.cond (Tm 25) (.seq (R0 [Sk 4 (Kb false)]) .ret) .skip))) (R0 [Mv 15 5, Bo 16 .add 3 (Tm 15) (Kn 1) 3, Sg 5 16])))))) (.seq (R0 [Sk 4 (Kb true)]) .ret))))⟩
theorem sf77 : sfOf Try.f77 = some s77 := by kernel_rfl
theorem hb77 : hasBody Try.prog 77 = true := by kernel_rfl
def s78 : SF := ⟨57, [.tmp 4], (.seq (R0 [Oo 2 (.box 31 (Tm 0)), Oo 3 (.box 35 (Tm 1)), Sk 4 (Kn 0)]) (.seq (.seq (R0 [Ld 8 31 2, Cl 9 128 #[Tm 8] #[31], Sg 5 9]) (.seq (R0 [Mv 10 5, Bo 11 .neq 39 (Tm 10) (Kn 0) 39]) (.cond (Tm 11) (.seq (R0 [Mv 12 5, Sg 4 12]) .ret) .skip))) (.seq (.block 0 (.seq (R0 [Ld 14 35 3, Cl 15 129 #[Tm 14] #[35], Oo 16 (.unOp .not 4 (Tm 15)), Sg 13 16]) (.cond (Tm 13) (.seq (R0 [Sk 4 (Kn 4)]) .ret) (.seq (.seq (R0 [Fa 18 31 2 0, Ld 19 28 18, Lq 20 19 28, Bo 21 .sub 3 (Tm 20) (Kn 1) 3, Fa 22 35 3 0, Ld 23 33 22, Cl 24 71 #[Kn 0, Tm 21, Tm 23] #[3, 3, 33], Oo 25 (.unOp .not 4 (Tm 24)), Sg 17 25]) (.cond (Tm 17) .skip (R0 [Fa 26 31 2 1, Ld 27 29 26, Lq 28 27 29, Bo 29 .sub 3 (Tm 28) (Kn 1) 3, Fa 30 35 3 1, Ld 31 33 30, Cl 32 71 #[Kn 0, Tm 29, Tm 31] #[3, 3, 33], Oo 33 (.unOp .not 4 (Tm 32)), Sg 17 33]))) (.cond (Tm 17) (.seq (R0 [Sk 4 (Kn 7)]) .ret) .skip))))) (.seq (.seq (R0 [Fa 34 35 3 1, Ld 35 33 34, Lq 36 35 33, Cl 37 130 #[Tm 36] #[3], Lq 38 37 229, Oo 39 (.move (Kn 0))]) (.block 1 (.loop (.seq (R0 [Bo 40 .lss 3 (Tm 39) (Tm 38) 3]) (.seq (.cond (Tm 40) .skip (.exit 1)) (.seq (.block 2 (.seq (R0 [Mv 41 39, Ix 42 229 37 39, Ld 43 123 42, Sg 6 41, Sg 7 43]) (.seq (R1 [Fa 44 31 2 0, Ld 45 28 44, Fa 46 35 3 0, Ld 47 33 46, Mv 48 6, Ix 49 33 47 48, Ld 50 3 49, Ix 51 28 45 50, Fa 52 125 51 0, Ld 53 123 52, Mv 54 7, Bo 55 .neq 123 (Tm 53) (Tm 54) 123]) (.cond (Tm 55) (.seq (R0 [Sk 4 (Kn 2)]) .ret) .skip)))) (R0 [Bo 56 .add 3 (Tm 39) (Kn 1) 3, Mv 39 56]))))))) (.seq (R0 [Sk 4 (Kn 0)]) .ret)))))⟩
theorem sf78 : sfOf Try.f78 = some s78 := by kernel_rfl
theorem hb78 : hasBody Try.prog 78 = true := by kernel_rfl
def s79 : SF := ⟨30, [.cell 4 129], (.seq (R0 [Oo 2 (.box 31 (Tm 0)), Oo 3 (.box 35 (Tm 1)), Oo 4 (.alloc 129)]) (.seq (R0 [Ld 8 35 3, Ld 9 31 2, Oo 10 (.build 129 #[(0, (Tm 8)), (1, (Tm 9)), (2, (Kn 1))]), Oo 5 (.alloc 129), Sr 129 (Tm 5) (Tm 10)]) (.seq (.seq (R0 [Fa 11 35 3 1, Ld 12 33 11, Lq 13 12 33, Oo 14 (.move (Kn 0))]) (.block 0 (.loop (.seq (R0 [Bo 15 .lss 3 (Tm 14) (Tm 13) 3]) (.seq (.cond (Tm 15) .skip (.exit 0)) (.seq (.block 1 (.seq (R0 [Ix 16 33 12 14, Ld 17 3 16, Sg 7 17]) (R1 [Fa 18 129 5 2, Ld 19 3 18, Fa 20 31 2 1, Ld 21 29 20, Mv 22 7, Ix 23 29 21 22, Fa 24 114 23 0, Ld 25 3 24, Bo 26 .mul 3 (Tm 19) (Tm 25) 3, Fa 27 129 5 2, Sr 3 (Tm 27) (Tm 26)]))) (R0 [Bo 28 .add 3 (Tm 14) (Kn 1) 3, Mv 14 28]))))))) (.seq (R0 [Ld 29 129 5, Sr 129 (Tm 4) (Tm 29)]) .ret))))⟩
theorem sf79 : sfOf Try.f79 = some s79 := by kernel_rfl
theorem hb79 : hasBody Try.prog 79 = true := by kernel_rfl
def s80 : SF := ⟨5, [.tmp 2], (.seq (R0 [Oo 1 (.box 38 (Tm 0)), Sk 2 (Kn 0)]) (.seq (R0 [Fa 3 38 1 0, Ld 4 3 3, Sg 2 4]) .ret))⟩
theorem sf80 : sfOf Try.f80 = some s80 := by kernel_rfl
theorem hb80 : hasBody Try.prog 80 = true := by kernel_rfl
def s81 : SF := ⟨5, [.tmp 2], (.seq (R0 [Oo 1 (.box 38 (Tm 0)), Sk 2 (Kn 0)]) (.seq (R0 [Fa 3 38 1 1, Ld 4 3 3, Sg 2 4]) .ret))⟩
theorem sf81 : sfOf Try.f81 = some s81 := by kernel_rfl
theorem hb81 : hasBody Try.prog 81 = true := by kernel_rfl
def s82 : SF := ⟨12, [.tmp 4], (.seq (R0 [Oo 2 (.box 129 (Tm 0)), Oo 3 (.box 189 (Tm 1)), Sk 4 (Kn 0)]) (.seq (R1 [Ld 5 129 2, Oo 6 (.makeFunc (.func 131) #[] #[Tm 3]), Cl 7 122 #[Tm 5, Tm 6] #[129, 223], Fa 8 129 2 2, Ld 9 3 8, Bo 10 .mul 3 (Kn 1000) (Tm 9) 3, Bo 11 .quo 3 (Tm 7) (Tm 10) 3, Sg 4 11]) .ret))⟩
theorem sf82 : sfOf Try.f82 = some s82 := by kernel_rfl
theorem hb82 : hasBody Try.prog 82 = true := by kernel_rfl
def s83 : SF := ⟨54, [.tmp 4], (.seq (R0 [Oo 2 (.box 129 (Tm 0)), Sk 4 (Kn 0)]) (.seq (.seq (R0 [Fa 9 129 2 0, Fa 10 35 9 0, Ld 11 33 10, Lq 12 11 33, Oo 13 (.move (Kn 0))]) (.block 0 (.loop (.seq (R0 [Bo 14 .lss 3 (Tm 13) (Tm 12) 3]) (.seq (.cond (Tm 14) .skip (.exit 0)) (.seq (.block 1 (.seq (R0 [Mv 15 13, Ix 16 33 11 13, Ld 17 3 16, Sg 5 15, Sg 6 17]) (.seq (R0 [Mv 18 5, Bo 19 .rem 3 (Tm 18) (Kn 2) 3, Bo 20 .eql 3 (Tm 19) (Kn 0) 3]) (.cond (Tm 20) (R0 [Mv 21 4, Mv 22 1, Fa 23 129 2 1, Fa 24 31 23 0, Ld 25 28 24, Mv 26 6, Ix 27 28 25 26, Fa 28 125 27 2, Ld 29 38 28, Oo 30 (.call { callee := .value (Tm 22), args := #[Tm 29], argTypes := #[38] }), Bo 31 .add 3 (Tm 21) (Tm 30) 3, Sg 4 31]) .skip)))) (R0 [Bo 32 .add 3 (Tm 13) (Kn 1) 3, Mv 13 32]))))))) (.seq (.seq (R0 [Fa 33 129 2 0, Fa 34 35 33 1, Ld 35 33 34, Lq 36 35 33, Oo 37 (.move (Kn 0))]) (.block 2 (.loop (.seq (R0 [Bo 38 .lss 3 (Tm 37) (Tm 36) 3]) (.seq (.cond (Tm 38) .skip (.exit 2)) (.seq (.block 3 (.seq (R0 [Ix 39 33 35 37, Ld 40 3 39, Sg 8 40]) (R0 [Mv 41 4, Mv 42 1, Fa 43 129 2 1, Fa 44 31 43 1, Ld 45 29 44, Mv 46 8, Ix 47 29 45 46, Fa 48 114 47 2, Ld 49 38 48, Oo 50 (.call { callee := .value (Tm 42), args := #[Tm 49], argTypes := #[38] }), Bo 51 .add 3 (Tm 41) (Tm 50) 3, Sg 4 51]))) (R0 [Bo 52 .add 3 (Tm 37) (Kn 1) 3, Mv 37 52]))))))) (.seq (R0 [Mv 53 4, Sg 4 53]) .ret))))⟩
theorem sf83 : sfOf Try.f83 = some s83 := by kernel_rfl
theorem hb83 : hasBody Try.prog 83 = true := by kernel_rfl
def s88 : SF := ⟨9, [.tmp 4], (.seq (R0 [Sk 4 (Kb false)]) (.seq (R0 [Mv 5 0, Mv 6 1, Cl 7 134 #[Tm 5, Tm 6] #[33, 197], Bo 8 .geq 3 (Tm 7) (Kn 0) 3, Sg 4 8]) .ret))⟩
theorem sf88 : sfOf Try.f88 = some s88 := by kernel_rfl
theorem hb88 : hasBody Try.prog 88 = true := by kernel_rfl
def s89 : SF := ⟨13, [.tmp 4], (.seq (R0 [Sk 4 (Kb false)]) (.seq (R0 [Mv 5 0, Ld 6 3 1, Bo 7 .lss 3 (Tm 5) (Tm 6) 3, Mv 8 7, Gm 9 0 8 false, Gl 10 3 2 8 false, Gb 11 .gtr 3 (Tm 9) (Tm 10) 3 8 false, Pk 12 8 (Kb true) (Tm 11), Sg 4 12]) .ret))⟩
theorem sf89 : sfOf Try.f89 = some s89 := by kernel_rfl
theorem hb89 : hasBody Try.prog 89 = true := by kernel_rfl
def s99 : SF := ⟨8, [.tmp 4], (.seq (R0 [Sk 4 (Kb false)]) (.seq (R0 [Mv 5 0, Mv 6 1, Cl 7 43 #[Tm 5, Kn 3000, Tm 6] #[3, 3, 33], Sg 4 7]) .ret))⟩
theorem sf99 : sfOf Try.f99 = some s99 := by kernel_rfl
theorem hb99 : hasBody Try.prog 99 = true := by kernel_rfl
def s100 : SF := ⟨36, [.tmp 2], (.seq (R0 [Oo 2 (.assign (.const (.slice none 0 0)))]) (.seq (R0 [Sk 3 (Kn 0)]) (.seq (.seq (R0 [Mv 9 0, Lq 10 9 65, Oo 11 (.move (Kn 0))]) (.block 0 (.loop (.seq (R0 [Bo 12 .lss 3 (Tm 11) (Tm 10) 3]) (.seq (.cond (Tm 12) .skip (.exit 0)) (.seq (.block 1 (.seq (R0 [Ix 13 65 9 11, Ld 14 33 13, Sg 5 14]) (.seq (R0 [Mv 15 3, Mv 16 5, Lq 17 16 33, Bo 18 .add 3 (Tm 15) (Tm 17) 3, Sg 3 18]) (.seq (R0 [Mv 19 3, Bo 20 .lss 3 (Tm 19) (Kn 0) 3]) (.cond (Tm 20) (R0 [⟨some 21, .makeInterface 9 (.const (.string ⟨#[108, 101, 110, 32, 111, 117, 116, 32, 111, 102, 32, 114, 97, 110, 103, 101]⟩)), none⟩, ⟨none, .panic (Tm 21), none⟩]) .skip))))) (R0 [Bo 22 .add 3 (Tm 11) (Kn 1) 3, Mv 11 22]))))))) (.seq (R0 [Mv 23 3, Cl 24 138 #[.const (.slice none 0 0), Tm 23] #[33, 3], Sg 6 24]) (.seq (.seq (R0 [Mv 25 0, Lq 26 25 65, Oo 27 (.move (Kn 0))]) (.block 2 (.loop (.seq (R0 [Bo 28 .lss 3 (Tm 27) (Tm 26) 3]) (.seq (.cond (Tm 28) .skip (.exit 2)) (.seq (.block 3 (.seq (R0 [Ix 29 65 25 27, Ld 30 33 29, Sg 8 30]) (R0 [Mv 31 6, Mv 32 8, Oo 33 (.call { callee := .builtin .append, args := #[Tm 31, Tm 32], argTypes := #[33, 33] }), Sg 6 33]))) (R0 [Bo 34 .add 3 (Tm 27) (Kn 1) 3, Mv 27 34]))))))) (.seq (R0 [Mv 35 6, Sg 2 35]) .ret))))))⟩
theorem sf100 : sfOf Try.f100 = some s100 := by kernel_rfl
theorem hb100 : hasBody Try.prog 100 = true := by kernel_rfl
def s115 : SF := ⟨14, [.tmp 2], (.seq (R0 [Oo 1 (.box 112 (Tm 0)), Sk 2 (Kb false)]) (.seq (R0 [Fa 3 112 1 0, Ld 4 3 3, Oo 5 (.buildSlice 33 1 #[(0, (Tm 4))]), Cl 6 116 #[Kn 1, Kn 3000, Tm 5] #[3, 3, 33], Oo 7 (.unOp .not 4 (Tm 6)), Mv 8 7, Gf 9 112 1 1 8 false, Gl 10 38 9 8 false, Gc 11 117 #[Tm 10, Kn 0, Kn 100] #[38, 3, 3] 8 false, Og 12 (.unOp .not 4 (Tm 11)) 8 false, Pk 13 8 (Kb true) (Tm 12), Sg 2 13]) .ret))⟩
theorem sf115 : sfOf Try.f115 = some s115 := by kernel_rfl
theorem hb115 : hasBody Try.prog 115 = true := by kernel_rfl
def s116 : SF := ⟨11, [.tmp 6], (.seq (R0 [Oo 3 (.box 3 (Tm 0)), Oo 4 (.box 3 (Tm 1)), Sk 6 (Kb false)]) (.seq (R0 [Mv 7 2, Oo 8 (.makeFunc (.func 146) #[] #[Tm 3, Tm 4]), Cl 9 88 #[Tm 7, Tm 8] #[33, 197], Oo 10 (.unOp .not 4 (Tm 9)), Sg 6 10]) .ret))⟩
theorem sf116 : sfOf Try.f116 = some s116 := by kernel_rfl
theorem hb116 : hasBody Try.prog 116 = true := by kernel_rfl
def s117 : SF := ⟨22, [.tmp 6], (.seq (R0 [Oo 3 (.box 38 (Tm 0)), Sk 6 (Kb false)]) (.seq (R0 [Mv 7 1, Mv 8 2, Fa 9 38 3 0, Ld 10 3 9, Fa 11 38 3 1, Ld 12 3 11, Oo 13 (.buildSlice 33 2 #[(0, (Tm 10)), (1, (Tm 12))]), Cl 14 116 #[Tm 7, Tm 8, Tm 13] #[3, 3, 33], Mv 15 14, Gf 16 38 3 0 15 true, Gl 17 3 16 15 true, Gf 18 38 3 1 15 true, Gl 19 3 18 15 true, Gb 20 .leq 3 (Tm 17) (Tm 19) 3 15 true, Pk 21 15 (Tm 20) (Kb false), Sg 6 21]) .ret))⟩
theorem sf117 : sfOf Try.f117 = some s117 := by kernel_rfl
theorem hb117 : hasBody Try.prog 117 = true := by kernel_rfl
def s118 : SF := ⟨9, [.tmp 4], (.seq (R0 [Sk 4 (Kb false)]) (.seq (R0 [Mv 5 0, Mv 6 1, Cl 7 147 #[Tm 5, Tm 6] #[101, 219], Bo 8 .geq 3 (Tm 7) (Kn 0) 3, Sg 4 8]) .ret))⟩
theorem sf118 : sfOf Try.f118 = some s118 := by kernel_rfl
theorem hb118 : hasBody Try.prog 118 = true := by kernel_rfl
def s119 : SF := ⟨72, [.tmp 4, .tmp 5, .tmp 6, .tmp 7], (.seq (R0 [Oo 2 (.box 174 (Tm 0)), Oo 4 (.assign (.const (.slice none 0 0))), Sk 5 (Kn 0), Sk 6 (Kn 0), Sk 7 (Kn 0)]) (.seq (.seq (R0 [Mv 11 1, Lq 12 11 102, Bo 13 .gtr 3 (Tm 12) (Kn 3) 3]) (.cond (Tm 13) (.seq (R0 [Oo 4 (.assign (.const (.slice none 0 0))), Sk 5 (Kn 0), Sk 6 (Kn 0), Sk 7 (Kn 5)]) .ret) .skip)) (.seq (R0 [Fa 14 174 2 1, Ld 15 101 14, Lq 16 15 101, Oo 17 (.makeSlice 33 (Tm 16) (Tm 16)), Sg 4 17]) (.seq (.seq (R0 [Mv 18 1, Lq 19 18 102, Oo 20 (.move (Kn 0))]) (.block 0 (.loop (.seq (R0 [Bo 21 .lss 3 (Tm 20) (Tm 19) 3]) (.seq (.cond (Tm 21) .skip (.exit 0)) (.seq (.block 1 (.seq (R0 [Mv 22 20, Ix 23 102 18 20, Ld 24 110 23, Oo 9 (.alloc 110), Sg 8 22, Sr 110 (Tm 9) (Tm 24)]) (.seq (R0 [Ld 25 174 2, Fa 26 110 9 0, Ld 27 33 26, Cl 28 148 #[Tm 25, Tm 27] #[174, 33], Sg 10 28]) (.seq (.block 2 (.seq (R0 [Mv 30 10, Bo 31 .neq 39 (Tm 30) (Kn 0) 39, Sg 29 31]) (.cond (Tm 29) .skip (.seq (R0 [Fa 33 110 9 1, Ld 34 3 33, Oo 35 (.buildSlice 33 1 #[(0, (Tm 34))]), Cl 36 116 #[Kn 1, Kn 30, Tm 35] #[3, 3, 33], Oo 37 (.unOp .not 4 (Tm 36)), Sg 32 37]) (.cond (Tm 32) (R0 [Sk 10 (Kn 3)]) (.seq (R1 [Mv 39 8, Bo 40 .gtr 3 (Tm 39) (Kn 0) 3, Mv 41 40, Gm 42 1 41 true, Gm 43 8 41 true, Gb 44 .sub 3 (Tm 43) (Kn 1) 3 41 true, Gx 45 102 42 44 41 true, Gf 46 110 45 0 41 true, Gl 47 33 46 41 true, Gf 48 110 9 0 41 true, Gl 49 33 48 41 true, Gc 50 149 #[Tm 47, Tm 49] #[33, 33] 41 true, Gb 51 .geq 3 (Tm 50) (Kn 0) 3 41 true, Pk 52 41 (Tm 51) (Kb false), Sg 38 52]) (.cond (Tm 38) (R0 [Sk 10 (Kn 6)]) .skip))))))) (.seq (.seq (R0 [Mv 53 10, Bo 54 .neq 39 (Tm 53) (Kn 0) 39]) (.cond (Tm 54) (.seq (R0 [Mv 55 8, Mv 56 10, Oo 4 (.assign (.const (.slice none 0 0))), Sk 5 (Kn 0), Sg 6 55, Sg 7 56]) .ret) .skip)) (R1 [Mv 57 4, Ld 58 110 9, Cl 59 150 #[Tm 57, Tm 58] #[33, 110], Mv 60 5, Ld 61 174 2, Fa 62 110 9 0, Ld 63 33 62, Cl 64 127 #[Tm 61, Tm 63] #[174, 33], Fa 65 110 9 1, Ld 66 3 65, Bo 67 .mul 3 (Tm 64) (Tm 66) 3, Bo 68 .add 3 (Tm 60) (Tm 67) 3, Sg 4 59, Sg 5 68])))))) (R0 [Bo 69 .add 3 (Tm 20) (Kn 1) 3, Mv 20 69]))))))) (.seq (R0 [Mv 70 4, Mv 71 5, Sg 4 70, Sg 5 71, Sk 6 (Kn 0), Sk 7 (Kn 0)]) .ret)))))⟩
theorem sf119 : sfOf Try.f119 = some s119 := by kernel_rfl
theorem hb119 : hasBody Try.prog 119 = true := by kernel_rfl
def s120 : SF := ⟨30, [.tmp 4], (.seq (R0 [Oo 2 (.box 174 (Tm 0)), Sk 4 (Kn 0)]) (.seq (.seq (R0 [Fa 7 174 2 1, Ld 8 101 7, Lq 9 8 101, Oo 10 (.move (Kn 0))]) (.block 0 (.loop (.seq (R0 [Bo 11 .lss 3 (Tm 10) (Tm 9) 3]) (.seq (.cond (Tm 11) .skip (.exit 0)) (.seq (.block 1 (.seq (R0 [Mv 12 10, Ix 13 101 8 10, Ld 14 112 13, Oo 6 (.alloc 112), Sg 5 12, Sr 112 (Tm 6) (Tm 14)]) (.seq (R1 [Fa 15 112 6 1, Fa 16 38 15 0, Ld 17 3 16, Fa 18 112 6 1, Fa 19 38 18 1, Ld 20 3 19, Mv 21 1, Mv 22 5, Ix 23 33 21 22, Ld 24 3 23, Oo 25 (.buildSlice 33 1 #[(0, (Tm 24))]), Cl 26 116 #[Tm 17, Tm 20, Tm 25] #[3, 3, 33], Oo 27 (.unOp .not 4 (Tm 26))]) (.cond (Tm 27) (.seq (R0 [Mv 28 5, Sg 4 28]) .ret) .skip)))) (R0 [Bo 29 .add 3 (Tm 10) (Kn 1) 3, Mv 10 29]))))))) (.seq (R0 [Sk 4 (Kn (-1))]) .ret)))⟩
theorem sf120 : sfOf Try.f120 = some s120 := by kernel_rfl
theorem hb120 : hasBody Try.prog 120 = true := by kernel_rfl
def s121 : SF := ⟨13, [.tmp 4], (.seq (R0 [Sk 4 (Kb false)]) (.seq (R0 [Mv 5 0, Ld 6 3 1, Bo 7 .lss 3 (Tm 5) (Tm 6) 3, Mv 8 7, Gm 9 0 8 false, Gl 10 3 2 8 false, Gb 11 .gtr 3 (Tm 9) (Tm 10) 3 8 false, Pk 12 8 (Kb true) (Tm 11), Sg 4 12]) .ret))⟩
theorem sf121 : sfOf Try.f121 = some s121 := by kernel_rfl
theorem hb121 : hasBody Try.prog 121 = true := by kernel_rfl
def s122 : SF := ⟨24, [.cell 4 3], (.seq (R0 [Oo 2 (.box 129 (Tm 0)), Oo 3 (.box 223 (Tm 1)), Oo 4 (.alloc 3)]) (.seq (.seq (R0 [Ld 7 129 2, Oo 8 (.makeFunc (.func 72) #[Tm 7] #[])]) (.block 0 (.rng (Tm 8) [9, 10] (.seq (R0 [Sg 5 9]) (R0 [Sg 6 10])) (.block 1 (R1 [Ld 11 3 4, Ld 12 223 3, Fa 13 129 2 1, Fa 14 31 13 0, Ld 15 28 14, Mv 16 5, Ix 17 28 15 16, Ld 18 125 17, Oo 19 (.call { callee := .value (Tm 12), args := #[Tm 18], argTypes := #[125] }), Mv 20 6, Bo 21 .mul 3 (Tm 19) (Tm 20) 3, Bo 22 .add 3 (Tm 11) (Tm 21) 3, Sr 3 (Tm 4) (Tm 22)]))))) (.seq (R0 [Ld 23 3 4, Sr 3 (Tm 4) (Tm 23)]) .ret)))⟩
theorem sf122 : sfOf Try.f122 = some s122 := by kernel_rfl
theorem hb122 : hasBody Try.prog 122 = true := by kernel_rfl
def s123 : SF := ⟨5, [.tmp 2], (.seq (R0 [Oo 1 (.box 125 (Tm 0)), Sk 2 (Kn 0)]) (.seq (R0 [Fa 3 125 1 1, Ld 4 3 3, Sg 2 4]) .ret))⟩
theorem sf123 : sfOf Try.f123 = some s123 := by kernel_rfl
theorem hb123 : hasBody Try.prog 123 = true := by kernel_rfl
def s124 : SF := ⟨35, [.tmp 2, .tmp 3, .tmp 4], (.seq (R0 [Oo 1 (.box 174 (Tm 0)), Oo 2 (.assign (.const (.slice none 0 0))), Sk 3 (Kn 0), Sk 4 (Kb false)]) (.seq (.seq (R0 [Oo 7 (.move (Kn 0))]) (.block 0 (.loop (.seq (R0 [Bo 8 .lss 3 (Tm 7) (Kn 4) 3]) (.seq (.cond (Tm 8) .skip (.exit 0)) (.seq (.block 1 (.seq (R0 [Mv 9 7, Sg 5 9]) (.seq (R1 [Ld 10 174 1, Ld 11 174 1, Cl 12 151 #[Tm 11] #[174], Oo 13 (.build 247 #[(0, (Tm 10)), (1, (Tm 12))]), Oo 14 (.box 247 (Tm 13)), Sg 6 14]) (.seq (R0 [Mv 15 6, Mv 16 5, Fa 17 174 1 1, Ld 18 101 17, Lq 19 18 101, Oo 20 (.makeSlice 33 (Tm 19) (Tm 19)), Cl 21 152 #[Tm 15, .const (.slice none 0 0), Kn 0, Tm 16, Kn 0, Tm 20] #[244, 102, 3, 3, 3, 33]]) (.seq (R0 [Mv 22 6, Nk 23 22, Fa 24 247 23 4, Ld 25 4 24]) (.cond (Tm 25) (.seq (R1 [Mv 26 6, Nk 27 26, Fa 28 247 27 2, Ld 29 102 28, Mv 30 6, Nk 31 30, Fa 32 247 31 3, Ld 33 3 32, Sg 2 29, Sg 3 33, Sk 4 (Kb true)]) .ret) .skip)))))) (R0 [Bo 34 .add 3 (Tm 7) (Kn 1) 3, Mv 7 34]))))))) (.seq (R0 [Oo 2 (.assign (.const (.slice none 0 0))), Sk 3 (Kn 0), Sk 4 (Kb false)]) .ret)))⟩
theorem sf124 : sfOf Try.f124 = some s124 := by kernel_rfl
theorem hb124 : hasBody Try.prog 124 = true := by kernel_rfl
def s125 : SF := ⟨22, [.tmp 2], (.seq (R0 [Oo 2 (.assign (.const (.slice none 0 0)))]) (.seq (.seq (R0 [Mv 5 0, Lq 6 5 102, Oo 7 (.move (Kn 0))]) (.block 0 (.loop (.seq (R0 [Bo 8 .lss 3 (Tm 7) (Tm 6) 3]) (.seq (.cond (Tm 8) .skip (.exit 0)) (.seq (.block 1 (.seq (R0 [Ix 9 102 5 7, Ld 10 110 9, Oo 4 (.alloc 110), Sr 110 (Tm 4) (Tm 10)]) (R1 [Mv 11 2, Fa 12 110 4 0, Ld 13 33 12, Cl 14 153 #[Tm 13] #[33], Fa 15 110 4 1, Ld 16 3 15, Oo 17 (.build 110 #[(0, (Tm 14)), (1, (Tm 16))]), Oo 18 (.buildSlice 102 1 #[(0, (Tm 17))]), Oo 19 (.call { callee := .builtin .append, args := #[Tm 11, Tm 18], argTypes := #[102, 102] }), Sg 2 19]))) (R0 [Bo 20 .add 3 (Tm 7) (Kn 1) 3, Mv 7 20]))))))) (.seq (R0 [Mv 21 2, Sg 2 21]) .ret)))⟩
theorem sf125 : sfOf Try.f125 = some s125 := by kernel_rfl
theorem hb125 : hasBody Try.prog 125 = true := by kernel_rfl
def s126 : SF := ⟨23, [.cell 6 174, .tmp 7], (.seq (R0 [Oo 3 (.box 100 (Tm 0)), Oo 6 (.alloc 174), Sk 7 (Kn 0)]) (.seq (R0 [Ld 11 100 3, Mv 12 1, Cl 13 68 #[Tm 11, Tm 12] #[100, 101], Mv 10 13, Xt 14 10 0, Xt 15 10 1, Oo 8 (.alloc 174), Sr 174 (Tm 8) (Tm 14), Sg 9 15]) (.seq (.seq (R0 [Mv 16 9, Bo 17 .eql 39 (Tm 16) (Kn 0) 39]) (.cond (Tm 17) (R0 [Ld 18 174 8, Mv 19 2, Cl 20 148 #[Tm 18, Tm 19] #[174, 33], Sg 9 20]) .skip)) (.seq (R0 [Ld 21 174 8, Mv 22 9, Sr 174 (Tm 6) (Tm 21), Sg 7 22]) .ret))))⟩
theorem sf126 : sfOf Try.f126 = some s126 := by kernel_rfl
theorem hb126 : hasBody Try.prog 126 = true := by kernel_rfl
def s127 : SF := ⟨30, [.tmp 4], (.seq (R0 [Oo 2 (.box 174 (Tm 0)), Sk 4 (Kn 0)]) (.seq (R0 [Fa 8 174 2 0, Fa 9 100 8 0, Ld 10 3 9, Sg 5 10]) (.seq (.seq (R0 [Mv 11 1, Lq 12 11 33, Oo 13 (.move (Kn 0))]) (.block 0 (.loop (.seq (R0 [Bo 14 .lss 3 (Tm 13) (Tm 12) 3]) (.seq (.cond (Tm 14) .skip (.exit 0)) (.seq (.block 1 (.seq (R0 [Mv 15 13, Ix 16 33 11 13, Ld 17 3 16, Sg 6 15, Sg 7 17]) (R0 [Mv 18 5, Mv 19 7, Fa 20 174 2 1, Ld 21 101 20, Mv 22 6, Ix 23 101 21 22, Fa 24 112 23 0, Ld 25 3 24, Bo 26 .mul 3 (Tm 19) (Tm 25) 3, Bo 27 .sub 3 (Tm 18) (Tm 26) 3, Sg 5 27]))) (R0 [Bo 28 .add 3 (Tm 13) (Kn 1) 3, Mv 13 28]))))))) (.seq (R0 [Mv 29 5, Sg 4 29]) .ret))))⟩
theorem sf127 : sfOf Try.f127 = some s127 := by kernel_rfl
theorem hb127 : hasBody Try.prog 127 = true := by kernel_rfl
def s128 : SF := ⟨28, [.tmp 2], (.seq (R0 [Oo 1 (.box 31 (Tm 0)), Sk 2 (Kn 0)]) (.seq (.block 0 (.seq (.seq (R0 [Fa 4 31 1 0, Ld 5 28 4, Lq 6 5 28, Bo 7 .gtr 3 (Tm 6) (Kn 8) 3, Sg 3 7]) (.cond (Tm 3) .skip (R0 [Fa 8 31 1 1, Ld 9 29 8, Lq 10 9 29, Bo 11 .gtr 3 (Tm 10) (Kn 4) 3, Sg 3 11]))) (.cond (Tm 3) (.seq (R0 [Sk 2 (Kn 5)]) .ret) (.seq (.seq (R0 [Fa 13 31 1 0, Ld 14 28 13, Lq 15 14 28, Bo 16 .eql 3 (Tm 15) (Kn 0) 3, Sg 12 16]) (.cond (Tm 12) .skip (R0 [Fa 17 31 1 1, Ld 18 29 17, Lq 19 18 29, Bo 20 .eql 3 (Tm 19) (Kn 0) 3, Sg 12 20]))) (.cond (Tm 12) (.seq (R0 [Sk 2 (Kn 2)]) .ret) (.seq (.seq (R0 [Fa 22 31 1 0, Ld 23 28 22, Cl 24 154 #[Tm 23, .func 155] #[28, 250], Sg 21 24]) (.cond (Tm 21) .skip (R0 [Fa 25 31 1 1, Ld 26 29 25, Cl 27 157 #[Tm 26, .func 158] #[29, 252], Sg 21 27]))) (.cond (Tm 21) (.seq (R0 [Sk 2 (Kn 2)]) .ret) .skip))))))) (.seq (R0 [Sk 2 (Kn 0)]) .ret)))⟩
theorem sf128 : sfOf Try.f128 = some s128 := by kernel_rfl
theorem hb128 : hasBody Try.prog 128 = true := by kernel_rfl
def s129 : SF := ⟨19, [.tmp 2], (.seq (R0 [Oo 1 (.box 35 (Tm 0)), Sk 2 (Kb false)]) (.seq (R1 [Fa 3 35 1 1, Ld 4 33 3, Lq 5 4 33, Oo 6 (.buildSlice 33 1 #[(0, (Tm 5))]), Cl 7 71 #[Kn 1, Kn 2, Tm 6] #[3, 3, 33], Mv 8 7, Gf 9 35 1 0 8 true, Gl 10 33 9 8 true, Og 11 (.call { callee := .builtin .len, args := #[Tm 10], argTypes := #[33] }) 8 true, Gf 12 35 1 1 8 true, Gl 13 33 12 8 true, Og 14 (.call { callee := .builtin .len, args := #[Tm 13], argTypes := #[33] }) 8 true, Gc 15 130 #[Tm 14] #[3] 8 true, Og 16 (.call { callee := .builtin .len, args := #[Tm 15], argTypes := #[229] }) 8 true, Gb 17 .eql 3 (Tm 11) (Tm 16) 3 8 true, Pk 18 8 (Tm 17) (Kb false), Sg 2 18]) .ret))⟩
theorem sf129 : sfOf Try.f129 = some s129 := by kernel_rfl
theorem hb129 : hasBody Try.prog 129 = true := by kernel_rfl
end Go.Dw.Seat
end
section
namespace Go.Dw.Seat
open Go Go.Dw Go.Proofs
def s130 : SF := ⟨13, [.tmp 2], (.seq (R0 [Oo 2 (.assign (.const (.slice none 0 0)))]) (.seq (R0 [Oo 4 (.buildSlice 229 1 #[(0, (Kn 1))]), Sg 3 4]) (.seq (.seq (R0 [Mv 5 0, Oo 6 (.move (Kn 0))]) (.block 0 (.loop (.seq (R0 [Bo 7 .lss 3 (Tm 6) (Tm 5) 3]) (.seq (.cond (Tm 7) .skip (.exit 0)) (.seq (.block 1 (R0 [Mv 8 3, Oo 9 (.buildSlice 229 2 #[(0, (Kn 2)), (1, (Kn 1))]), Oo 10 (.call { callee := .builtin .append, args := #[Tm 8, Tm 9], argTypes := #[229, 229] }), Sg 3 10])) (R0 [Bo 11 .add 3 (Tm 6) (Kn 1) 3, Mv 6 11]))))))) (.seq (R0 [Mv 12 3, Sg 2 12]) .ret))))⟩
theorem sf130 : sfOf Try.f130 = some s130 := by kernel_rfl
theorem hb130 : hasBody Try.prog 130 = true := by kernel_rfl
def s131 : SF := ⟨12, [.tmp 3], (.seq (R0 [Oo 2 (.box 125 (Tm 0)), Sk 3 (Kn 0)]) (.seq (R1 [Fa 4 125 2 1, Ld 5 3 4, Ld 6 189 1, Fa 7 125 2 3, Ld 8 38 7, Oo 9 (.call { callee := .value (Tm 6), args := #[Tm 8], argTypes := #[38] }), Bo 10 .add 3 (Kn 1000) (Tm 9) 3, Bo 11 .mul 3 (Tm 5) (Tm 10) 3, Sg 3 11]) .ret))⟩
theorem sf131 : sfOf Try.f131 = some s131 := by kernel_rfl
theorem hb131 : hasBody Try.prog 131 = true := by kernel_rfl
def s134 : SF := ⟨19, [.tmp 4], (.seq (R0 [Sk 4 (Kn 0)]) (.seq (.seq (R0 [Mv 6 0, Lq 7 6 33, Oo 8 (.move (Kn 0))]) (.block 0 (.loop (.seq (R0 [Bo 9 .lss 3 (Tm 8) (Tm 7) 3]) (.seq (.cond (Tm 9) .skip (.exit 0)) (.seq (.block 1 (.seq (R0 [Mv 10 8, Sg 5 10]) (.seq (R0 [Mv 11 1, Mv 12 0, Mv 13 5, Ix 14 33 12 13, Ld 15 3 14, Oo 16 (.call { callee := .value (Tm 11), args := #[Tm 15], argTypes := #[3] })]) (.cond (Tm 16) (.seq (R0 [Mv 17 5, Sg 4 17]) .ret) .skip)))) (R0 [Bo 18 .add 3 (Tm 8) (Kn 1) 3, Mv 8 18]))))))) (.seq (R0 [Sk 4 (Kn (-1))]) .ret)))⟩
theorem sf134 : sfOf Try.f134 = some s134 := by kernel_rfl
theorem hb134 : hasBody Try.prog 134 = true := by kernel_rfl
theorem hb138 : hasBody Try.prog 138 = true := by kernel_rfl
def s146 : SF := ⟨13, [.tmp 4], (.seq (R0 [Sk 4 (Kb false)]) (.seq (R0 [Mv 5 0, Ld 6 3 1, Bo 7 .lss 3 (Tm 5) (Tm 6) 3, Mv 8 7, Gm 9 0 8 false, Gl 10 3 2 8 false, Gb 11 .gtr 3 (Tm 9) (Tm 10) 3 8 false, Pk 12 8 (Kb true) (Tm 11), Sg 4 12]) .ret))⟩
theorem sf146 : sfOf Try.f146 = some s146 := by kernel_rfl
theorem hb146 : hasBody Try.prog 146 = true := by kernel_rfl
def s147 : SF := ⟨19, [.tmp 4], (.seq (R0 [Sk 4 (Kn 0)]) (.seq (.seq (R0 [Mv 6 0, Lq 7 6 101, Oo 8 (.move (Kn 0))]) (.block 0 (.loop (.seq (R0 [Bo 9 .lss 3 (Tm 8) (Tm 7) 3]) (.seq (.cond (Tm 9) .skip (.exit 0)) (.seq (.block 1 (.seq (R0 [Mv 10 8, Sg 5 10]) (.seq (R0 [Mv 11 1, Mv 12 0, Mv 13 5, Ix 14 101 12 13, Ld 15 112 14, Oo 16 (.call { callee := .value (Tm 11), args := #[Tm 15], argTypes := #[112] })]) (.cond (Tm 16) (.seq (R0 [Mv 17 5, Sg 4 17]) .ret) .skip)))) (R0 [Bo 18 .add 3 (Tm 8) (Kn 1) 3, Mv 8 18]))))))) (.seq (R0 [Sk 4 (Kn (-1))]) .ret)))⟩
theorem sf147 : sfOf Try.f147 = some s147 := by kernel_rfl
theorem hb147 : hasBody Try.prog 147 = true := by kernel_rfl
def s148 : SF := ⟨20, [.tmp 4], (.seq (R0 [Oo 2 (.box 174 (Tm 0)), Sk 4 (Kn 0)]) (.seq (.block 0 (.seq (.seq (R0 [Mv 6 1, Lq 7 6 33, Fa 8 174 2 1, Ld 9 101 8, Lq 10 9 101, Bo 11 .neq 3 (Tm 7) (Tm 10) 3, Sg 5 11]) (.cond (Tm 5) .skip (R0 [Mv 12 1, Cl 13 116 #[Kn 0, Kn 4, Tm 12] #[3, 3, 33], Oo 14 (.unOp .not 4 (Tm 13)), Sg 5 14]))) (.cond (Tm 5) (.seq (R0 [Sk 4 (Kn 4)]) .ret) (.seq (R0 [Ld 16 174 2, Mv 17 1, Cl 18 162 #[Tm 16, Tm 17] #[174, 33], Oo 19 (.unOp .not 4 (Tm 18)), Sg 15 19]) (.cond (Tm 15) (.seq (R0 [Sk 4 (Kn 7)]) .ret) .skip))))) (.seq (R0 [Sk 4 (Kn 0)]) .ret)))⟩
theorem sf148 : sfOf Try.f148 = some s148 := by kernel_rfl
theorem hb148 : hasBody Try.prog 148 = true := by kernel_rfl
def s149 : SF := ⟨36, [.tmp 4], (.seq (R0 [Sk 4 (Kn 0)]) (.seq (.seq (R0 [Mv 9 0, Lq 10 9 33, Oo 11 (.move (Kn 0))]) (.block 0 (.loop (.seq (R0 [Bo 12 .lss 3 (Tm 11) (Tm 10) 3]) (.seq (.cond (Tm 12) .skip (.exit 0)) (.seq (.block 1 (.seq (R0 [Mv 13 11, Ix 14 33 9 11, Ld 15 3 14, Sg 5 13, Sg 6 15]) (.seq (.seq (R0 [Mv 16 5, Mv 17 1, Lq 18 17 33, Bo 19 .geq 3 (Tm 16) (Tm 18) 3]) (.cond (Tm 19) (.seq (R0 [Sk 4 (Kn 1)]) .ret) .skip)) (.seq (R0 [Mv 20 1, Mv 21 5, Ix 22 33 20 21, Ld 23 3 22, Sg 7 23]) (.seq (R0 [Mv 24 6, Mv 25 7, Cl 26 163 #[Tm 24, Tm 25] #[3, 3], Sg 8 26]) (.seq (R0 [Mv 27 8, Bo 28 .neq 3 (Tm 27) (Kn 0) 3]) (.cond (Tm 28) (.seq (R0 [Mv 29 8, Sg 4 29]) .ret) .skip))))))) (R0 [Bo 30 .add 3 (Tm 11) (Kn 1) 3, Mv 11 30]))))))) (.seq (.seq (R0 [Mv 31 0, Lq 32 31 33, Mv 33 1, Lq 34 33 33, Bo 35 .lss 3 (Tm 32) (Tm 34) 3]) (.cond (Tm 35) (.seq (R0 [Sk 4 (Kn (-1))]) .ret) .skip)) (.seq (R0 [Sk 4 (Kn 0)]) .ret))))⟩
theorem sf149 : sfOf Try.f149 = some s149 := by kernel_rfl
theorem hb149 : hasBody Try.prog 149 = true := by kernel_rfl
def s150 : SF := ⟨30, [.tmp 4], (.seq (R0 [Oo 3 (.box 110 (Tm 1)), Oo 4 (.assign (.const (.slice none 0 0)))]) (.seq (R0 [Mv 8 0, Cl 9 153 #[Tm 8] #[33], Sg 5 9]) (.seq (.seq (R0 [Fa 10 110 3 0, Ld 11 33 10, Lq 12 11 33, Oo 13 (.move (Kn 0))]) (.block 0 (.loop (.seq (R0 [Bo 14 .lss 3 (Tm 13) (Tm 12) 3]) (.seq (.cond (Tm 14) .skip (.exit 0)) (.seq (.block 1 (.seq (R0 [Mv 15 13, Ix 16 33 11 13, Ld 17 3 16, Sg 6 15, Sg 7 17]) (R1 [Mv 18 5, Mv 19 6, Ix 20 33 18 19, Ld 21 3 20, Mv 22 7, Fa 23 110 3 1, Ld 24 3 23, Bo 25 .mul 3 (Tm 22) (Tm 24) 3, Bo 26 .add 3 (Tm 21) (Tm 25) 3, Ix 27 33 18 19, Sr 3 (Tm 27) (Tm 26)]))) (R0 [Bo 28 .add 3 (Tm 13) (Kn 1) 3, Mv 13 28]))))))) (.seq (R0 [Mv 29 5, Sg 4 29]) .ret))))⟩
theorem sf150 : sfOf Try.f150 = some s150 := by kernel_rfl
theorem hb150 : hasBody Try.prog 150 = true := by kernel_rfl
def s151 : SF := ⟨6, [.tmp 2], (.seq (R0 [Oo 1 (.box 174 (Tm 0)), Oo 2 (.assign (.const (.slice none 0 0)))]) (.seq (R0 [Ld 3 174 1, Cl 4 165 #[Tm 3, .const (.slice none 0 0)] #[174, 33], Cl 5 164 #[Tm 4] #[262], Sg 2 5]) .ret))⟩
theorem sf151 : sfOf Try.f151 = some s151 := by kernel_rfl
theorem hb151 : hasBody Try.prog 151 = true := by kernel_rfl
def o152_0 : SO := (Mv 108 1)
def o152_1 : SO := (Cl 109 168 #[Tm 108] #[102])
def o152_2 : SO := (Ld 110 110 15)
def o152_3 : SO := (Oo 111 (.buildSlice 102 1 #[(0, (Tm 110))]))
def o152_4 : SO := (Oo 112 (.call { callee := .builtin .append, args := #[Tm 109, Tm 111], argTypes := #[102, 102] }))
def o152_5 : SO := (Mv 107 0)
def o152_6 : SO := (Mv 113 12)
def o152_7 : SO := (Bo 114 .add 3 (Tm 113) (Kn 1) 3)
def o152_8 : SO := (Mv 115 3)
def o152_9 : SO := (Bo 116 .sub 3 (Tm 115) (Kn 1) 3)
def o152_10 : SO := (Mv 117 4)
def o152_11 : SO := (Mv 118 0)
def o152_12 : SO := (Nk 119 118)
def o152_13 : SO := (Fa 120 247 119 0)
def o152_14 : SO := (Ld 121 174 120)
def o152_15 : SO := (Fa 122 110 15 0)
def o152_16 : SO := (Ld 123 33 122)
def o152_17 : SO := (Cl 124 127 #[Tm 121, Tm 123] #[174, 33])
def o152_18 : SO := (Mv 125 14)
def o152_19 : SO := (Bo 126 .mul 3 (Tm 124) (Tm 125) 3)
def o152_20 : SO := (Bo 127 .add 3 (Tm 117) (Tm 126) 3)
def o152_21 : SO := (Mv 128 5)
def o152_22 : SO := (Ld 129 110 15)
def o152_23 : SO := (Cl 130 150 #[Tm 128, Tm 129] #[33, 110])
def s152 : SF := ⟨134, [], (.seq (.seq (R0 [Mv 16 0, Nk 17 16, Fa 18 247 17 4, Ld 19 4 18, Mv 20 19, Gm 21 4 20 true, Gm 22 0 20 true, Og 23 (.nilCheck (Tm 22)) 20 true, Gf 24 247 23 3 20 true, Gl 25 3 24 20 true, Gb 26 .geq 3 (Tm 21) (Tm 25) 3 20 true, Pk 27 20 (Tm 26) (Kb false), Mv 28 27, Gm 29 3 28 true, Gb 30 .gtr 3 (Tm 29) (Kn 0) 3 28 true, Pk 31 28 (Tm 30) (Kb false)]) (.cond (Tm 31) .ret .skip)) (.seq (.seq (R0 [Mv 32 3, Bo 33 .eql 3 (Tm 32) (Kn 0) 3]) (.cond (Tm 33) (.seq (.seq (R0 [Mv 34 0, Nk 35 34, Fa 36 247 35 0, Ld 37 174 36, Mv 38 5, Cl 39 120 #[Tm 37, Tm 38] #[174, 33], Bo 40 .lss 3 (Tm 39) (Kn 0) 3, Mv 41 40, Gm 42 0 41 true, Og 43 (.nilCheck (Tm 42)) 41 true, Gf 44 247 43 4 41 true, Gl 45 4 44 41 true, Og 46 (.unOp .not 4 (Tm 45)) 41 true, Gm 47 46 41 true, Gm 48 4 47 false, Gm 49 0 47 false, Og 50 (.nilCheck (Tm 49)) 47 false, Gf 51 247 50 3 47 false, Gl 52 3 51 47 false, Gb 53 .lss 3 (Tm 48) (Tm 52) 3 47 false, Og 54 (.pick (Tm 47) (Kb true) (Tm 53)) 41 true, Pk 55 41 (Tm 54) (Kb false)]) (.cond (Tm 55) (R0 [Mv 56 0, Mv 57 0, Mv 58 0, Mv 59 1, Cl 60 166 #[Tm 59] #[102], Mv 61 4, Nk 62 56, Fa 63 247 62 2, Sr 102 (Tm 63) (Tm 60), Nk 64 57, Fa 65 247 64 3, Sr 3 (Tm 65) (Tm 61), Nk 66 58, Fa 67 247 66 4, Sr 4 (Tm 67) (Kb true)]) .skip)) .ret) .skip)) (.seq (R0 [Mv 68 2, Sg 12 68]) (.block 0 (.loop (.seq (.seq (R0 [Mv 69 12, Mv 70 0, Nk 71 70, Fa 72 247 71 1, Ld 73 65 72, Lq 74 73 65, Bo 75 .lss 3 (Tm 69) (Tm 74) 3]) (.cond (Tm 75) .skip (.exit 0))) (.seq (.block 1 (.seq (R0 [Mv 78 0, Mv 79 5, Mv 80 0, Nk 81 80, Fa 82 247 81 1, Ld 83 65 82, Mv 84 12, Ix 85 65 83 84, Ld 86 33 85, Mv 87 3, Bo 88 .eql 3 (Tm 87) (Kn 1) 3, Cl 89 167 #[Tm 78, Tm 79, Tm 86, Tm 88] #[244, 33, 33, 4], Oo 13 (.alloc 38), Sr 38 (Tm 13) (Tm 89)]) (.seq (R0 [Fa 90 38 13 0, Ld 91 3 90, Sg 14 91]) (.block 2 (.loop (.seq (.seq (R0 [Mv 92 14, Fa 93 38 13 1, Ld 94 3 93, Bo 95 .leq 3 (Tm 92) (Tm 94) 3]) (.cond (Tm 95) .skip (.exit 2))) (.seq (.block 3 (.seq (R0 [Mv 98 0, Nk 99 98, Fa 100 247 99 1, Ld 101 65 100, Mv 102 12, Ix 103 65 101 102, Ld 104 33 103, Mv 105 14, Oo 106 (.build 110 #[(0, (Tm 104)), (1, (Tm 105))]), Oo 15 (.alloc 110), Sr 110 (Tm 15) (Tm 106)]) (.seq (.ord (.op o152_0 (.op o152_1 (.op o152_2 (.op o152_3 (.app o152_4 [0, 12, 113, 3, 115, 4, 0, 118, 119, 120, 15, 122, 14, 5, 15] [107, 113, 114, 115, 116, 117, 118, 119, 120, 121, 122, 123, 125, 128, 129] (.op o152_5 (.op o152_6 (.op o152_7 (.op o152_8 (.op o152_9 (.op o152_10 (.op o152_11 (.op o152_12 (.op o152_13 (.op o152_14 (.op o152_15 (.op o152_16 (.op o152_17 (.op o152_18 (.op o152_19 (.op o152_20 (.op o152_21 (.op o152_22 (.op o152_23 (.lop (Cl 131 152 #[Tm 107, Tm 112, Tm 114, Tm 116, Tm 127, Tm 130] #[244, 102, 3, 3, 3, 33]) .done)))))))))))))))))))))))))) (.seq (R0 [Mv 132 3, Bo 133 .eql 3 (Tm 132) (Kn 1) 3]) (.cond (Tm 133) (.exit 2) .skip))))) (R0 [Mv 96 14, Bo 97 .add 3 (Tm 96) (Kn 1) 3, Sg 14 97])))))))) (R0 [Mv 76 12, Bo 77 .add 3 (Tm 76) (Kn 1) 3, Sg 12 77]))))))))⟩
theorem sf152 : sfOf Try.f152 = some s152 := by kernel_rfl
theorem hb152 : hasBody Try.prog 152 = true := by kernel_rfl
def s153 : SF := ⟨8, [.tmp 2], (.seq (R0 [Oo 2 (.assign (.const (.slice none 0 0)))]) (.seq (.seq (R0 [Mv 3 0, Bo 4 .eql 33 (Tm 3) (.const (.slice none 0 0)) 33]) (.cond (Tm 4) (.seq (R0 [Oo 2 (.assign (.const (.slice none 0 0)))]) .ret) .skip)) (.seq (R0 [Oo 5 (.buildSlice 33 0 #[]), Mv 6 0, Oo 7 (.call { callee := .builtin .append, args := #[Tm 5, Tm 6], argTypes := #[33, 33] }), Sg 2 7]) .ret)))⟩
theorem sf153 : sfOf Try.f153 = some s153 := by kernel_rfl
theorem hb153 : hasBody Try.prog 153 = true := by kernel_rfl
def s154 : SF := ⟨9, [.tmp 4], (.seq (R0 [Sk 4 (Kb false)]) (.seq (R0 [Mv 5 0, Mv 6 1, Cl 7 169 #[Tm 5, Tm 6] #[28, 250], Bo 8 .geq 3 (Tm 7) (Kn 0) 3, Sg 4 8]) .ret))⟩
theorem sf154 : sfOf Try.f154 = some s154 := by kernel_rfl
theorem hb154 : hasBody Try.prog 154 = true := by kernel_rfl
def s155 : SF := ⟨6, [.tmp 2], (.seq (R0 [Oo 1 (.box 125 (Tm 0)), Sk 2 (Kb false)]) (.seq (R0 [Ld 3 125 1, Cl 4 156 #[Tm 3] #[125], Oo 5 (.unOp .not 4 (Tm 4)), Sg 2 5]) .ret))⟩
theorem sf155 : sfOf Try.f155 = some s155 := by kernel_rfl
theorem hb155 : hasBody Try.prog 155 = true := by kernel_rfl
def s156 : SF := ⟨39, [.tmp 2], (.seq (R0 [Oo 1 (.box 125 (Tm 0)), Sk 2 (Kb false)]) (.seq (R0 [Fa 3 125 1 0, Ld 4 123 3, Bo 5 .eql 123 (Tm 4) (Kn 1) 123, Mv 6 5, Gf 7 125 1 0 6 false, Gl 8 123 7 6 false, Gb 9 .eql 123 (Tm 8) (Kn 2) 123 6 false, Pk 10 6 (Kb true) (Tm 9), Mv 11 10, Gf 12 125 1 1 11 true, Gl 13 3 12 11 true, Og 14 (.buildSlice 33 1 #[(0, (Tm 13))]) 11 true, Gc 15 71 #[Kn 1, Kn 1000, Tm 14] #[3, 3, 33] 11 true, Pk 16 11 (Tm 15) (Kb false), Mv 17 16, Gf 18 125 1 2 17 true, Gl 19 38 18 17 true, Gc 20 170 #[Tm 19, Kn 1, Kn 1000] #[38, 3, 3] 17 true, Pk 21 17 (Tm 20) (Kb false), Mv 22 21, Gf 23 125 1 3 22 true, Gl 24 38 23 22 true, Gc 25 170 #[Tm 24, Kn 0, Kn 200] #[38, 3, 3] 22 true, Pk 26 22 (Tm 25) (Kb false), Mv 27 26, Gf 28 125 1 4 27 true, Gl 29 3 28 27 true, Og 30 (.buildSlice 33 1 #[(0, (Tm 29))]) 27 true, Gc 31 71 #[Kn 0, Kn 1000000, Tm 30] #[3, 3, 33] 27 true, Pk 32 27 (Tm 31) (Kb false), Mv 33 32, Gf 34 125 1 5 33 true, Gl 35 3 34 33 true, Og 36 (.buildSlice 33 1 #[(0, (Tm 35))]) 33 true, Gc 37 71 #[Kn 0, Kn 10000, Tm 36] #[3, 3, 33] 33 true, Pk 38 33 (Tm 37) (Kb false), Sg 2 38]) .ret))⟩
theorem sf156 : sfOf Try.f156 = some s156 := by kernel_rfl
theorem hb156 : hasBody Try.prog 156 = true := by kernel_rfl
def s157 : SF := ⟨9, [.tmp 4], (.seq (R0 [Sk 4 (Kb false)]) (.seq (R0 [Mv 5 0, Mv 6 1, Cl 7 171 #[Tm 5, Tm 6] #[29, 252], Bo 8 .geq 3 (Tm 7) (Kn 0) 3, Sg 4 8]) .ret))⟩
theorem sf157 : sfOf Try.f157 = some s157 := by kernel_rfl
theorem hb157 : hasBody Try.prog 157 = true := by kernel_rfl
def s158 : SF := ⟨6, [.tmp 2], (.seq (R0 [Oo 1 (.box 114 (Tm 0)), Sk 2 (Kb false)]) (.seq (R0 [Ld 3 114 1, Cl 4 159 #[Tm 3] #[114], Oo 5 (.unOp .not 4 (Tm 4)), Sg 2 5]) .ret))⟩
theorem sf158 : sfOf Try.f158 = some s158 := by kernel_rfl
theorem hb158 : hasBody Try.prog 158 = true := by kernel_rfl
def s159 : SF := ⟨23, [.tmp 2], (.seq (R0 [Oo 1 (.box 114 (Tm 0)), Sk 2 (Kb false)]) (.seq (R0 [Fa 3 114 1 0, Ld 4 3 3, Oo 5 (.buildSlice 33 1 #[(0, (Tm 4))]), Cl 6 71 #[Kn 1000, Kn 10000, Tm 5] #[3, 3, 33], Mv 7 6, Gf 8 114 1 0 7 true, Gl 9 3 8 7 true, Gf 10 114 1 0 7 true, Gl 11 3 10 7 true, Gb 12 .mul 3 (Kn 2) (Tm 11) 3 7 true, Gf 13 114 1 1 7 true, Gl 14 3 13 7 true, Og 15 (.buildSlice 33 1 #[(0, (Tm 14))]) 7 true, Gc 16 71 #[Tm 9, Tm 12, Tm 15] #[3, 3, 33] 7 true, Pk 17 7 (Tm 16) (Kb false), Mv 18 17, Gf 19 114 1 2 18 true, Gl 20 38 19 18 true, Gc 21 170 #[Tm 20, Kn 1, Kn 10000] #[38, 3, 3] 18 true, Pk 22 18 (Tm 21) (Kb false), Sg 2 22]) .ret))⟩
theorem sf159 : sfOf Try.f159 = some s159 := by kernel_rfl
theorem hb159 : hasBody Try.prog 159 = true := by kernel_rfl
def s162 : SF := ⟨48, [.tmp 4], (.seq (R0 [Oo 2 (.box 174 (Tm 0)), Sk 4 (Kb false)]) (.seq (R0 [Sk 5 (Kn 0), Sk 6 (Kn 0)]) (.seq (.seq (R0 [Mv 9 1, Lq 10 9 33, Oo 11 (.move (Kn 0))]) (.block 0 (.loop (.seq (R0 [Bo 12 .lss 3 (Tm 11) (Tm 10) 3]) (.seq (.cond (Tm 12) .skip (.exit 0)) (.seq (.block 1 (.seq (R0 [Ix 13 33 9 11, Ld 14 3 13, Sg 8 14]) (.seq (R0 [Mv 15 5, Mv 16 8, Bo 17 .add 3 (Tm 15) (Tm 16) 3, Sg 5 17]) (.seq (R0 [Mv 18 8, Bo 19 .gtr 3 (Tm 18) (Kn 0) 3]) (.cond (Tm 19) (R0 [Mv 20 6, Bo 21 .add 3 (Tm 20) (Kn 1) 3, Sg 6 21]) .skip))))) (R0 [Bo 22 .add 3 (Tm 11) (Kn 1) 3, Mv 11 22]))))))) (.seq (R1 [Fa 23 174 2 0, Fa 24 100 23 2, Ld 25 3 24, Mv 26 5, Oo 27 (.buildSlice 33 1 #[(0, (Tm 26))]), Cl 28 116 #[Kn 1, Tm 25, Tm 27] #[3, 3, 33], Mv 29 28, Gm 30 6 29 true, Gb 31 .leq 3 (Tm 30) (Kn 2) 3 29 true, Pk 32 29 (Tm 31) (Kb false), Mv 33 32, Gf 34 174 2 0 33 true, Gf 35 100 34 1 33 true, Gf 36 38 35 0 33 true, Gl 37 3 36 33 true, Gf 38 174 2 0 33 true, Gf 39 100 38 1 33 true, Gf 40 38 39 1 33 true, Gl 41 3 40 33 true, Gl 42 174 2 33 true, Gm 43 1 33 true, Gc 44 127 #[Tm 42, Tm 43] #[174, 33] 33 true, Og 45 (.buildSlice 33 1 #[(0, (Tm 44))]) 33 true, Gc 46 116 #[Tm 37, Tm 41, Tm 45] #[3, 3, 33] 33 true, Pk 47 33 (Tm 46) (Kb false), Sg 4 47]) .ret))))⟩
theorem sf162 : sfOf Try.f162 = some s162 := by kernel_rfl
theorem hb162 : hasBody Try.prog 162 = true := by kernel_rfl
def s163 : SF := ⟨20, [.tmp 4], (.seq (R0 [Sk 4 (Kn 0)]) (.seq (R0 [Mv 7 0, Cl 8 173 #[Tm 7] #[3], Sg 5 8]) (.seq (R0 [Mv 9 1, Cl 10 173 #[Tm 9] #[3], Sg 6 10]) (.seq (.seq (R0 [Mv 11 5]) (.cond (Tm 11) (.seq (.seq (R0 [Mv 12 6]) (.cond (Tm 12) (.seq (R0 [Sk 4 (Kn 0)]) .ret) .skip)) (.seq (R0 [Sk 4 (Kn (-1))]) .ret)) .skip)) (.seq (.seq (R0 [Mv 13 6]) (.cond (Tm 13) (.seq (R0 [Sk 4 (Kn 1)]) .ret) .skip)) (.seq (.seq (R0 [Mv 14 0, Mv 15 1, Bo 16 .lss 3 (Tm 14) (Tm 15) 3]) (.cond (Tm 16) (.seq (R0 [Sk 4 (Kn (-1))]) .ret) .skip)) (.seq (.seq (R0 [Mv 17 0, Mv 18 1, Bo 19 .gtr 3 (Tm 17) (Tm 18) 3]) (.cond (Tm 19) (.seq (R0 [Sk 4 (Kn 1)]) .ret) .skip)) (.seq (R0 [Sk 4 (Kn 0)]) .ret))))))))⟩
theorem sf163 : sfOf Try.f163 = some s163 := by kernel_rfl
theorem hb163 : hasBody Try.prog 163 = true := by kernel_rfl
def s164 : SF := ⟨5, [.tmp 2], (.seq (R0 [Oo 2 (.assign (.const (.slice none 0 0)))]) (.seq (R0 [Mv 3 0, Cl 4 174 #[.const (.slice none 0 0), Tm 3] #[65, 262], Sg 2 4]) .ret))⟩
theorem sf164 : sfOf Try.f164 = some s164 := by kernel_rfl
theorem hb164 : hasBody Try.prog 164 = true := by kernel_rfl
def s165 : SF := ⟨6, [.tmp 4], (.seq (R0 [Oo 2 (.box 174 (Tm 0)), Oo 3 (.box 33 (Tm 1)), Oo 4 (.assign (.const .nilFunc))]) (.seq (R0 [Oo 5 (.makeFunc (.func 175) #[] #[Tm 3, Tm 2]), Sg 4 5]) .ret))⟩
theorem sf165 : sfOf Try.f165 = some s165 := by kernel_rfl
theorem hb165 : hasBody Try.prog 165 = true := by kernel_rfl
def s166 : SF := ⟨8, [.tmp 2], (.seq (R0 [Oo 2 (.assign (.const (.slice none 0 0)))]) (.seq (.seq (R0 [Mv 3 0, Bo 4 .eql 102 (Tm 3) (.const (.slice none 0 0)) 102]) (.cond (Tm 4) (.seq (R0 [Oo 2 (.assign (.const (.slice none 0 0)))]) .ret) .skip)) (.seq (R0 [Oo 5 (.buildSlice 102 0 #[]), Mv 6 0, Oo 7 (.call { callee := .builtin .append, args := #[Tm 5, Tm 6], argTypes := #[102, 102] }), Sg 2 7]) .ret)))⟩
theorem sf166 : sfOf Try.f166 = some s166 := by kernel_rfl
theorem hb166 : hasBody Try.prog 166 = true := by kernel_rfl
def s167 : SF := ⟨77, [.cell 8 38], (.seq (R0 [Oo 8 (.alloc 38)]) (.seq (R0 [Oo 13 (.build 38 #[(0, (Kn 1)), (1, (Kn 30))]), Oo 9 (.alloc 38), Sr 38 (Tm 9) (Tm 13)]) (.seq (.seq (R0 [Mv 14 2, Lq 15 14 33, Oo 16 (.move (Kn 0))]) (.block 0 (.loop (.seq (R0 [Bo 17 .lss 3 (Tm 16) (Tm 15) 3]) (.seq (.cond (Tm 17) .skip (.exit 0)) (.seq (.block 1 (.seq (R0 [Mv 18 16, Ix 19 33 14 16, Ld 20 3 19, Sg 10 18, Sg 11 20]) (.seq (R0 [Mv 21 0, Nk 22 21, Fa 23 247 22 0, Fa 24 174 23 1, Ld 25 101 24, Mv 26 10, Ix 27 101 25 26, Fa 28 112 27 1, Ld 29 38 28, Oo 12 (.alloc 38), Sr 38 (Tm 12) (Tm 29)]) (.block 2 (.seq (R0 [Mv 31 11, Bo 32 .gtr 3 (Tm 31) (Kn 0) 3, Sg 30 32]) (.cond (Tm 30) (.seq (R1 [Fa 33 38 9 1, Ld 34 3 33, Fa 35 38 12 1, Ld 36 3 35, Mv 37 1, Mv 38 10, Ix 39 33 37 38, Ld 40 3 39, Bo 41 .sub 3 (Tm 36) (Tm 40) 3, Mv 42 11, Bo 43 .quo 3 (Tm 41) (Tm 42) 3, Oo 44 (.call { callee := .builtin .min, args := #[Tm 34, Tm 43], argTypes := #[3, 3] }), Fa 45 38 9 1, Sr 3 (Tm 45) (Tm 44)]) (.seq (R0 [Mv 46 3]) (.cond (Tm 46) (R1 [Fa 47 38 9 0, Ld 48 3 47, Fa 49 38 12 0, Ld 50 3 49, Mv 51 1, Mv 52 10, Ix 53 33 51 52, Ld 54 3 53, Bo 55 .sub 3 (Tm 50) (Tm 54) 3, Mv 56 11, Bo 57 .add 3 (Tm 55) (Tm 56) 3, Bo 58 .sub 3 (Tm 57) (Kn 1) 3, Mv 59 11, Bo 60 .quo 3 (Tm 58) (Tm 59) 3, Oo 61 (.call { callee := .builtin .max, args := #[Tm 48, Tm 60], argTypes := #[3, 3] }), Fa 62 38 9 0, Sr 3 (Tm 62) (Tm 61)]) .skip))) (.seq (R1 [Mv 64 3, Mv 65 64, Gm 66 1 65 true, Gm 67 10 65 true, Gx 68 33 66 67 65 true, Gl 69 3 68 65 true, Gf 70 38 12 0 65 true, Gl 71 3 70 65 true, Gb 72 .lss 3 (Tm 69) (Tm 71) 3 65 true, Pk 73 65 (Tm 72) (Kb false), Sg 63 73]) (.cond (Tm 63) (.seq (R0 [Oo 74 (.build 38 #[(0, (Kn 1))]), Sr 38 (Tm 8) (Tm 74)]) .ret) .skip)))))))) (R0 [Bo 75 .add 3 (Tm 16) (Kn 1) 3, Mv 16 75]))))))) (.seq (R0 [Ld 76 38 9, Sr 38 (Tm 8) (Tm 76)]) .ret))))⟩
theorem sf167 : sfOf Try.f167 = some s167 := by kernel_rfl
theorem hb167 : hasBody Try.prog 167 = true := by kernel_rfl
def s168 : SF := ⟨9, [.tmp 2], (.seq (R0 [Oo 2 (.assign (.const (.slice none 0 0)))]) (.seq (R0 [Mv 3 0, Mv 4 0, Lq 5 4 102, Mv 6 0, Lq 7 6 102, Oo 8 (.slice 102 (Tm 3) none (some (Tm 5)) (some (Tm 7))), Sg 2 8]) .ret))⟩
theorem sf168 : sfOf Try.f168 = some s168 := by kernel_rfl
theorem hb168 : hasBody Try.prog 168 = true := by kernel_rfl
def s169 : SF := ⟨19, [.tmp 4], (.seq (R0 [Sk 4 (Kn 0)]) (.seq (.seq (R0 [Mv 6 0, Lq 7 6 28, Oo 8 (.move (Kn 0))]) (.block 0 (.loop (.seq (R0 [Bo 9 .lss 3 (Tm 8) (Tm 7) 3]) (.seq (.cond (Tm 9) .skip (.exit 0)) (.seq (.block 1 (.seq (R0 [Mv 10 8, Sg 5 10]) (.seq (R0 [Mv 11 1, Mv 12 0, Mv 13 5, Ix 14 28 12 13, Ld 15 125 14, Oo 16 (.call { callee := .value (Tm 11), args := #[Tm 15], argTypes := #[125] })]) (.cond (Tm 16) (.seq (R0 [Mv 17 5, Sg 4 17]) .ret) .skip)))) (R0 [Bo 18 .add 3 (Tm 8) (Kn 1) 3, Mv 8 18]))))))) (.seq (R0 [Sk 4 (Kn (-1))]) .ret)))⟩
theorem sf169 : sfOf Try.f169 = some s169 := by kernel_rfl
theorem hb169 : hasBody Try.prog 169 = true := by kernel_rfl
def s170 : SF := ⟨22, [.tmp 6], (.seq (R0 [Oo 3 (.box 38 (Tm 0)), Sk 6 (Kb false)]) (.seq (R0 [Mv 7 1, Mv 8 2, Fa 9 38 3 0, Ld 10 3 9, Fa 11 38 3 1, Ld 12 3 11, Oo 13 (.buildSlice 33 2 #[(0, (Tm 10)), (1, (Tm 12))]), Cl 14 71 #[Tm 7, Tm 8, Tm 13] #[3, 3, 33], Mv 15 14, Gf 16 38 3 0 15 true, Gl 17 3 16 15 true, Gf 18 38 3 1 15 true, Gl 19 3 18 15 true, Gb 20 .leq 3 (Tm 17) (Tm 19) 3 15 true, Pk 21 15 (Tm 20) (Kb false), Sg 6 21]) .ret))⟩
theorem sf170 : sfOf Try.f170 = some s170 := by kernel_rfl
theorem hb170 : hasBody Try.prog 170 = true := by kernel_rfl
def s171 : SF := ⟨19, [.tmp 4], (.seq (R0 [Sk 4 (Kn 0)]) (.seq (.seq (R0 [Mv 6 0, Lq 7 6 29, Oo 8 (.move (Kn 0))]) (.block 0 (.loop (.seq (R0 [Bo 9 .lss 3 (Tm 8) (Tm 7) 3]) (.seq (.cond (Tm 9) .skip (.exit 0)) (.seq (.block 1 (.seq (R0 [Mv 10 8, Sg 5 10]) (.seq (R0 [Mv 11 1, Mv 12 0, Mv 13 5, Ix 14 29 12 13, Ld 15 114 14, Oo 16 (.call { callee := .value (Tm 11), args := #[Tm 15], argTypes := #[114] })]) (.cond (Tm 16) (.seq (R0 [Mv 17 5, Sg 4 17]) .ret) .skip)))) (R0 [Bo 18 .add 3 (Tm 8) (Kn 1) 3, Mv 8 18]))))))) (.seq (R0 [Sk 4 (Kn (-1))]) .ret)))⟩
theorem sf171 : sfOf Try.f171 = some s171 := by kernel_rfl
theorem hb171 : hasBody Try.prog 171 = true := by kernel_rfl
def s173 : SF := ⟨6, [.tmp 2], (.seq (R0 [Sk 2 (Kb false)]) (.seq (R0 [Mv 3 0, Mv 4 0, Bo 5 .neq 3 (Tm 3) (Tm 4) 3, Sg 2 5]) .ret))⟩
theorem sf173 : sfOf Try.f173 = some s173 := by kernel_rfl
theorem hb173 : hasBody Try.prog 173 = true := by kernel_rfl
def s174 : SF := ⟨13, [.tmp 4], (.seq (R0 [Oo 2 (.box 65 (Tm 0)), Oo 4 (.assign (.const (.slice none 0 0)))]) (.seq (.seq (R0 [Mv 6 1]) (.block 0 (.rng (Tm 6) [7] (R0 [Sg 5 7]) (.block 1 (R0 [Ld 8 65 2, Mv 9 5, Oo 10 (.buildSlice 65 1 #[(0, (Tm 9))]), Oo 11 (.call { callee := .builtin .append, args := #[Tm 8, Tm 10], argTypes := #[65, 65] }), Sr 65 (Tm 2) (Tm 11)]))))) (.seq (R0 [Ld 12 65 2, Sg 4 12]) .ret)))⟩
theorem sf174 : sfOf Try.f174 = some s174 := by kernel_rfl
theorem hb174 : hasBody Try.prog 174 = true := by kernel_rfl
def o175_0 : SO := (Ld 26 33 1)
def o175_1 : SO := (Cl 27 176 #[Tm 26] #[33])
def o175_2 : SO := (Mv 28 4)
def o175_3 : SO := (Oo 29 (.buildSlice 33 1 #[(0, (Tm 28))]))
def o175_4 : SO := (Ld 25 174 2)
def o175_5 : SO := (Oo 30 (.call { callee := .builtin .append, args := #[Tm 27, Tm 29], argTypes := #[33, 33] }))
def o175_6 : SO := (Cl 31 165 #[Tm 25, Tm 30] #[174, 33])
def s175 : SF := ⟨38, [], (.seq (R0 [Oo 3 (.box 216 (Tm 0))]) (.seq (.seq (R0 [Ld 6 33 1, Lq 7 6 33, Fa 8 174 2 1, Ld 9 101 8, Lq 10 9 101, Bo 11 .eql 3 (Tm 7) (Tm 10) 3]) (.cond (Tm 11) (.seq (.seq (R0 [Ld 12 174 2, Ld 13 33 1, Cl 14 162 #[Tm 12, Tm 13] #[174, 33]]) (.cond (Tm 14) (R0 [Ld 15 216 3, Ld 16 33 1, Oo 17 (.call { callee := .value (Tm 15), args := #[Tm 16], argTypes := #[33] })]) .skip)) .ret) .skip)) (.seq (R0 [Fa 18 174 2 0, Fa 19 100 18 2, Ld 20 3 19, Bo 21 .add 3 (Tm 20) (Kn 1) 3, Oo 22 (.move (Kn 0))]) (.block 0 (.loop (.seq (R0 [Bo 23 .lss 3 (Tm 22) (Tm 21) 3]) (.seq (.cond (Tm 23) .skip (.exit 0)) (.seq (.block 1 (.seq (R0 [Mv 24 22, Sg 4 24]) (.seq (.ord (.op o175_0 (.op o175_1 (.op o175_2 (.op o175_3 (.alt (.op o175_4 (.op o175_5 (.op o175_6 .done))) (.op o175_5 (.op o175_4 (.op o175_6 .done))))))))) (.block 2 (.rng (Tm 31) [32] (R0 [Sg 5 32]) (.block 3 (.seq (R0 [Ld 33 216 3, Mv 34 5, Oo 35 (.call { callee := .value (Tm 33), args := #[Tm 34], argTypes := #[33] }), Oo 36 (.unOp .not 4 (Tm 35))]) (.cond (Tm 36) .ret .skip)))))))) (R0 [Bo 37 .add 3 (Tm 22) (Kn 1) 3, Mv 22 37])))))))))⟩
theorem sf175 : sfOf Try.f175 = some s175 := by kernel_rfl
theorem hb175 : hasBody Try.prog 175 = true := by kernel_rfl
def s176 : SF := ⟨9, [.tmp 2], (.seq (R0 [Oo 2 (.assign (.const (.slice none 0 0)))]) (.seq (R0 [Mv 3 0, Mv 4 0, Lq 5 4 33, Mv 6 0, Lq 7 6 33, Oo 8 (.slice 33 (Tm 3) none (some (Tm 5)) (some (Tm 7))), Sg 2 8]) .ret))⟩
theorem sf176 : sfOf Try.f176 = some s176 := by kernel_rfl
theorem hb176 : hasBody Try.prog 176 = true := by kernel_rfl
end Go.Dw.Seat
end
section
namespace Go.Dw.Seat
open Go Go.Dw Go.Proofs Go.IntWalk
theorem qA : type_of% @DW.seq := @DW.seq
theorem qB : type_of% @DW.block := @DW.block
theorem qC : type_of% @DW.skip := @DW.skip
theorem qD : type_of% @DW.exit := @DW.exit
theorem qE : type_of% @DW.ret := @DW.ret
theorem qF : type_of% @DW.reg := @DW.reg
theorem qG : type_of% @DW.cond_tt := @DW.cond_tt
theorem qH : type_of% @DW.cond_ff := @DW.cond_ff
theorem qI : type_of% @DW.cond := @DW.cond
theorem qJ : type_of% @g_split := @g_split
theorem qK : type_of% @call_c := @call_c
theorem qL : type_of% @DW.dreg := @DW.dreg
theorem qM : type_of% @retS_of := @retS_of
theorem qN : type_of% @bm_box := @bm_box
theorem qO : type_of% @bm_row := @bm_row
theorem qP : type_of% @bk_box := @bk_box
theorem qQ : type_of% @bk_row := @bk_row
theorem qR : type_of% @wkT_cons := @wkT_cons
theorem qS : type_of% @wkX_cons := @wkX_cons
theorem qTw : type_of% @wkT_nil := @wkT_nil
theorem qU : type_of% @wkX_nil := @wkX_nil
theorem qV : type_of% @ex_some := @ex_some
theorem qW : type_of% @wk_self := @wk_self
theorem qX : type_of% @wk_top := @wk_top
theorem qY : type_of% @wk_nil := @wk_nil
theorem qZ : type_of% @wkB_self := @wkB_self
theorem rA : type_of% @Int.natCast_add := @Int.natCast_add
theorem rB : type_of% @Int.natCast_one := @Int.natCast_one
theorem rC : type_of% @Int.ofNat_zero := @Int.ofNat_zero
theorem rD : type_of% @Int.natCast_zero := @Int.natCast_zero
theorem rE : type_of% @IntWalk.i64_in := @IntWalk.i64_in
theorem rF : type_of% @List.map_cons := @List.map_cons
theorem rG : type_of% @List.map_nil := @List.map_nil
end Go.Dw.Seat
end
section
set_option linter.unusedSimpArgs false
namespace Go.Dw.Seat
open Go Go.Dw Go.Proofs Go.IntWalk
structure Cause where
 noz : Int
 kind : Int
 frm : Int
instance : DecidableEq Cause := fun a b => decidable_of_iff (a.noz = b.noz ∧ a.kind = b.kind ∧ a.frm = b.frm) (by cases a; cases b; simp)
def eC (c : Cause) : List C := [.v (.int .i64 c.noz), .v (.int .i64 c.kind), .v (.int .i64 c.frm)]
structure Look where
 box : Int
 noz : Int
 step : Int
 glue : Bool
instance : DecidableEq Look := fun a b => decidable_of_iff (a.box = b.box ∧ a.noz = b.noz ∧ a.step = b.step ∧ a.glue = b.glue) (by cases a; cases b; simp)
def eL (c : Look) : List C := [.v (.int .i64 c.box), .v (.int .i64 c.noz), .v (.int .i64 c.step), .v (.bool c.glue)]
structure Room where
 wl : Int
 wh : Int
 dl : Int
 dh : Int
instance : DecidableEq Room := fun a b => decidable_of_iff (a.wl = b.wl ∧ a.wh = b.wh ∧ a.dl = b.dl ∧ a.dh = b.dh) (by cases a; cases b; simp)
def eR (c : Room) : List C := [.v (.int .i64 c.wl), .v (.int .i64 c.wh), .v (.int .i64 c.dl), .v (.int .i64 c.dh)]
def eSb (b : Bool) (s : List Cause) : List C := [.sl b 3 (rows eC s)]
abbrev eS := eSb false
def eG (s : List Int) : List C := [.sl false 1 (rows eI s)]
structure Plan where
 steps : Int
 noz : List Int
abbrev dP (b : Bool) (p : Plan) : D := .agg [.c (.v (.int .i64 p.steps)), .c (.sl b 1 (rows eI p.noz))]
abbrev dCs (b : Bool) (l : List Cause) : D := .c (.sl b 3 (rows eC l))
abbrev dLs (b : Bool) (l : List Look) : D := .c (.sl b 4 (rows eL l))
abbrev dSs (b : Bool) (l : List (List Cause)) : D := .c (.sl b 1 (rows eS l))
theorem rowC_snocC (l : List Cause) (a b c : Int) : rowC (rows eC l) ++ [[D.c (.v (.int .i64 a)), D.c (.v (.int .i64 b)), D.c (.v (.int .i64 c))]] = rowC (rows eC (l ++ [⟨a, b, c⟩])) := by simp [rowC, rows, eC]
theorem rowC_snocL (l : List Look) (a b c : Int) (d : Bool) : rowC (rows eL l) ++ [[D.c (.v (.int .i64 a)), D.c (.v (.int .i64 b)), D.c (.v (.int .i64 c)), D.c (.v (.bool d))]] = rowC (rows eL (l ++ [⟨a, b, c, d⟩])) := by simp [rowC, rows, eL]
theorem rowC_snocS (l : List (List Cause)) (s : List Cause) : rowC (rows (eSb false) l) ++ [[D.c (.sl false 3 (rows eC s))]] = rowC (rows (eSb false) (l ++ [s])) := by simp [rowC, rows, eSb]
attribute [go_sem] rowC_snocC rowC_snocL rowC_snocS
attribute [go_sem] eC eL eR eS eSb eG dP dCs dLs dSs
end Go.Dw.Seat
end
section
set_option linter.unusedSimpArgs false
namespace Go.Dw.Seat
open Go Go.Dw Go.Proofs Go.IntWalk
theorem c122 (b : Bool) (l : List (Int)) (hl : l.length ≤ 2 ^ 36) (g : FuncId) (fs caps : List C) (p : Int → Bool) (hp : ∀ x ∈ l, DCall Try.prog g (fs.map D.c ++ [dI x] ++ caps.map D.c) [] (bD (p x)) []) : DCall Try.prog 134 [.c (.sl b 1 (rows eI l)), .c (.fn (.func g) fs caps)] [] (dI (idxI p l)) [] := by
 refine DCall.of Try.func134 sf134 hb134 (Nat.le_of_ble_eq_true rfl) (okRes_nil fun _ => rfl) ?_; simp only [s134, idxs, Nat.reduceAdd]
 repeat' (first|(with_reducible first|apply qA|apply qB|apply qC|apply qD|apply qE|apply qF)|(simp (disch:=omega) only [go_sem, simprocAttr, Blk.men, Blk.keysIn])|exact qM rfl rfl rfl|(refine qG rfl ?_)|(refine qH rfl ?_)|(refine qI rfl ?_ ?_<;>intro hc<;>(try simp only [go_sem] at hc))|(refine qJ ?_ ?_<;>intro hc<;>(try simp only [hc])<;>(try simp only [go_sem] at hc)))
 refine DW.loop (ι := { i : Nat // i ≤ l.length ∧ ∀ j u, j < i → l[j]? = some u → p u = false }) (fun i => ⟨19, [(8, dI i.1), (7, dI l.length), (1, .c (.fn (.func g) fs caps)), (0, .c (.sl b 1 (rows eI l)))], []⟩) (fun i => l.length - i.1) ⟨0, Nat.zero_le _, fun j u h => by omega⟩ ?_ ?_
 ·refine Ent.to ?_ ?_ <;> simp (disch:=omega) only [qR,qS,qTw,qU,get,Nat.reduceEqDiff,↓reduceIte,qV,qW,qX,qY,qZ,and_self,dI,i64_in,and_true,true_and,rA,rB,rC,rD]
 rintro ⟨i, hi, hij⟩
 rcases at_or l i hi with ⟨v, hv, hlt, hd⟩ | ⟨he, hd⟩
 ·have hcall := hp v (List.mem_of_getElem? hv)
  repeat' (first|(with_reducible first|apply qA|apply qB|apply qC|apply qD|apply qE|apply qF)|(simp (disch:=omega) only [go_sem, simprocAttr, Blk.men, Blk.keysIn, hd, hv, closeDs_fn, rF, rG])|exact qM rfl rfl rfl|(refine qG rfl ?_)|(refine qH rfl ?_)|(refine qI rfl ?_ ?_<;>intro hc<;>(try simp only [go_sem] at hc))|(refine qJ ?_ ?_<;>intro hc<;>(try simp only [hc])<;>(try simp only [go_sem] at hc)))
  refine call_c hcall (by decide) ?_
  simp (disch:=omega) only [go_sem,simprocAttr,Blk.men,Blk.keysIn]
  refine DW.cond rfl ?_ ?_ <;> intro hc
  ·repeat' (first|(with_reducible first|apply qA|apply qB|apply qC|apply qD|apply qE|apply qF)|(simp (disch:=omega) only [go_sem, simprocAttr, Blk.men, Blk.keysIn])|exact qM rfl rfl rfl|(refine qG rfl ?_)|(refine qH rfl ?_)|(refine qI rfl ?_ ?_<;>intro hc<;>(try simp only [go_sem] at hc))|(refine qJ ?_ ?_<;>intro hc<;>(try simp only [hc])<;>(try simp only [go_sem] at hc)))
   refine retS_of rfl ?_ rfl; simp only [oneD, St.op, get, Nat.reduceEqDiff, ↓reduceIte, Option.getD_some, bD, dI]
   simp only [idxI, idxOf_some hij hv hc]
  ·repeat' (first|(with_reducible first|apply qA|apply qB|apply qC|apply qD|apply qE|apply qF)|(simp (disch:=omega) only [go_sem, simprocAttr, Blk.men, Blk.keysIn])|exact qM rfl rfl rfl|(refine qG rfl ?_)|(refine qH rfl ?_)|(refine qI rfl ?_ ?_<;>intro hc<;>(try simp only [go_sem] at hc))|(refine qJ ?_ ?_<;>intro hc<;>(try simp only [hc])<;>(try simp only [go_sem] at hc)))
   refine ⟨⟨i + 1, by omega, fun j u hj hu => by
    rcases Nat.lt_or_ge j i with h | h
    ·exact hij j u h hu
    ·have : j = i := by omega
     subst this
     rw [hv] at hu; cases hu; exact hc⟩, ?_, Ent.to ?_ ?_⟩ <;> first | (show _ < _; (try simp only); omega) | (simp (disch:=omega) only [qR,qS,qTw,qU,get,Nat.reduceEqDiff,↓reduceIte,qV,qW,qX,qY,qZ,and_self,dI,i64_in,and_true,true_and,rA,rB,rC,rD])
 ·repeat' (first|(with_reducible first|apply qA|apply qB|apply qC|apply qD|apply qE|apply qF)|(simp (disch:=omega) only [go_sem, simprocAttr, Blk.men, Blk.keysIn, hd])|exact qM rfl rfl rfl|(refine qG rfl ?_)|(refine qH rfl ?_)|(refine qI rfl ?_ ?_<;>intro hc<;>(try simp only [go_sem] at hc))|(refine qJ ?_ ?_<;>intro hc<;>(try simp only [hc])<;>(try simp only [go_sem] at hc)))
  refine retS_of rfl ?_ rfl; simp only [oneD, St.op, get, Nat.reduceEqDiff, ↓reduceIte, Option.getD_some, bD, dI]
  simp only [idxI, idxOf_none (he ▸ hij)]
theorem c110 (b : Bool) (l : List (Int)) (hl : l.length ≤ 2 ^ 36) (g : FuncId) (fs caps : List C) (p : Int → Bool) (hp : ∀ x ∈ l, DCall Try.prog g (fs.map D.c ++ [dI x] ++ caps.map D.c) [] (bD (p x)) []) : DCall Try.prog 88 [.c (.sl b 1 (rows eI l)), .c (.fn (.func g) fs caps)] [] (bD (l.any p)) [] := by
 refine DCall.of Try.func88 sf88 hb88 (Nat.le_of_ble_eq_true rfl) (okRes_nil fun _ => rfl) ?_; simp only [s88, idxs, Nat.reduceAdd]
 repeat' (first|(with_reducible first|apply qA|apply qB|apply qC|apply qD|apply qE|apply qF)|(simp (disch:=omega) only [go_sem, simprocAttr, Blk.men, Blk.keysIn])|exact qM rfl rfl rfl|(refine qG rfl ?_)|(refine qH rfl ?_)|(refine qI rfl ?_ ?_<;>intro hc<;>(try simp only [go_sem] at hc))|(refine qJ ?_ ?_<;>intro hc<;>(try simp only [hc])<;>(try simp only [go_sem] at hc)))
 refine call_c (c122 b l hl g fs caps p hp) (by decide) ?_
 repeat' (first|(with_reducible first|apply qA|apply qB|apply qC|apply qD|apply qE|apply qF)|(simp (disch:=omega) only [go_sem, simprocAttr, Blk.men, Blk.keysIn])|exact qM rfl rfl rfl|(refine qG rfl ?_)|(refine qH rfl ?_)|(refine qI rfl ?_ ?_<;>intro hc<;>(try simp only [go_sem] at hc))|(refine qJ ?_ ?_<;>intro hc<;>(try simp only [hc])<;>(try simp only [go_sem] at hc)))
 refine retS_of rfl ?_ rfl; simp only [oneD, St.op, get, Nat.reduceEqDiff, ↓reduceIte, Option.getD_some, bD, dI]
 rw [idxI_any]
end Go.Dw.Seat
end
section
set_option linter.unusedSimpArgs false
set_option maxRecDepth 100000
namespace Go.Dw.Seat
open Go Go.Dw Go.Proofs Go.IntWalk
def wthn (lo hi : Int) (l : List Int) : Bool := !(l.any fun n => decide (n < lo) || decide (hi < n))
theorem wthn_one {lo hi n : Int} (h : wthn lo hi [n] = true) : lo ≤ n ∧ n ≤ hi := by
 simp [wthn] at h; omega
end Go.Dw.Seat
end
section
set_option linter.unusedSimpArgs false
set_option maxRecDepth 100000
namespace Go.Dw.Seat
open Go Go.Dw Go.Proofs Go.IntWalk
structure CR where
 tests : Int
 mean : Int
 low : Int
 bad : Int
abbrev dCR (r : CR) : D := .agg [dI r.tests, dI r.mean, dI r.low, dI r.bad]
structure CLot where
 off : Int
 made : Int
 ws : Int
 wb : Int
 bs : Int
 bb : Int
abbrev dLot (r : CR) (l : CLot) : D := .agg [dI r.tests, dI r.mean, dI r.low, dI r.bad, dI l.off, dI l.made, dI l.ws, dI l.wb, dI l.bs, dI l.bb]
attribute [go_sem] dCR dLot
theorem wthn_yes {lo hi : Int} {l : List Int} (h : ∀ v ∈ l, lo ≤ v ∧ v ≤ hi) : wthn lo hi l = true := by
 simp only [wthn, Bool.not_eq_true', List.any_eq_false, Bool.or_eq_true, decide_eq_true_eq]
 intro v hv
 have := h v hv
 omega
def lowT (off x : Int) : Int := if 0 < x - off then x - off else 0
def highT (off x : Int) : Int := if x + off < 100000 then x + off else 100000
def CLot.after (r : CR) (l : CLot) (x : Int) : CLot :=
 ⟨l.off, l.made + 1, l.ws + lowT l.off x, if lowT l.off x < r.low then l.wb + 1 else l.wb, l.bs + highT l.off x, if highT l.off x < r.low then l.bb + 1 else l.bb⟩
structure CLot.ok (l : CLot) : Prop where
 off : 0 ≤ l.off ∧ l.off ≤ 1000
 made : 0 ≤ l.made ∧ l.made ≤ 100
 ws : 0 ≤ l.ws ∧ l.ws ≤ 100000 * l.made
 wb : 0 ≤ l.wb ∧ l.wb ≤ l.made
 bs : 0 ≤ l.bs ∧ l.bs ≤ 100000 * l.made
 bb : 0 ≤ l.bb ∧ l.bb ≤ l.made
end Go.Dw.Seat
end
section
set_option linter.unusedSimpArgs false
set_option maxRecDepth 100000
namespace Go.Dw.Seat
open Go Go.Dw Go.Proofs Go.IntWalk
theorem mulB0 {a b A B : Int} (ha : 0 ≤ a ∧ a ≤ A) (hb : 0 ≤ b ∧ b ≤ B) : 0 ≤ a * b ∧ a * b ≤ A * B := by
 refine ⟨Int.mul_nonneg ha.1 hb.1, ?_⟩
 exact Int.le_trans (Int.mul_le_mul_of_nonneg_right ha.2 hb.1) (Int.mul_le_mul_of_nonneg_left hb.2 (Int.le_trans ha.1 ha.2))
end Go.Dw.Seat
end
section
set_option linter.unusedSimpArgs false
set_option maxRecDepth 100000
namespace Go.Dw.Seat
open Go Go.Dw Go.Proofs Go.IntWalk
theorem bdW1 (n lo hi : Int) (p q : Bool) : DCall Try.prog 121 [dI n, .c (.ro p [.v (.int .i64 lo)] 0), .c (.ro q [.v (.int .i64 hi)] 0)] [] (bD (decide (n < lo) || decide (hi < n))) [] := by
 refine DCall.of Try.func121 sf121 hb121 (Nat.le_of_ble_eq_true rfl) (okRes_nil fun _ => rfl) ?_; simp only [s121, idxs, Nat.reduceAdd]
 repeat' (first|(with_reducible first|apply qA|apply qB|apply qC|apply qD|apply qE|apply qF)|(simp (disch:=omega) only [go_sem, simprocAttr, Blk.men, Blk.keysIn])|exact qM rfl rfl rfl|(refine qG rfl ?_)|(refine qH rfl ?_)|(refine qI rfl ?_ ?_<;>intro hc<;>(try simp only [go_sem] at hc))|(refine qJ ?_ ?_<;>intro hc<;>(try simp only [hc])<;>(try simp only [go_sem] at hc)))
theorem bdWithin (b : Bool) (lo hi : Int) (l : List Int) (hl : l.length ≤ 2 ^ 36) : DCall Try.prog 71 [dI lo, dI hi, dIs b l] [] (bD (wthn lo hi l)) [] := by
 refine DCall.of Try.func71 sf71 hb71 (Nat.le_of_ble_eq_true rfl) (okRes_nil fun _ => rfl) ?_; simp only [s71, idxs, Nat.reduceAdd]
 repeat' (first|(with_reducible first|apply qA|apply qB|apply qC|apply qD|apply qE|apply qF)|(simp (disch:=omega) only [go_sem, simprocAttr, Blk.men, Blk.keysIn])|exact qM rfl rfl rfl|(refine qG rfl ?_)|(refine qH rfl ?_)|(refine qI rfl ?_ ?_<;>intro hc<;>(try simp only [go_sem] at hc))|(refine qJ ?_ ?_<;>intro hc<;>(try simp only [hc])<;>(try simp only [go_sem] at hc)))
 (refine call_c (c110 b l hl 121 [] [.ro true [.v (.int .i64 lo)] 0, .ro true [.v (.int .i64 hi)] 0] (fun n => decide (n < lo) || decide (hi < n)) (fun x _ => bdW1 x lo hi true true)) (by decide) ?_; simp (disch:=omega) only [go_sem,simprocAttr,Blk.men,Blk.keysIn])
 repeat' (first|(with_reducible first|apply qA|apply qB|apply qC|apply qD|apply qE|apply qF)|(simp (disch:=omega) only [go_sem, simprocAttr, Blk.men, Blk.keysIn])|exact qM rfl rfl rfl|(refine qG rfl ?_)|(refine qH rfl ?_)|(refine qI rfl ?_ ?_<;>intro hc<;>(try simp only [go_sem] at hc))|(refine qJ ?_ ?_<;>intro hc<;>(try simp only [hc])<;>(try simp only [go_sem] at hc)))
theorem bdIn (b : Bool) (lo hi : Int) (l : List Int) (hl : l.length ≤ 2 ^ 36) (h : ∀ v ∈ l, lo ≤ v ∧ v ≤ hi) : DCall Try.prog 71 [dI lo, dI hi, dIs b l] [] (bD true) [] := by
 have := bdWithin b lo hi l hl
 rwa [wthn_yes h] at this
structure Pap where
 kind : Int
 weight : Int
 tl : Int
 th : Int
 ml : Int
 mh : Int
 price : Int
 strong : Int
structure Flu where
 pitch : Int
 draw : Int
 hl : Int
 hh : Int
def eP (p : Pap) : List C := [.v (.int .i64 p.kind), .v (.int .i64 p.weight), .v (.int .i64 p.tl), .v (.int .i64 p.th), .v (.int .i64 p.ml), .v (.int .i64 p.mh), .v (.int .i64 p.price), .v (.int .i64 p.strong)]
def eF (f : Flu) : List C := [.v (.int .i64 f.pitch), .v (.int .i64 f.draw), .v (.int .i64 f.hl), .v (.int .i64 f.hh)]
theorem eP_nb (v : Pap) : C.nbs (eP v) = true := rfl
theorem eF_nb (v : Flu) : C.nbs (eF v) = true := rfl
structure Pap.ok (p : Pap) : Prop where
 kind : p.kind = 1 ∨ p.kind = 2
 weight : 1 ≤ p.weight ∧ p.weight ≤ 1000
 thick : 1 ≤ p.tl ∧ p.tl ≤ p.th ∧ p.th ≤ 1000
 moist : 0 ≤ p.ml ∧ p.ml ≤ p.mh ∧ p.mh ≤ 200
 price : 0 ≤ p.price ∧ p.price ≤ 1000000
 strong : 0 ≤ p.strong ∧ p.strong ≤ 10000
structure Flu.ok (f : Flu) : Prop where
 pitch : 1000 ≤ f.pitch ∧ f.pitch ≤ 10000
 draw : f.pitch ≤ f.draw ∧ f.draw ≤ 2 * f.pitch
 high : 1 ≤ f.hl ∧ f.hl ≤ f.hh ∧ f.hh ≤ 10000
structure Sto where
 papers : List Pap
 flutes : List Flu
structure Sto.ok (s : Sto) : Prop where
 np : 1 ≤ s.papers.length ∧ s.papers.length ≤ 8
 nf : 1 ≤ s.flutes.length ∧ s.flutes.length ≤ 4
 papers : ∀ p ∈ s.papers, p.ok
 flutes : ∀ f ∈ s.flutes, f.ok
abbrev dSto (s : Sto) : D := .agg [.c (.sl false 8 (rows eP s.papers)), .c (.sl false 4 (rows eF s.flutes))]
attribute [go_sem] eP eF dSto
theorem bdSpan (lo hi least most : Int) (h : least ≤ lo ∧ lo ≤ hi ∧ hi ≤ most) : DCall Try.prog 170 [.agg [dI lo, dI hi], dI least, dI most] [] (bD true) [] := by
 have h1 := bdIn true least most [lo, hi] (by simp) (by simp; omega)
 have hd : decide (lo ≤ hi) = true := decide_eq_true h.2.1
 refine DCall.of Try.func170 sf170 hb170 (Nat.le_of_ble_eq_true rfl) (okRes_nil fun _ => rfl) ?_; simp only [s170, idxs, Nat.reduceAdd]
 repeat' (first|(with_reducible first|apply qA|apply qB|apply qC|apply qD|apply qE|apply qF)|(simp (disch:=omega) only [go_sem, simprocAttr, Blk.men, Blk.keysIn, hd])|exact qM rfl rfl rfl|(refine qG rfl ?_)|(refine qK (h1) (by decide) ?_)|(refine qH rfl ?_)|(refine qI rfl ?_ ?_<;>intro hc<;>(try simp only [go_sem] at hc))|(refine qJ ?_ ?_<;>intro hc<;>(try simp only [hc])<;>(try simp only [go_sem] at hc)))
theorem bdPaper (p : Pap) (h : p.ok) : DCall Try.prog 156 [.agg ((eP p).map D.c)] [] (bD true) [] := by
 have h1 := bdIn true 1 1000 [p.weight] (by simp) (by simpa using h.weight)
 have h2 := bdSpan p.tl p.th 1 1000 h.thick
 have h3 := bdSpan p.ml p.mh 0 200 h.moist
 have h4 := bdIn true 0 1000000 [p.price] (by simp) (by simpa using h.price)
 have h5 := bdIn true 0 10000 [p.strong] (by simp) (by simpa using h.strong)
 rcases h.kind with hk | hk
 ·refine DCall.of Try.func156 sf156 hb156 (Nat.le_of_ble_eq_true rfl) (okRes_nil fun _ => rfl) ?_; simp only [s156, idxs, Nat.reduceAdd]
  repeat' (first|(with_reducible first|apply qA|apply qB|apply qC|apply qD|apply qE|apply qF)|(simp (disch:=omega) only [go_sem, simprocAttr, Blk.men, Blk.keysIn, rF, rG, hk])|exact qM rfl rfl rfl|(refine qG rfl ?_)|(refine qK (h1) (by decide) ?_)|(refine qK (h2) (by decide) ?_)|(refine qK (h3) (by decide) ?_)|(refine qK (h4) (by decide) ?_)|(refine qK (h5) (by decide) ?_)|(refine qH rfl ?_)|(refine qI rfl ?_ ?_<;>intro hc<;>(try simp only [go_sem] at hc))|(refine qJ ?_ ?_<;>intro hc<;>(try simp only [hc])<;>(try simp only [go_sem] at hc)))
 ·refine DCall.of Try.func156 sf156 hb156 (Nat.le_of_ble_eq_true rfl) (okRes_nil fun _ => rfl) ?_; simp only [s156, idxs, Nat.reduceAdd]
  repeat' (first|(with_reducible first|apply qA|apply qB|apply qC|apply qD|apply qE|apply qF)|(simp (disch:=omega) only [go_sem, simprocAttr, Blk.men, Blk.keysIn, rF, rG, hk])|exact qM rfl rfl rfl|(refine qG rfl ?_)|(refine qK (h1) (by decide) ?_)|(refine qK (h2) (by decide) ?_)|(refine qK (h3) (by decide) ?_)|(refine qK (h4) (by decide) ?_)|(refine qK (h5) (by decide) ?_)|(refine qH rfl ?_)|(refine qI rfl ?_ ?_<;>intro hc<;>(try simp only [go_sem] at hc))|(refine qJ ?_ ?_<;>intro hc<;>(try simp only [hc])<;>(try simp only [go_sem] at hc)))
theorem bdFlute (f : Flu) (h : f.ok) : DCall Try.prog 159 [.agg ((eF f).map D.c)] [] (bD true) [] := by
 have hp := h.pitch
 have h1 := bdIn true 1000 10000 [f.pitch] (by simp) (by simpa using h.pitch)
 have h2 := bdIn true f.pitch (2 * f.pitch) [f.draw] (by simp) (by simpa using h.draw)
 have h3 := bdSpan f.hl f.hh 1 10000 h.high
 refine DCall.of Try.func159 sf159 hb159 (Nat.le_of_ble_eq_true rfl) (okRes_nil fun _ => rfl) ?_; simp only [s159, idxs, Nat.reduceAdd]
 repeat' (first|(with_reducible first|apply qA|apply qB|apply qC|apply qD|apply qE|apply qF)|(simp (disch:=omega) only [go_sem, simprocAttr, Blk.men, Blk.keysIn, rF, rG])|exact qM rfl rfl rfl|(refine qG rfl ?_)|(refine qK (h1) (by decide) ?_)|(refine qK (h2) (by decide) ?_)|(refine qK (h3) (by decide) ?_)|(refine qH rfl ?_)|(refine qI rfl ?_ ?_<;>intro hc<;>(try simp only [go_sem] at hc))|(refine qJ ?_ ?_<;>intro hc<;>(try simp only [hc])<;>(try simp only [go_sem] at hc)))
theorem bdP1 (p : Pap) (h : p.ok) : DCall Try.prog 155 [.agg ((eP p).map D.c)] [] (bD false) [] := by
 have h1 := bdPaper p h
 refine DCall.of Try.func155 sf155 hb155 (Nat.le_of_ble_eq_true rfl) (okRes_nil fun _ => rfl) ?_; simp only [s155, idxs, Nat.reduceAdd]
 repeat' (first|(with_reducible first|apply qA|apply qB|apply qC|apply qD|apply qE|apply qF)|(simp (disch:=omega) only [go_sem, simprocAttr, Blk.men, Blk.keysIn, rF, rG])|exact qM rfl rfl rfl|(refine qG rfl ?_)|(refine qK (h1) (by decide) ?_)|(refine qH rfl ?_)|(refine qI rfl ?_ ?_<;>intro hc<;>(try simp only [go_sem] at hc))|(refine qJ ?_ ?_<;>intro hc<;>(try simp only [hc])<;>(try simp only [go_sem] at hc)))
theorem bdF1 (f : Flu) (h : f.ok) : DCall Try.prog 158 [.agg ((eF f).map D.c)] [] (bD false) [] := by
 have h1 := bdFlute f h
 refine DCall.of Try.func158 sf158 hb158 (Nat.le_of_ble_eq_true rfl) (okRes_nil fun _ => rfl) ?_; simp only [s158, idxs, Nat.reduceAdd]
 repeat' (first|(with_reducible first|apply qA|apply qB|apply qC|apply qD|apply qE|apply qF)|(simp (disch:=omega) only [go_sem, simprocAttr, Blk.men, Blk.keysIn, rF, rG])|exact qM rfl rfl rfl|(refine qG rfl ?_)|(refine qK (h1) (by decide) ?_)|(refine qH rfl ?_)|(refine qI rfl ?_ ?_<;>intro hc<;>(try simp only [go_sem] at hc))|(refine qJ ?_ ?_<;>intro hc<;>(try simp only [hc])<;>(try simp only [go_sem] at hc)))
theorem bdPIdx (b : Bool) (l : List Pap) (hl : l.length ≤ 2 ^ 36) (g : FuncId) (hp : ∀ x ∈ l, DCall Try.prog g [.agg ((eP x).map D.c)] [] (bD false) []) : DCall Try.prog 169 [.c (.sl b 8 (rows eP l)), .c (.fn (.func g) [] [])] [] (dI (-1)) [] := by
 refine DCall.of Try.func169 sf169 hb169 (Nat.le_of_ble_eq_true rfl) (okRes_nil fun _ => rfl) ?_; simp only [s169, idxs, Nat.reduceAdd]
 repeat' (first|(with_reducible first|apply qA|apply qB|apply qC|apply qD|apply qE|apply qF)|(simp (disch:=omega) only [go_sem, simprocAttr, Blk.men, Blk.keysIn])|exact qM rfl rfl rfl|(refine qG rfl ?_)|(refine qH rfl ?_)|(refine qI rfl ?_ ?_<;>intro hc<;>(try simp only [go_sem] at hc))|(refine qJ ?_ ?_<;>intro hc<;>(try simp only [hc])<;>(try simp only [go_sem] at hc)))
 refine DW.loop (ι := { i : Nat // i ≤ l.length }) (fun i => ⟨19, [(8, dI i.1), (7, dI l.length), (1, .c (.fn (.func g) [] [])), (0, .c (.sl b 8 (rows eP l)))], []⟩) (fun i => l.length - i.1) ⟨0, Nat.zero_le _⟩ ?_ ?_
 ·refine Ent.to ?_ ?_ <;> simp (disch:=omega) only [qR,qS,qTw,qU,get,Nat.reduceEqDiff,↓reduceIte,qV,qW,qX,qY,qZ,and_self,dI,i64_in,and_true,true_and,rA,rB,rC,rD]
 rintro ⟨i, hi⟩
 rcases at_or l i hi with ⟨v, hv, hlt, hd⟩ | ⟨he, hd⟩
 ·have hcall := hp v (List.mem_of_getElem? hv)
  repeat' (first|(with_reducible first|apply qA|apply qB|apply qC|apply qD|apply qE|apply qF)|(simp (disch:=omega) only [go_sem, simprocAttr, Blk.men, Blk.keysIn, hd, hv, closeDs_fn, rF, rG])|exact qM rfl rfl rfl|(refine qG rfl ?_)|(refine qH rfl ?_)|(refine qI rfl ?_ ?_<;>intro hc<;>(try simp only [go_sem] at hc))|(refine qJ ?_ ?_<;>intro hc<;>(try simp only [hc])<;>(try simp only [go_sem] at hc)))
  refine call_c hcall (by decide) ?_
  simp (disch:=omega) only [go_sem,simprocAttr,Blk.men,Blk.keysIn]
  repeat' (first|(with_reducible first|apply qA|apply qB|apply qC|apply qD|apply qE|apply qF)|(simp (disch:=omega) only [go_sem, simprocAttr, Blk.men, Blk.keysIn])|exact qM rfl rfl rfl|(refine qG rfl ?_)|(refine qH rfl ?_)|(refine qI rfl ?_ ?_<;>intro hc<;>(try simp only [go_sem] at hc))|(refine qJ ?_ ?_<;>intro hc<;>(try simp only [hc])<;>(try simp only [go_sem] at hc)))
  refine ⟨⟨i + 1, hlt⟩, ?_, Ent.to ?_ ?_⟩ <;> first | (show _ < _; (try simp only); omega) | (simp (disch:=omega) only [qR,qS,qTw,qU,get,Nat.reduceEqDiff,↓reduceIte,qV,qW,qX,qY,qZ,and_self,dI,i64_in,and_true,true_and,rA,rB,rC,rD])
 ·repeat' (first|(with_reducible first|apply qA|apply qB|apply qC|apply qD|apply qE|apply qF)|(simp (disch:=omega) only [go_sem, simprocAttr, Blk.men, Blk.keysIn, hd])|exact qM rfl rfl rfl|(refine qG rfl ?_)|(refine qH rfl ?_)|(refine qI rfl ?_ ?_<;>intro hc<;>(try simp only [go_sem] at hc))|(refine qJ ?_ ?_<;>intro hc<;>(try simp only [hc])<;>(try simp only [go_sem] at hc)))
theorem bdPCon (b : Bool) (l : List Pap) (hl : l.length ≤ 2 ^ 36) (g : FuncId) (hp : ∀ x ∈ l, DCall Try.prog g [.agg ((eP x).map D.c)] [] (bD false) []) : DCall Try.prog 154 [.c (.sl b 8 (rows eP l)), .c (.fn (.func g) [] [])] [] (bD false) [] := by
 refine DCall.of Try.func154 sf154 hb154 (Nat.le_of_ble_eq_true rfl) (okRes_nil fun _ => rfl) ?_; simp only [s154, idxs, Nat.reduceAdd]
 repeat' (first|(with_reducible first|apply qA|apply qB|apply qC|apply qD|apply qE|apply qF)|(simp (disch:=omega) only [go_sem, simprocAttr, Blk.men, Blk.keysIn])|exact qM rfl rfl rfl|(refine qG rfl ?_)|(refine qH rfl ?_)|(refine qI rfl ?_ ?_<;>intro hc<;>(try simp only [go_sem] at hc))|(refine qJ ?_ ?_<;>intro hc<;>(try simp only [hc])<;>(try simp only [go_sem] at hc)))
 (refine call_c (bdPIdx b l hl g hp) (by decide) ?_; simp (disch:=omega) only [go_sem,simprocAttr,Blk.men,Blk.keysIn])
 repeat' (first|(with_reducible first|apply qA|apply qB|apply qC|apply qD|apply qE|apply qF)|(simp (disch:=omega) only [go_sem, simprocAttr, Blk.men, Blk.keysIn])|exact qM rfl rfl rfl|(refine qG rfl ?_)|(refine qH rfl ?_)|(refine qI rfl ?_ ?_<;>intro hc<;>(try simp only [go_sem] at hc))|(refine qJ ?_ ?_<;>intro hc<;>(try simp only [hc])<;>(try simp only [go_sem] at hc)))
theorem bdFIdx (b : Bool) (l : List Flu) (hl : l.length ≤ 2 ^ 36) (g : FuncId) (hp : ∀ x ∈ l, DCall Try.prog g [.agg ((eF x).map D.c)] [] (bD false) []) : DCall Try.prog 171 [.c (.sl b 4 (rows eF l)), .c (.fn (.func g) [] [])] [] (dI (-1)) [] := by
 refine DCall.of Try.func171 sf171 hb171 (Nat.le_of_ble_eq_true rfl) (okRes_nil fun _ => rfl) ?_; simp only [s171, idxs, Nat.reduceAdd]
 repeat' (first|(with_reducible first|apply qA|apply qB|apply qC|apply qD|apply qE|apply qF)|(simp (disch:=omega) only [go_sem, simprocAttr, Blk.men, Blk.keysIn])|exact qM rfl rfl rfl|(refine qG rfl ?_)|(refine qH rfl ?_)|(refine qI rfl ?_ ?_<;>intro hc<;>(try simp only [go_sem] at hc))|(refine qJ ?_ ?_<;>intro hc<;>(try simp only [hc])<;>(try simp only [go_sem] at hc)))
 refine DW.loop (ι := { i : Nat // i ≤ l.length }) (fun i => ⟨19, [(8, dI i.1), (7, dI l.length), (1, .c (.fn (.func g) [] [])), (0, .c (.sl b 4 (rows eF l)))], []⟩) (fun i => l.length - i.1) ⟨0, Nat.zero_le _⟩ ?_ ?_
 ·refine Ent.to ?_ ?_ <;> simp (disch:=omega) only [qR,qS,qTw,qU,get,Nat.reduceEqDiff,↓reduceIte,qV,qW,qX,qY,qZ,and_self,dI,i64_in,and_true,true_and,rA,rB,rC,rD]
 rintro ⟨i, hi⟩
 rcases at_or l i hi with ⟨v, hv, hlt, hd⟩ | ⟨he, hd⟩
 ·have hcall := hp v (List.mem_of_getElem? hv)
  repeat' (first|(with_reducible first|apply qA|apply qB|apply qC|apply qD|apply qE|apply qF)|(simp (disch:=omega) only [go_sem, simprocAttr, Blk.men, Blk.keysIn, hd, hv, closeDs_fn, rF, rG])|exact qM rfl rfl rfl|(refine qG rfl ?_)|(refine qH rfl ?_)|(refine qI rfl ?_ ?_<;>intro hc<;>(try simp only [go_sem] at hc))|(refine qJ ?_ ?_<;>intro hc<;>(try simp only [hc])<;>(try simp only [go_sem] at hc)))
  refine call_c hcall (by decide) ?_
  simp (disch:=omega) only [go_sem,simprocAttr,Blk.men,Blk.keysIn]
  repeat' (first|(with_reducible first|apply qA|apply qB|apply qC|apply qD|apply qE|apply qF)|(simp (disch:=omega) only [go_sem, simprocAttr, Blk.men, Blk.keysIn])|exact qM rfl rfl rfl|(refine qG rfl ?_)|(refine qH rfl ?_)|(refine qI rfl ?_ ?_<;>intro hc<;>(try simp only [go_sem] at hc))|(refine qJ ?_ ?_<;>intro hc<;>(try simp only [hc])<;>(try simp only [go_sem] at hc)))
  refine ⟨⟨i + 1, hlt⟩, ?_, Ent.to ?_ ?_⟩ <;> first | (show _ < _; (try simp only); omega) | (simp (disch:=omega) only [qR,qS,qTw,qU,get,Nat.reduceEqDiff,↓reduceIte,qV,qW,qX,qY,qZ,and_self,dI,i64_in,and_true,true_and,rA,rB,rC,rD])
 ·repeat' (first|(with_reducible first|apply qA|apply qB|apply qC|apply qD|apply qE|apply qF)|(simp (disch:=omega) only [go_sem, simprocAttr, Blk.men, Blk.keysIn, hd])|exact qM rfl rfl rfl|(refine qG rfl ?_)|(refine qH rfl ?_)|(refine qI rfl ?_ ?_<;>intro hc<;>(try simp only [go_sem] at hc))|(refine qJ ?_ ?_<;>intro hc<;>(try simp only [hc])<;>(try simp only [go_sem] at hc)))
theorem bdFCon (b : Bool) (l : List Flu) (hl : l.length ≤ 2 ^ 36) (g : FuncId) (hp : ∀ x ∈ l, DCall Try.prog g [.agg ((eF x).map D.c)] [] (bD false) []) : DCall Try.prog 157 [.c (.sl b 4 (rows eF l)), .c (.fn (.func g) [] [])] [] (bD false) [] := by
 refine DCall.of Try.func157 sf157 hb157 (Nat.le_of_ble_eq_true rfl) (okRes_nil fun _ => rfl) ?_; simp only [s157, idxs, Nat.reduceAdd]
 repeat' (first|(with_reducible first|apply qA|apply qB|apply qC|apply qD|apply qE|apply qF)|(simp (disch:=omega) only [go_sem, simprocAttr, Blk.men, Blk.keysIn])|exact qM rfl rfl rfl|(refine qG rfl ?_)|(refine qH rfl ?_)|(refine qI rfl ?_ ?_<;>intro hc<;>(try simp only [go_sem] at hc))|(refine qJ ?_ ?_<;>intro hc<;>(try simp only [hc])<;>(try simp only [go_sem] at hc)))
 (refine call_c (bdFIdx b l hl g hp) (by decide) ?_; simp (disch:=omega) only [go_sem,simprocAttr,Blk.men,Blk.keysIn])
 repeat' (first|(with_reducible first|apply qA|apply qB|apply qC|apply qD|apply qE|apply qF)|(simp (disch:=omega) only [go_sem, simprocAttr, Blk.men, Blk.keysIn])|exact qM rfl rfl rfl|(refine qG rfl ?_)|(refine qH rfl ?_)|(refine qI rfl ?_ ?_<;>intro hc<;>(try simp only [go_sem] at hc))|(refine qJ ?_ ?_<;>intro hc<;>(try simp only [hc])<;>(try simp only [go_sem] at hc)))
theorem bdCheck (s : Sto) (h : s.ok) : DCall Try.prog 128 [dSto s] [] (dI 0) [] := by
 have hp := h.np
 have hf := h.nf
 have h1 := bdPCon false s.papers (by omega) 155 (fun p hp => bdP1 p (h.papers p hp))
 have h2 := bdFCon false s.flutes (by omega) 158 (fun f hf => bdF1 f (h.flutes f hf))
 have d1 : decide ((8 : Int) < (s.papers.length : Int)) = false := by rw [decide_eq_false_iff_not]; omega
 have d2 : decide ((4 : Int) < (s.flutes.length : Int)) = false := by rw [decide_eq_false_iff_not]; omega
 have d3 : ((s.papers.length : Int) == 0) = false := by rw [beq_eq_false_iff_ne]; omega
 have d4 : ((s.flutes.length : Int) == 0) = false := by rw [beq_eq_false_iff_ne]; omega
 refine DCall.of Try.func128 sf128 hb128 (Nat.le_of_ble_eq_true rfl) (okRes_nil fun _ => rfl) ?_; simp only [s128, idxs, Nat.reduceAdd]
 repeat' (first|(with_reducible first|apply qA|apply qB|apply qC|apply qD|apply qE|apply qF)|(simp (disch:=omega) only [go_sem, simprocAttr, Blk.men, Blk.keysIn, d1, d2, d3, d4])|exact qM rfl rfl rfl|(refine qG rfl ?_)|(refine qK (h1) (by decide) ?_)|(refine qK (h2) (by decide) ?_)|(refine qH rfl ?_)|(refine qI rfl ?_ ?_<;>intro hc<;>(try simp only [go_sem] at hc))|(refine qJ ?_ ?_<;>intro hc<;>(try simp only [hc])<;>(try simp only [go_sem] at hc)))
structure Mak where
 papers : List Nat
 flutes : List Nat
abbrev dMak (m : Mak) : D := .agg [.c (.sl false 1 (rows eI (nL m.papers))), .c (.sl false 1 (rows eI (nL m.flutes)))]
attribute [go_sem] dMak
structure Mak.ok (m : Mak) (s : Sto) : Prop where
 nf : 1 ≤ m.flutes.length ∧ m.flutes.length ≤ 2
 np : m.papers.length = 2 * m.flutes.length + 1
 papers : ∀ n ∈ m.papers, n < s.papers.length
 flutes : ∀ n ∈ m.flutes, n < s.flutes.length
 kind : ∀ (i n : Nat) (p : Pap), m.papers[i]? = some n → s.papers[n]? = some p → p.kind = if i % 2 = 0 then 1 else 2
def kindsL : Nat → List Int
 | 0 => [1]
 | n + 1 => kindsL n ++ [2, 1]
theorem kindsL_len : ∀ n, (kindsL n).length = 2 * n + 1
 | 0 => rfl
 | n + 1 => by rw [kindsL, List.length_append, kindsL_len n]; simp; omega
theorem kindsL_get : ∀ n i, i < 2 * n + 1 → (kindsL n)[i]? = some (if i % 2 = 0 then 1 else 2)
 | 0, i, h => by
  obtain rfl : i = 0 := by omega
  rfl
 | n + 1, i, h => by
  rw [kindsL]
  rcases Nat.lt_or_ge i (2 * n + 1) with h1 | h1
  ·rw [List.getElem?_append_left (by rw [kindsL_len]; omega)]
   exact kindsL_get n i h1
  ·rw [List.getElem?_append_right (by rw [kindsL_len]; omega), kindsL_len]
   rcases (by omega : i = 2 * n + 1 ∨ i = 2 * n + 2) with rfl | rfl
   ·rw [if_neg (by omega)]; simp
   ·rw [if_pos (by omega)]; simp
theorem snoc2 (l : List Int) (a b : Int) : rowC (rows eI l) ++ [[D.c (.v (.int .i64 a))], [D.c (.v (.int .i64 b))]] = rowC (rows eI (l ++ [a, b])) := by simp [rowC, rows, eI]
theorem bdKinds (n : Nat) (hn : n ≤ 1000) : DCall Try.prog 130 [dI n] [] (dIs false (kindsL n)) [] := by
 refine DCall.of Try.func130 sf130 hb130 (Nat.le_of_ble_eq_true rfl) (okRes_nil fun _ => rfl) ?_; simp only [s130, idxs, Nat.reduceAdd]
 repeat' (first|(with_reducible first|apply qA|apply qB|apply qC|apply qD|apply qE|apply qF)|(simp (disch:=omega) only [go_sem, simprocAttr, Blk.men, Blk.keysIn])|exact qM rfl rfl rfl|(refine qG rfl ?_)|(refine qH rfl ?_)|(refine qI rfl ?_ ?_<;>intro hc<;>(try simp only [go_sem] at hc))|(refine qJ ?_ ?_<;>intro hc<;>(try simp only [hc])<;>(try simp only [go_sem] at hc)))
 refine DW.loop (ι := { i : Nat // i ≤ n }) (fun i => ⟨13, [(6, dI i.1), (5, dI n), (3, .own 4)], [(4, .row 1 (rowC (rows eI (kindsL i.1))))]⟩) (fun i => n - i.1) ⟨0, Nat.zero_le _⟩ ?_ ?_
 ·refine Ent.to ?_ ?_ <;> simp (disch:=omega) only [qR,qS,qTw,qU,get,Nat.reduceEqDiff,↓reduceIte,qV,qW,qX,qY,qZ,and_self,dI,i64_in,and_true,true_and,rA,rB,rC,rD]
  exact .refl _
 rintro ⟨i, hi⟩
 rcases Nat.lt_or_ge i n with hlt | hge
 ·have hd : decide ((i : Int) < (n : Int)) = true := by rw [decide_eq_true_eq]; omega
  have hl := kindsL_len i
  have hs : kindsL (i + 1) = kindsL i ++ [2, 1] := rfl
  generalize kindsL i = k at *
  repeat' (first|(with_reducible first|apply qA|apply qB|apply qC|apply qD|apply qE|apply qF)|(simp (disch:=omega) only [go_sem, simprocAttr, Blk.men, Blk.keysIn, hd, snoc2])|exact qM rfl rfl rfl|(refine qG rfl ?_)|(refine qH rfl ?_)|(refine qI rfl ?_ ?_<;>intro hc<;>(try simp only [go_sem] at hc))|(refine qJ ?_ ?_<;>intro hc<;>(try simp only [hc])<;>(try simp only [go_sem] at hc)))
  refine ⟨⟨i + 1, hlt⟩, ?_, Ent.to ?_ ?_⟩ <;> first | (show _ < _; (try simp only); omega) | (simp (disch:=omega) only [qR,qS,qTw,qU,get,Nat.reduceEqDiff,↓reduceIte,qV,qW,qX,qY,qZ,and_self,dI,i64_in,and_true,true_and,rA,rB,rC,rD, hs])
  all_goals exact .refl _
 ·obtain rfl : i = n := by omega
  have hd : decide ((i : Int) < (i : Int)) = false := by rw [decide_eq_false_iff_not]; omega
  repeat' (first|(with_reducible first|apply qA|apply qB|apply qC|apply qD|apply qE|apply qF)|(simp (disch:=omega) only [go_sem, simprocAttr, Blk.men, Blk.keysIn, hd])|exact qM rfl rfl rfl|(refine qG rfl ?_)|(refine qH rfl ?_)|(refine qI rfl ?_ ?_<;>intro hc<;>(try simp only [go_sem] at hc))|(refine qJ ?_ ?_<;>intro hc<;>(try simp only [hc])<;>(try simp only [go_sem] at hc)))
  (refine retS_ent (Ent.rel 4 rfl) ?_; simp (disch:=omega) only [go_sem,simprocAttr,Blk.men,Blk.keysIn])
  refine retS_wk rfl ?_ (by simp only [Blk.nb, rowC_nb, D.nb, D.nbs, C.nb, C.nbs, C.nbss, rows_nb eI_nb, Bool.and_true, Bool.not_false, Bool.and_self, bD, dI, iD, rows_nb eP_nb, rows_nb eF_nb]); exact .refl _
end Go.Dw.Seat
end
section
set_option linter.unusedSimpArgs false
set_option maxRecDepth 100000
namespace Go.Dw.Seat
open Go Go.Dw Go.Proofs Go.IntWalk
def GrowC : Prop := ∀ n k : Nat, 1 ≤ n ∧ n ≤ 68719476736 → DCall Try.prog 138 [.c (.v (.slice none 0 0)), dI n] [] (.own k) [(k, .row 1 [])]
end Go.Dw.Seat
end
section
set_option linter.unusedSimpArgs false
set_option maxRecDepth 100000
namespace Go.Dw.Seat
open Go Go.Dw Go.Proofs Go.IntWalk Go.Shelf
shelf_lay_g Lays8.n4 Nm8 4 at Try 138 as tryGrow
theorem grow_t : tryGrow_ren.t 25 = 3 := by kernel_rfl
theorem grow_f : tryGrow_ren.f 4 = 138 := by kernel_rfl
theorem grow_i : (Try.prog.info? 3).map (fun i => (i.size, i.zero, i.bytes)) = some (1, some (.int .i64 0), 8) := by kernel_rfl
theorem grow_call (n : Nat) (hn : 1 ≤ n ∧ n ≤ 68719476736) (w : World) : ∃ c cells, Calls Try.prog 138 #[.slice none 0 0, .int .i64 n] w fun e w' => e = .returned (.slice (some ⟨w.heap.size, 0, none⟩) 0 c) ∧ w' = w.drew.alloc (.cells cells 3) ∧ cells.size = c := by
 cases hi : Try.prog.info? 3 with
 | none => have h := grow_i; rw [hi] at h; cases h
 | some i0 =>
  have h := grow_i
  rw [hi] at h
  simp only [Option.map_some, Option.some.injEq, Prod.mk.injEq] at h
  obtain ⟨h1, h2, h3⟩ := h
  have hi' : Try.prog.info? (tryGrow_ren.t 25) = some i0 := by rw [grow_t]; exact hi
  have hc := Any8.slices_Grow_grow tryGrow i0 (.int .i64 0) hi' h2 (by omega) none 0 0 n [] w (Nat.le_refl _) (by omega) (by rw [h3]; omega) (by omega) (by rw [Nat.zero_mul]; rfl) (fun _ => rfl) (fun a ha => by cases ha)
  rw [grow_f, grow_t] at hc
  have hg := grownCap_ge w (0 + n) 0 3
  refine ⟨_, _, Calls.mono hc fun e w' he => ⟨he.1, he.2, ?_⟩⟩
  rw [Nat.zero_add] at hg ⊢
  simp [Builtin.zeroCells, Value.cells]
  omega
theorem get_one (k : Nat) (x : Blk) (j : Nat) : Go.Dw.get j [(k, x)] = if j = k then some x else none := by
 simp only [Go.Dw.get]
theorem scGrow : GrowC := by
 intro n k hn
 refine ⟨hb138, ?_, fun N G w vs hN hd hh hvs => ?_⟩
 ·refine ⟨fun j hj => ?_, fun j x hx i hi => ?_⟩
  ·rw [get_one] at hj
   show (k == j) = false
   split at hj
   ·cases hj
   ·simp; omega
  ·rw [get_one] at hx
   split at hx
   ·cases hx; rfl
   ·cases hx
 ·obtain ⟨_, _, rfl, e1, _, _, rfl, e2, rfl⟩ := hvs
  obtain ⟨rfl, -⟩ := e1
  obtain ⟨rfl, -⟩ := e2
  obtain ⟨c, cells, hc⟩ := grow_call n hn w
  refine Calls.mono hc ?_
  rintro e w' ⟨rfl, rfl, hs⟩
  refine ⟨G.set k (some w.heap.size) (.slice (some ⟨w.heap.size, 0, none⟩) 0 c), _, rfl, ⟨?_, ?_, ?_, ?_⟩, ?_, ?_, ?_⟩
  ·intro j x hx
   rw [get_one] at hx
   split at hx
   ·rename_i h
    subst h
    cases hx
    refine ⟨fun e he => (by cases he), .inr ⟨w.heap.size, cells, 3, c, by simp [Gh.set], ?_, by simp [Gh.set], Nat.zero_le _, by omega, ?_⟩⟩
    ·exact heap_alloc_new w.drew _
    ·simp [RepDs]
   ·cases hx
  ·intro j j' x x' b h1 h2 _ _
   rw [get_one] at h1 h2
   split at h1 <;> split at h2 <;> simp_all
  ·rintro b ⟨j, x, hx, hb⟩
   rw [get_one] at hx
   split at hx
   ·rename_i h
    subst h
    simp only [Gh.set, if_true, Option.some.injEq] at hb
    subst hb
    exact (Array.getElem?_eq_some_iff.1 (heap_alloc_new w.drew (.cells cells 3))).1
   ·cases hx
  ·exact fun _ hp => nomatch hp
  ·simp [RepD, Gh.set]
  ·exact ⟨rfl, rfl, rfl, Nat.le_of_lt (Array.getElem?_eq_some_iff.1 (heap_alloc_new w.drew (.cells cells 3))).1, fun b hb _ => heap_alloc_lt w.drew _ hb⟩
  ·rintro b ⟨j, x, hx, hb⟩
   rw [get_one] at hx
   split at hx
   ·rename_i h
    subst h
    simp only [Gh.set, if_true, Option.some.injEq] at hb
    subst hb
    exact .inr (Nat.le_refl _)
   ·cases hx
end Go.Dw.Seat
end
section
set_option linter.unusedSimpArgs false
set_option maxRecDepth 100000
namespace Go.Dw.Seat
open Go Go.Dw Go.Proofs Go.IntWalk
theorem wthn_ok {lo hi : Int} {l : List Int} (h : ∀ v ∈ l, lo ≤ v ∧ v ≤ hi) : wthn lo hi l = true := by
 simp only [wthn, Bool.not_eq_true', List.any_eq_false, Bool.or_eq_true, decide_eq_true_eq]
 intro v hv
 have := h v hv
 omega
def eT (t : Int × Int) : List C := [.v (.int .i64 t.1), .v (.int .i64 t.2)]
attribute [go_sem] eT
structure Quote where
 area : Int
 board : Int
 waste : Int
 tool : Int
 setup : Int
 run : Int
 work : Int
 pallet : Int
 freight : Int
 margin : Int
 steps : List (Int × Int)
abbrev dQ (b : Bool) (q : Quote) : D := .agg [dI q.area, dI q.board, dI q.waste, dI q.tool, dI q.setup, dI q.run, dI q.work, dI q.pallet, dI q.freight, dI q.margin, .c (.sl b 2 (rows eT q.steps))]
attribute [go_sem] dQ
structure Quote.ok (q : Quote) : Prop where
 area : 1 ≤ q.area ∧ q.area ≤ 100000
 board : 0 ≤ q.board ∧ q.board ≤ 100000
 waste : 0 ≤ q.waste ∧ q.waste ≤ 500
 tool : 0 ≤ q.tool ∧ q.tool ≤ 1000000
 setup : 0 ≤ q.setup ∧ q.setup ≤ 1000000
 run : 1 ≤ q.run ∧ q.run ≤ 100000
 work : 0 ≤ q.work ∧ q.work ≤ 1000000
 pallet : 1 ≤ q.pallet ∧ q.pallet ≤ 100000
 freight : 0 ≤ q.freight ∧ q.freight ≤ 1000000
 margin : 0 ≤ q.margin ∧ q.margin ≤ 1000
 len : q.steps.length ≤ 6
 steps : ∀ s ∈ q.steps, (1 ≤ s.1 ∧ s.1 ≤ 100000) ∧ (0 ≤ s.2 ∧ s.2 ≤ 900)
 asc : q.steps.Pairwise (fun a b => a.1 < b.1)
end Go.Dw.Seat
end
