/- Helpers of a proof. -/
import Derived.Test.YtkhicfkfdmldkaaW40
import Derived.Test.YtkhicfkfdmldkaaProg
set_option linter.unusedVariables false
set_option linter.unusedSimpArgs false
section
namespace Go.Dw.Seat
open Go Go.Dw Go.Proofs
instance laysI : Lays := ⟨[]⟩
theorem laid0 (W : World) : LaidA (fun _ => False) W := fun _ hp => nomatch hp
theorem el0 : elemI Try.prog 0 = none := by kernel_rfl
theorem ty1 : tyI Try.prog 1 = some ⟨false, 1, [.nilFunc], 8⟩ := by kernel_rfl
theorem el1 : elemI Try.prog 1 = none := by kernel_rfl
theorem ty2 : tyI Try.prog 2 = some ⟨false, 1, [(.int .i64 0)], 8⟩ := by kernel_rfl
theorem el2 : elemI Try.prog 2 = none := by kernel_rfl
theorem it2 : intI Try.prog 2 = some .i64 := by kernel_rfl
theorem ty3 : tyI Try.prog 3 = some ⟨false, 1, [(.int .i64 0)], 8⟩ := by kernel_rfl
theorem el3 : elemI Try.prog 3 = none := by kernel_rfl
theorem it3 : intI Try.prog 3 = some .i64 := by kernel_rfl
theorem ty4 : tyI Try.prog 4 = some ⟨false, 1, [(.bool false)], 1⟩ := by kernel_rfl
theorem el4 : elemI Try.prog 4 = none := by kernel_rfl
theorem bl4 : blI Try.prog 4 = true := by kernel_rfl
theorem ty5 : tyI Try.prog 5 = some ⟨false, 1, [(.int .u8 0)], 1⟩ := by kernel_rfl
theorem el5 : elemI Try.prog 5 = none := by kernel_rfl
theorem it5 : intI Try.prog 5 = some .u8 := by kernel_rfl
theorem ty6 : tyI Try.prog 6 = some ⟨false, 1, [(.int .u8 0)], 1⟩ := by kernel_rfl
theorem el6 : elemI Try.prog 6 = none := by kernel_rfl
theorem it6 : intI Try.prog 6 = some .u8 := by kernel_rfl
theorem ty7 : tyI Try.prog 7 = some ⟨true, 4, [(.int .i64 0), (.int .i64 0), (.bool false), (.int .u8 0)], 24⟩ := by kernel_rfl
theorem el7 : elemI Try.prog 7 = none := by kernel_rfl
theorem eq7 : eqTy Try.prog 7 = some (.st [(0, 1, .it), (1, 1, .it), (2, 1, .bl), (3, 1, .it)]) := by kernel_rfl
theorem pl7 : placesI Try.prog 7 = some [(0, 1), (1, 1), (2, 1), (3, 1)] := by kernel_rfl
theorem fi7_0 : fieldI Try.prog 7 0 = some (0, 1, false) := by kernel_rfl
theorem fi7_1 : fieldI Try.prog 7 1 = some (1, 1, false) := by kernel_rfl
theorem fi7_2 : fieldI Try.prog 7 2 = some (2, 1, false) := by kernel_rfl
theorem fi7_3 : fieldI Try.prog 7 3 = some (3, 1, false) := by kernel_rfl
theorem ty8 : tyI Try.prog 8 = some ⟨true, 4, [(.int .i64 0), (.int .i64 0), (.bool false), (.int .u8 0)], 24⟩ := by kernel_rfl
theorem el8 : elemI Try.prog 8 = none := by kernel_rfl
theorem eq8 : eqTy Try.prog 8 = some (.st [(0, 1, .it), (1, 1, .it), (2, 1, .bl), (3, 1, .it)]) := by kernel_rfl
theorem pl8 : placesI Try.prog 8 = some [(0, 1), (1, 1), (2, 1), (3, 1)] := by kernel_rfl
theorem fi8_0 : fieldI Try.prog 8 0 = some (0, 1, false) := by kernel_rfl
theorem fi8_1 : fieldI Try.prog 8 1 = some (1, 1, false) := by kernel_rfl
theorem fi8_2 : fieldI Try.prog 8 2 = some (2, 1, false) := by kernel_rfl
theorem fi8_3 : fieldI Try.prog 8 3 = some (3, 1, false) := by kernel_rfl
theorem ty9 : tyI Try.prog 9 = some ⟨false, 1, [(.string ⟨#[]⟩)], 16⟩ := by kernel_rfl
theorem el9 : elemI Try.prog 9 = none := by kernel_rfl
theorem ty10 : tyI Try.prog 10 = some ⟨false, 1, [(.string ⟨#[]⟩)], 16⟩ := by kernel_rfl
theorem el10 : elemI Try.prog 10 = none := by kernel_rfl
theorem ty11 : tyI Try.prog 11 = some ⟨false, 1, [(.string ⟨#[]⟩)], 16⟩ := by kernel_rfl
theorem el11 : elemI Try.prog 11 = none := by kernel_rfl
theorem ty12 : tyI Try.prog 12 = some ⟨false, 1, [(.int .u64 0)], 8⟩ := by kernel_rfl
theorem el12 : elemI Try.prog 12 = none := by kernel_rfl
theorem it12 : intI Try.prog 12 = some .u64 := by kernel_rfl
theorem ty13 : tyI Try.prog 13 = some ⟨true, 2, [(.string ⟨#[]⟩), (.int .u64 0)], 24⟩ := by kernel_rfl
theorem el13 : elemI Try.prog 13 = none := by kernel_rfl
theorem pl13 : placesI Try.prog 13 = some [(0, 1), (1, 1)] := by kernel_rfl
theorem fi13_0 : fieldI Try.prog 13 0 = some (0, 1, false) := by kernel_rfl
theorem fi13_1 : fieldI Try.prog 13 1 = some (1, 1, false) := by kernel_rfl
theorem ty14 : tyI Try.prog 14 = some ⟨true, 2, [(.string ⟨#[]⟩), (.int .u64 0)], 24⟩ := by kernel_rfl
theorem el14 : elemI Try.prog 14 = none := by kernel_rfl
theorem pl14 : placesI Try.prog 14 = some [(0, 1), (1, 1)] := by kernel_rfl
theorem fi14_0 : fieldI Try.prog 14 0 = some (0, 1, false) := by kernel_rfl
theorem fi14_1 : fieldI Try.prog 14 1 = some (1, 1, false) := by kernel_rfl
theorem ty15 : tyI Try.prog 15 = some ⟨false, 1, [(.pointer none)], 8⟩ := by kernel_rfl
theorem el15 : elemI Try.prog 15 = none := by kernel_rfl
theorem ty16 : tyI Try.prog 16 = some ⟨false, 1, [(.pointer none)], 8⟩ := by kernel_rfl
theorem el16 : elemI Try.prog 16 = none := by kernel_rfl
theorem ty17 : tyI Try.prog 17 = some ⟨false, 1, [(.pointer none)], 8⟩ := by kernel_rfl
theorem el17 : elemI Try.prog 17 = none := by kernel_rfl
theorem ty18 : tyI Try.prog 18 = some ⟨true, 1, [(.pointer none)], 8⟩ := by kernel_rfl
theorem el18 : elemI Try.prog 18 = none := by kernel_rfl
theorem pl18 : placesI Try.prog 18 = some [(0, 1)] := by kernel_rfl
theorem fi18_0 : fieldI Try.prog 18 0 = some (0, 1, false) := by kernel_rfl
theorem ty19 : tyI Try.prog 19 = some ⟨true, 1, [(.pointer none)], 8⟩ := by kernel_rfl
theorem el19 : elemI Try.prog 19 = none := by kernel_rfl
theorem pl19 : placesI Try.prog 19 = some [(0, 1)] := by kernel_rfl
theorem fi19_0 : fieldI Try.prog 19 0 = some (0, 1, false) := by kernel_rfl
theorem ty20 : tyI Try.prog 20 = some ⟨false, 1, [.nilIface], 16⟩ := by kernel_rfl
theorem el20 : elemI Try.prog 20 = none := by kernel_rfl
theorem ty21 : tyI Try.prog 21 = some ⟨false, 1, [(.int .i32 0)], 4⟩ := by kernel_rfl
theorem el21 : elemI Try.prog 21 = none := by kernel_rfl
theorem it21 : intI Try.prog 21 = some .i32 := by kernel_rfl
theorem ty22 : tyI Try.prog 22 = some ⟨false, 1, [(.slice none 0 0)], 24⟩ := by kernel_rfl
theorem el22 : elemI Try.prog 22 = some 3 := by kernel_rfl
theorem ty23 : tyI Try.prog 23 = some ⟨false, 1, [.nilFunc], 8⟩ := by kernel_rfl
theorem el23 : elemI Try.prog 23 = none := by kernel_rfl
theorem ty24 : tyI Try.prog 24 = some ⟨false, 1, [.nilFunc], 8⟩ := by kernel_rfl
theorem el24 : elemI Try.prog 24 = none := by kernel_rfl
theorem ty25 : tyI Try.prog 25 = some ⟨false, 1, [(.int .i64 0)], 8⟩ := by kernel_rfl
theorem el25 : elemI Try.prog 25 = none := by kernel_rfl
theorem it25 : intI Try.prog 25 = some .i64 := by kernel_rfl
theorem el26 : elemI Try.prog 26 = none := by kernel_rfl
theorem ty27 : tyI Try.prog 27 = some ⟨false, 1, [.nilFunc], 8⟩ := by kernel_rfl
theorem el27 : elemI Try.prog 27 = none := by kernel_rfl
theorem ty28 : tyI Try.prog 28 = some ⟨false, 1, [.nilFunc], 8⟩ := by kernel_rfl
theorem el28 : elemI Try.prog 28 = none := by kernel_rfl
theorem ty29 : tyI Try.prog 29 = some ⟨false, 1, [.nilFunc], 8⟩ := by kernel_rfl
theorem el29 : elemI Try.prog 29 = none := by kernel_rfl
theorem ty30 : tyI Try.prog 30 = some ⟨false, 1, [.nilFunc], 8⟩ := by kernel_rfl
theorem el30 : elemI Try.prog 30 = none := by kernel_rfl
theorem ty31 : tyI Try.prog 31 = some ⟨true, 2, [(.int .i64 0), (.int .i64 0)], 16⟩ := by kernel_rfl
theorem el31 : elemI Try.prog 31 = none := by kernel_rfl
theorem eq31 : eqTy Try.prog 31 = some (.st [(0, 1, .it), (1, 1, .it)]) := by kernel_rfl
theorem pl31 : placesI Try.prog 31 = some [(0, 1), (1, 1)] := by kernel_rfl
theorem fi31_0 : fieldI Try.prog 31 0 = some (0, 1, false) := by kernel_rfl
theorem fi31_1 : fieldI Try.prog 31 1 = some (1, 1, false) := by kernel_rfl
theorem ty32 : tyI Try.prog 32 = some ⟨true, 2, [(.int .i64 0), (.int .i64 0)], 16⟩ := by kernel_rfl
theorem el32 : elemI Try.prog 32 = none := by kernel_rfl
theorem eq32 : eqTy Try.prog 32 = some (.st [(0, 1, .it), (1, 1, .it)]) := by kernel_rfl
theorem pl32 : placesI Try.prog 32 = some [(0, 1), (1, 1)] := by kernel_rfl
theorem fi32_0 : fieldI Try.prog 32 0 = some (0, 1, false) := by kernel_rfl
theorem fi32_1 : fieldI Try.prog 32 1 = some (1, 1, false) := by kernel_rfl
theorem ty33 : tyI Try.prog 33 = some ⟨true, 4, [(.int .i64 0), (.int .i64 0), (.int .i64 0), (.int .i64 0)], 32⟩ := by kernel_rfl
theorem el33 : elemI Try.prog 33 = none := by kernel_rfl
theorem eq33 : eqTy Try.prog 33 = some (.st [(0, 1, .it), (1, 2, (.st [(0, 1, .it), (1, 1, .it)])), (3, 1, .it)]) := by kernel_rfl
theorem pl33 : placesI Try.prog 33 = some [(0, 1), (1, 2), (3, 1)] := by kernel_rfl
theorem fi33_0 : fieldI Try.prog 33 0 = some (0, 1, false) := by kernel_rfl
theorem fi33_1 : fieldI Try.prog 33 1 = some (1, 2, true) := by kernel_rfl
theorem fi33_2 : fieldI Try.prog 33 2 = some (3, 1, false) := by kernel_rfl
theorem ty34 : tyI Try.prog 34 = some ⟨true, 4, [(.int .i64 0), (.int .i64 0), (.int .i64 0), (.int .i64 0)], 32⟩ := by kernel_rfl
theorem el34 : elemI Try.prog 34 = none := by kernel_rfl
theorem eq34 : eqTy Try.prog 34 = some (.st [(0, 1, .it), (1, 2, (.st [(0, 1, .it), (1, 1, .it)])), (3, 1, .it)]) := by kernel_rfl
theorem pl34 : placesI Try.prog 34 = some [(0, 1), (1, 2), (3, 1)] := by kernel_rfl
theorem fi34_0 : fieldI Try.prog 34 0 = some (0, 1, false) := by kernel_rfl
theorem fi34_1 : fieldI Try.prog 34 1 = some (1, 2, true) := by kernel_rfl
theorem fi34_2 : fieldI Try.prog 34 2 = some (3, 1, false) := by kernel_rfl
theorem ty35 : tyI Try.prog 35 = some ⟨false, 1, [(.slice none 0 0)], 24⟩ := by kernel_rfl
theorem el35 : elemI Try.prog 35 = some 85 := by kernel_rfl
theorem ty36 : tyI Try.prog 36 = some ⟨false, 1, [(.slice none 0 0)], 24⟩ := by kernel_rfl
theorem el36 : elemI Try.prog 36 = some 100 := by kernel_rfl
theorem ty37 : tyI Try.prog 37 = some ⟨false, 1, [.nilFunc], 8⟩ := by kernel_rfl
theorem el37 : elemI Try.prog 37 = none := by kernel_rfl
theorem ty38 : tyI Try.prog 38 = some ⟨false, 1, [.nilFunc], 8⟩ := by kernel_rfl
theorem el38 : elemI Try.prog 38 = none := by kernel_rfl
theorem ty39 : tyI Try.prog 39 = some ⟨false, 1, [.nilFunc], 8⟩ := by kernel_rfl
theorem el39 : elemI Try.prog 39 = none := by kernel_rfl
theorem el40 : elemI Try.prog 40 = none := by kernel_rfl
theorem ty41 : tyI Try.prog 41 = some ⟨false, 1, [.nilFunc], 8⟩ := by kernel_rfl
theorem el41 : elemI Try.prog 41 = none := by kernel_rfl
theorem ty42 : tyI Try.prog 42 = some ⟨false, 1, [.nilFunc], 8⟩ := by kernel_rfl
theorem el42 : elemI Try.prog 42 = none := by kernel_rfl
theorem ty43 : tyI Try.prog 43 = some ⟨false, 1, [.nilFunc], 8⟩ := by kernel_rfl
theorem el43 : elemI Try.prog 43 = none := by kernel_rfl
theorem ty44 : tyI Try.prog 44 = some ⟨false, 1, [.nilFunc], 8⟩ := by kernel_rfl
theorem el44 : elemI Try.prog 44 = none := by kernel_rfl
theorem ty45 : tyI Try.prog 45 = some ⟨false, 1, [.nilFunc], 8⟩ := by kernel_rfl
theorem el45 : elemI Try.prog 45 = none := by kernel_rfl
theorem el46 : elemI Try.prog 46 = none := by kernel_rfl
theorem ty47 : tyI Try.prog 47 = some ⟨false, 1, [.nilFunc], 8⟩ := by kernel_rfl
theorem el47 : elemI Try.prog 47 = none := by kernel_rfl
theorem ty48 : tyI Try.prog 48 = some ⟨false, 1, [.nilFunc], 8⟩ := by kernel_rfl
theorem el48 : elemI Try.prog 48 = none := by kernel_rfl
theorem ty49 : tyI Try.prog 49 = some ⟨false, 1, [.nilFunc], 8⟩ := by kernel_rfl
theorem el49 : elemI Try.prog 49 = none := by kernel_rfl
theorem el50 : elemI Try.prog 50 = none := by kernel_rfl
theorem ty51 : tyI Try.prog 51 = some ⟨false, 1, [.nilFunc], 8⟩ := by kernel_rfl
theorem el51 : elemI Try.prog 51 = none := by kernel_rfl
theorem el52 : elemI Try.prog 52 = none := by kernel_rfl
theorem ty53 : tyI Try.prog 53 = some ⟨false, 1, [.nilFunc], 8⟩ := by kernel_rfl
theorem el53 : elemI Try.prog 53 = none := by kernel_rfl
theorem el54 : elemI Try.prog 54 = none := by kernel_rfl
theorem ty55 : tyI Try.prog 55 = some ⟨false, 1, [.nilFunc], 8⟩ := by kernel_rfl
theorem el55 : elemI Try.prog 55 = none := by kernel_rfl
theorem ty56 : tyI Try.prog 56 = some ⟨true, 2, [(.slice none 0 0), (.bool false)], 32⟩ := by kernel_rfl
theorem el56 : elemI Try.prog 56 = none := by kernel_rfl
theorem pl56 : placesI Try.prog 56 = some [(0, 1), (1, 1)] := by kernel_rfl
theorem fi56_0 : fieldI Try.prog 56 0 = some (0, 1, false) := by kernel_rfl
theorem fi56_1 : fieldI Try.prog 56 1 = some (1, 1, false) := by kernel_rfl
theorem ty57 : tyI Try.prog 57 = some ⟨true, 2, [(.slice none 0 0), (.bool false)], 32⟩ := by kernel_rfl
theorem el57 : elemI Try.prog 57 = none := by kernel_rfl
theorem pl57 : placesI Try.prog 57 = some [(0, 1), (1, 1)] := by kernel_rfl
theorem fi57_0 : fieldI Try.prog 57 0 = some (0, 1, false) := by kernel_rfl
theorem fi57_1 : fieldI Try.prog 57 1 = some (1, 1, false) := by kernel_rfl
theorem ty58 : tyI Try.prog 58 = some ⟨false, 1, [.nilFunc], 8⟩ := by kernel_rfl
theorem el58 : elemI Try.prog 58 = none := by kernel_rfl
theorem ty59 : tyI Try.prog 59 = some ⟨false, 1, [.nilFunc], 8⟩ := by kernel_rfl
theorem el59 : elemI Try.prog 59 = none := by kernel_rfl
theorem ty60 : tyI Try.prog 60 = some ⟨false, 1, [(.slice none 0 0)], 24⟩ := by kernel_rfl
theorem el60 : elemI Try.prog 60 = some 34 := by kernel_rfl
theorem ty61 : tyI Try.prog 61 = some ⟨false, 1, [.nilFunc], 8⟩ := by kernel_rfl
theorem el61 : elemI Try.prog 61 = none := by kernel_rfl
theorem ty62 : tyI Try.prog 62 = some ⟨false, 1, [.nilFunc], 8⟩ := by kernel_rfl
theorem el62 : elemI Try.prog 62 = none := by kernel_rfl
theorem el63 : elemI Try.prog 63 = none := by kernel_rfl
theorem ty64 : tyI Try.prog 64 = some ⟨false, 1, [.nilFunc], 8⟩ := by kernel_rfl
theorem el64 : elemI Try.prog 64 = none := by kernel_rfl
theorem el65 : elemI Try.prog 65 = none := by kernel_rfl
theorem ty66 : tyI Try.prog 66 = some ⟨false, 1, [.nilFunc], 8⟩ := by kernel_rfl
theorem el66 : elemI Try.prog 66 = none := by kernel_rfl
theorem el67 : elemI Try.prog 67 = none := by kernel_rfl
theorem ty68 : tyI Try.prog 68 = some ⟨false, 1, [.nilFunc], 8⟩ := by kernel_rfl
theorem el68 : elemI Try.prog 68 = none := by kernel_rfl
theorem ty69 : tyI Try.prog 69 = some ⟨false, 1, [.nilFunc], 8⟩ := by kernel_rfl
theorem el69 : elemI Try.prog 69 = none := by kernel_rfl
theorem ty70 : tyI Try.prog 70 = some ⟨false, 1, [.nilFunc], 8⟩ := by kernel_rfl
theorem el70 : elemI Try.prog 70 = none := by kernel_rfl
theorem ty71 : tyI Try.prog 71 = some ⟨false, 1, [.nilFunc], 8⟩ := by kernel_rfl
theorem el71 : elemI Try.prog 71 = none := by kernel_rfl
theorem ty72 : tyI Try.prog 72 = some ⟨true, 4, [(.int .u8 0), (.int .u8 0), (.int .u8 0), (.int .u8 0)], 4⟩ := by kernel_rfl
theorem el72 : elemI Try.prog 72 = none := by kernel_rfl
theorem ar72 : arrI Try.prog 72 = some (4, 5) := by kernel_rfl
theorem pl72 : placesI Try.prog 72 = some [(0, 1), (1, 1), (2, 1), (3, 1)] := by kernel_rfl
theorem ty73 : tyI Try.prog 73 = some ⟨true, 5, [(.int .u8 0), (.int .u8 0), (.int .u8 0), (.int .u8 0), (.int .u8 0)], 5⟩ := by kernel_rfl
theorem el73 : elemI Try.prog 73 = none := by kernel_rfl
theorem ar73 : arrI Try.prog 73 = some (5, 5) := by kernel_rfl
theorem pl73 : placesI Try.prog 73 = some [(0, 1), (1, 1), (2, 1), (3, 1), (4, 1)] := by kernel_rfl
theorem ty74 : tyI Try.prog 74 = some ⟨true, 15, [(.int .u8 0), (.int .u8 0), (.int .u8 0), (.int .u8 0), (.int .u8 0), (.int .u8 0), (.int .u8 0), (.int .u8 0), (.int .u8 0), (.int .u8 0), (.int .u8 0), (.int .u8 0), (.int .u8 0), (.int .u8 0), (.int .u8 0)], 15⟩ := by kernel_rfl
theorem el74 : elemI Try.prog 74 = none := by kernel_rfl
theorem ar74 : arrI Try.prog 74 = some (3, 73) := by kernel_rfl
theorem pl74 : placesI Try.prog 74 = some [(0, 5), (5, 5), (10, 5)] := by kernel_rfl
theorem ty75 : tyI Try.prog 75 = some ⟨true, 2, [(.int .u8 0), (.int .u8 0)], 2⟩ := by kernel_rfl
theorem el75 : elemI Try.prog 75 = none := by kernel_rfl
theorem ar75 : arrI Try.prog 75 = some (2, 5) := by kernel_rfl
theorem pl75 : placesI Try.prog 75 = some [(0, 1), (1, 1)] := by kernel_rfl
theorem ty76 : tyI Try.prog 76 = some ⟨true, 8, [(.int .u8 0), (.int .u8 0), (.int .u8 0), (.int .u8 0), (.int .u8 0), (.int .u8 0), (.int .u8 0), (.int .u8 0)], 8⟩ := by kernel_rfl
theorem el76 : elemI Try.prog 76 = none := by kernel_rfl
theorem ar76 : arrI Try.prog 76 = some (4, 75) := by kernel_rfl
theorem pl76 : placesI Try.prog 76 = some [(0, 2), (2, 2), (4, 2), (6, 2)] := by kernel_rfl
theorem ty77 : tyI Try.prog 77 = some ⟨true, 30, [(.int .u8 0), (.int .u8 0), (.int .u8 0), (.int .u8 0), (.int .u8 0), (.int .u8 0), (.int .u8 0), (.int .u8 0), (.int .u8 0), (.int .u8 0), (.int .u8 0), (.int .u8 0), (.int .u8 0), (.int .u8 0), (.int .u8 0), (.int .u8 0), (.int .u8 0), (.int .u8 0), (.int .u8 0), (.int .u8 0), (.int .u8 0), (.int .u8 0), (.int .u8 0), (.int .u8 0), (.int .u8 0), (.int .u8 0), (.int .u8 0), (.int .u8 0), (.int .u8 0), (.int .u8 0)], 30⟩ := by kernel_rfl
theorem el77 : elemI Try.prog 77 = none := by kernel_rfl
theorem pl77 : placesI Try.prog 77 = some [(0, 4), (4, 1), (5, 15), (20, 8), (28, 2)] := by kernel_rfl
theorem fi77_0 : fieldI Try.prog 77 0 = some (0, 4, true) := by kernel_rfl
theorem fi77_1 : fieldI Try.prog 77 1 = some (4, 1, false) := by kernel_rfl
theorem fi77_2 : fieldI Try.prog 77 2 = some (5, 15, true) := by kernel_rfl
theorem fi77_3 : fieldI Try.prog 77 3 = some (20, 8, true) := by kernel_rfl
theorem fi77_4 : fieldI Try.prog 77 4 = some (28, 2, true) := by kernel_rfl
theorem ty78 : tyI Try.prog 78 = some ⟨true, 30, [(.int .u8 0), (.int .u8 0), (.int .u8 0), (.int .u8 0), (.int .u8 0), (.int .u8 0), (.int .u8 0), (.int .u8 0), (.int .u8 0), (.int .u8 0), (.int .u8 0), (.int .u8 0), (.int .u8 0), (.int .u8 0), (.int .u8 0), (.int .u8 0), (.int .u8 0), (.int .u8 0), (.int .u8 0), (.int .u8 0), (.int .u8 0), (.int .u8 0), (.int .u8 0), (.int .u8 0), (.int .u8 0), (.int .u8 0), (.int .u8 0), (.int .u8 0), (.int .u8 0), (.int .u8 0)], 30⟩ := by kernel_rfl
theorem el78 : elemI Try.prog 78 = none := by kernel_rfl
theorem pl78 : placesI Try.prog 78 = some [(0, 4), (4, 1), (5, 15), (20, 8), (28, 2)] := by kernel_rfl
theorem fi78_0 : fieldI Try.prog 78 0 = some (0, 4, true) := by kernel_rfl
theorem fi78_1 : fieldI Try.prog 78 1 = some (4, 1, false) := by kernel_rfl
theorem fi78_2 : fieldI Try.prog 78 2 = some (5, 15, true) := by kernel_rfl
theorem fi78_3 : fieldI Try.prog 78 3 = some (20, 8, true) := by kernel_rfl
theorem fi78_4 : fieldI Try.prog 78 4 = some (28, 2, true) := by kernel_rfl
theorem el79 : elemI Try.prog 79 = none := by kernel_rfl
theorem ty80 : tyI Try.prog 80 = some ⟨false, 1, [.nilFunc], 8⟩ := by kernel_rfl
theorem el80 : elemI Try.prog 80 = none := by kernel_rfl
theorem el81 : elemI Try.prog 81 = none := by kernel_rfl
theorem ty82 : tyI Try.prog 82 = some ⟨false, 1, [.nilFunc], 8⟩ := by kernel_rfl
theorem el82 : elemI Try.prog 82 = none := by kernel_rfl
theorem ty83 : tyI Try.prog 83 = some ⟨false, 1, [.nilFunc], 8⟩ := by kernel_rfl
theorem el83 : elemI Try.prog 83 = none := by kernel_rfl
theorem ty84 : tyI Try.prog 84 = some ⟨true, 3, [(.int .i64 0), (.int .i64 0), (.int .i64 0)], 24⟩ := by kernel_rfl
theorem el84 : elemI Try.prog 84 = none := by kernel_rfl
theorem eq84 : eqTy Try.prog 84 = some (.st [(0, 1, .it), (1, 2, (.st [(0, 1, .it), (1, 1, .it)]))]) := by kernel_rfl
theorem pl84 : placesI Try.prog 84 = some [(0, 1), (1, 2)] := by kernel_rfl
theorem fi84_0 : fieldI Try.prog 84 0 = some (0, 1, false) := by kernel_rfl
theorem fi84_1 : fieldI Try.prog 84 1 = some (1, 2, true) := by kernel_rfl
theorem ty85 : tyI Try.prog 85 = some ⟨true, 3, [(.int .i64 0), (.int .i64 0), (.int .i64 0)], 24⟩ := by kernel_rfl
theorem el85 : elemI Try.prog 85 = none := by kernel_rfl
theorem eq85 : eqTy Try.prog 85 = some (.st [(0, 1, .it), (1, 2, (.st [(0, 1, .it), (1, 1, .it)]))]) := by kernel_rfl
theorem pl85 : placesI Try.prog 85 = some [(0, 1), (1, 2)] := by kernel_rfl
theorem fi85_0 : fieldI Try.prog 85 0 = some (0, 1, false) := by kernel_rfl
theorem fi85_1 : fieldI Try.prog 85 1 = some (1, 2, true) := by kernel_rfl
theorem ty86 : tyI Try.prog 86 = some ⟨false, 1, [.nilFunc], 8⟩ := by kernel_rfl
theorem el86 : elemI Try.prog 86 = none := by kernel_rfl
theorem ty87 : tyI Try.prog 87 = some ⟨false, 1, [.nilFunc], 8⟩ := by kernel_rfl
theorem el87 : elemI Try.prog 87 = none := by kernel_rfl
theorem ty88 : tyI Try.prog 88 = some ⟨false, 1, [(.slice none 0 0)], 24⟩ := by kernel_rfl
theorem el88 : elemI Try.prog 88 = some 22 := by kernel_rfl
theorem el89 : elemI Try.prog 89 = none := by kernel_rfl
theorem ty90 : tyI Try.prog 90 = some ⟨false, 1, [.nilFunc], 8⟩ := by kernel_rfl
theorem el90 : elemI Try.prog 90 = none := by kernel_rfl
theorem ty91 : tyI Try.prog 91 = some ⟨false, 1, [.nilFunc], 8⟩ := by kernel_rfl
theorem el91 : elemI Try.prog 91 = none := by kernel_rfl
theorem ty92 : tyI Try.prog 92 = some ⟨false, 1, [.nilFunc], 8⟩ := by kernel_rfl
theorem el92 : elemI Try.prog 92 = none := by kernel_rfl
theorem ty93 : tyI Try.prog 93 = some ⟨false, 1, [.nilFunc], 8⟩ := by kernel_rfl
theorem el93 : elemI Try.prog 93 = none := by kernel_rfl
theorem ty94 : tyI Try.prog 94 = some ⟨false, 1, [.nilFunc], 8⟩ := by kernel_rfl
theorem el94 : elemI Try.prog 94 = none := by kernel_rfl
theorem ty95 : tyI Try.prog 95 = some ⟨false, 1, [.nilFunc], 8⟩ := by kernel_rfl
theorem el95 : elemI Try.prog 95 = none := by kernel_rfl
theorem ty96 : tyI Try.prog 96 = some ⟨false, 1, [.nilFunc], 8⟩ := by kernel_rfl
theorem el96 : elemI Try.prog 96 = none := by kernel_rfl
theorem ty97 : tyI Try.prog 97 = some ⟨false, 1, [.nilFunc], 8⟩ := by kernel_rfl
theorem el97 : elemI Try.prog 97 = none := by kernel_rfl
theorem ty98 : tyI Try.prog 98 = some ⟨false, 1, [(.slice none 0 0)], 24⟩ := by kernel_rfl
theorem el98 : elemI Try.prog 98 = some 5 := by kernel_rfl
theorem ty99 : tyI Try.prog 99 = some ⟨true, 2, [(.slice none 0 0), (.int .i64 0)], 32⟩ := by kernel_rfl
theorem el99 : elemI Try.prog 99 = none := by kernel_rfl
theorem pl99 : placesI Try.prog 99 = some [(0, 1), (1, 1)] := by kernel_rfl
theorem fi99_0 : fieldI Try.prog 99 0 = some (0, 1, false) := by kernel_rfl
theorem fi99_1 : fieldI Try.prog 99 1 = some (1, 1, false) := by kernel_rfl
theorem ty100 : tyI Try.prog 100 = some ⟨true, 2, [(.slice none 0 0), (.int .i64 0)], 32⟩ := by kernel_rfl
theorem el100 : elemI Try.prog 100 = none := by kernel_rfl
theorem pl100 : placesI Try.prog 100 = some [(0, 1), (1, 1)] := by kernel_rfl
theorem fi100_0 : fieldI Try.prog 100 0 = some (0, 1, false) := by kernel_rfl
theorem fi100_1 : fieldI Try.prog 100 1 = some (1, 1, false) := by kernel_rfl
theorem ty101 : tyI Try.prog 101 = some ⟨false, 1, [.nilFunc], 8⟩ := by kernel_rfl
theorem el101 : elemI Try.prog 101 = none := by kernel_rfl
theorem ty102 : tyI Try.prog 102 = some ⟨false, 1, [.nilFunc], 8⟩ := by kernel_rfl
theorem el102 : elemI Try.prog 102 = none := by kernel_rfl
theorem ty103 : tyI Try.prog 103 = some ⟨true, 3, [(.slice none 0 0), (.int .i64 0), (.int .i64 0)], 40⟩ := by kernel_rfl
theorem el103 : elemI Try.prog 103 = none := by kernel_rfl
theorem pl103 : placesI Try.prog 103 = some [(0, 1), (1, 1), (2, 1)] := by kernel_rfl
theorem fi103_0 : fieldI Try.prog 103 0 = some (0, 1, false) := by kernel_rfl
theorem fi103_1 : fieldI Try.prog 103 1 = some (1, 1, false) := by kernel_rfl
theorem fi103_2 : fieldI Try.prog 103 2 = some (2, 1, false) := by kernel_rfl
theorem ty104 : tyI Try.prog 104 = some ⟨true, 3, [(.slice none 0 0), (.int .i64 0), (.int .i64 0)], 40⟩ := by kernel_rfl
theorem el104 : elemI Try.prog 104 = none := by kernel_rfl
theorem pl104 : placesI Try.prog 104 = some [(0, 1), (1, 1), (2, 1)] := by kernel_rfl
theorem fi104_0 : fieldI Try.prog 104 0 = some (0, 1, false) := by kernel_rfl
theorem fi104_1 : fieldI Try.prog 104 1 = some (1, 1, false) := by kernel_rfl
theorem fi104_2 : fieldI Try.prog 104 2 = some (2, 1, false) := by kernel_rfl
theorem el105 : elemI Try.prog 105 = none := by kernel_rfl
theorem ty106 : tyI Try.prog 106 = some ⟨false, 1, [.nilFunc], 8⟩ := by kernel_rfl
theorem el106 : elemI Try.prog 106 = none := by kernel_rfl
theorem ty107 : tyI Try.prog 107 = some ⟨false, 1, [.nilFunc], 8⟩ := by kernel_rfl
theorem el107 : elemI Try.prog 107 = none := by kernel_rfl
theorem ty108 : tyI Try.prog 108 = some ⟨false, 1, [.nilFunc], 8⟩ := by kernel_rfl
theorem el108 : elemI Try.prog 108 = none := by kernel_rfl
theorem ty109 : tyI Try.prog 109 = some ⟨false, 1, [.nilFunc], 8⟩ := by kernel_rfl
theorem el109 : elemI Try.prog 109 = none := by kernel_rfl
theorem ty110 : tyI Try.prog 110 = some ⟨false, 1, [.nilFunc], 8⟩ := by kernel_rfl
theorem el110 : elemI Try.prog 110 = none := by kernel_rfl
theorem ty111 : tyI Try.prog 111 = some ⟨false, 1, [.nilFunc], 8⟩ := by kernel_rfl
theorem el111 : elemI Try.prog 111 = none := by kernel_rfl
theorem ty112 : tyI Try.prog 112 = some ⟨true, 11, [(.int .i64 0), (.int .i64 0), (.int .i64 0), (.int .i64 0), (.int .i64 0), (.int .i64 0), (.int .i64 0), (.int .i64 0), (.int .i64 0), (.int .i64 0), (.int .i64 0)], 88⟩ := by kernel_rfl
theorem el112 : elemI Try.prog 112 = none := by kernel_rfl
theorem ar112 : arrI Try.prog 112 = some (11, 3) := by kernel_rfl
theorem pl112 : placesI Try.prog 112 = some [(0, 1), (1, 1), (2, 1), (3, 1), (4, 1), (5, 1), (6, 1), (7, 1), (8, 1), (9, 1), (10, 1)] := by kernel_rfl
theorem el113 : elemI Try.prog 113 = none := by kernel_rfl
theorem ar113 : arrI Try.prog 113 = some (11, 112) := by kernel_rfl
theorem pl113 : placesI Try.prog 113 = some [(0, 11), (11, 11), (22, 11), (33, 11), (44, 11), (55, 11), (66, 11), (77, 11), (88, 11), (99, 11), (110, 11)] := by kernel_rfl
theorem ty114 : tyI Try.prog 114 = some ⟨true, 5, [(.int .i64 0), (.int .i64 0), (.int .i64 0), (.int .i64 0), (.slice none 0 0)], 56⟩ := by kernel_rfl
theorem el114 : elemI Try.prog 114 = none := by kernel_rfl
theorem pl114 : placesI Try.prog 114 = some [(0, 4), (4, 1)] := by kernel_rfl
theorem fi114_0 : fieldI Try.prog 114 0 = some (0, 4, true) := by kernel_rfl
theorem fi114_1 : fieldI Try.prog 114 1 = some (4, 1, false) := by kernel_rfl
theorem ty115 : tyI Try.prog 115 = some ⟨true, 5, [(.int .i64 0), (.int .i64 0), (.int .i64 0), (.int .i64 0), (.slice none 0 0)], 56⟩ := by kernel_rfl
theorem el115 : elemI Try.prog 115 = none := by kernel_rfl
theorem pl115 : placesI Try.prog 115 = some [(0, 4), (4, 1)] := by kernel_rfl
theorem fi115_0 : fieldI Try.prog 115 0 = some (0, 4, true) := by kernel_rfl
theorem fi115_1 : fieldI Try.prog 115 1 = some (4, 1, false) := by kernel_rfl
theorem el116 : elemI Try.prog 116 = none := by kernel_rfl
theorem ty117 : tyI Try.prog 117 = some ⟨false, 1, [.nilFunc], 8⟩ := by kernel_rfl
theorem el117 : elemI Try.prog 117 = none := by kernel_rfl
theorem ty118 : tyI Try.prog 118 = some ⟨false, 1, [.nilFunc], 8⟩ := by kernel_rfl
theorem el118 : elemI Try.prog 118 = none := by kernel_rfl
theorem ty119 : tyI Try.prog 119 = some ⟨false, 1, [.nilFunc], 8⟩ := by kernel_rfl
theorem el119 : elemI Try.prog 119 = none := by kernel_rfl
theorem ty120 : tyI Try.prog 120 = some ⟨false, 1, [.nilFunc], 8⟩ := by kernel_rfl
theorem el120 : elemI Try.prog 120 = none := by kernel_rfl
theorem ty121 : tyI Try.prog 121 = some ⟨false, 1, [.nilFunc], 8⟩ := by kernel_rfl
theorem el121 : elemI Try.prog 121 = none := by kernel_rfl
theorem el122 : elemI Try.prog 122 = none := by kernel_rfl
theorem ty123 : tyI Try.prog 123 = some ⟨false, 1, [.nilFunc], 8⟩ := by kernel_rfl
theorem el123 : elemI Try.prog 123 = none := by kernel_rfl
theorem ty124 : tyI Try.prog 124 = some ⟨false, 1, [.nilFunc], 8⟩ := by kernel_rfl
theorem el124 : elemI Try.prog 124 = none := by kernel_rfl
theorem ty125 : tyI Try.prog 125 = some ⟨false, 1, [(.slice none 0 0)], 24⟩ := by kernel_rfl
theorem el125 : elemI Try.prog 125 = some 127 := by kernel_rfl
theorem ty126 : tyI Try.prog 126 = some ⟨true, 3, [(.int .i64 0), (.int .i64 0), (.int .i64 0)], 24⟩ := by kernel_rfl
theorem el126 : elemI Try.prog 126 = none := by kernel_rfl
theorem eq126 : eqTy Try.prog 126 = some (.st [(0, 1, .it), (1, 1, .it), (2, 1, .it)]) := by kernel_rfl
theorem pl126 : placesI Try.prog 126 = some [(0, 1), (1, 1), (2, 1)] := by kernel_rfl
theorem fi126_0 : fieldI Try.prog 126 0 = some (0, 1, false) := by kernel_rfl
theorem fi126_1 : fieldI Try.prog 126 1 = some (1, 1, false) := by kernel_rfl
theorem fi126_2 : fieldI Try.prog 126 2 = some (2, 1, false) := by kernel_rfl
theorem ty127 : tyI Try.prog 127 = some ⟨true, 3, [(.int .i64 0), (.int .i64 0), (.int .i64 0)], 24⟩ := by kernel_rfl
theorem el127 : elemI Try.prog 127 = none := by kernel_rfl
theorem eq127 : eqTy Try.prog 127 = some (.st [(0, 1, .it), (1, 1, .it), (2, 1, .it)]) := by kernel_rfl
theorem pl127 : placesI Try.prog 127 = some [(0, 1), (1, 1), (2, 1)] := by kernel_rfl
theorem fi127_0 : fieldI Try.prog 127 0 = some (0, 1, false) := by kernel_rfl
theorem fi127_1 : fieldI Try.prog 127 1 = some (1, 1, false) := by kernel_rfl
theorem fi127_2 : fieldI Try.prog 127 2 = some (2, 1, false) := by kernel_rfl
theorem ty128 : tyI Try.prog 128 = some ⟨false, 1, [.nilFunc], 8⟩ := by kernel_rfl
theorem el128 : elemI Try.prog 128 = none := by kernel_rfl
theorem ty129 : tyI Try.prog 129 = some ⟨false, 1, [.nilFunc], 8⟩ := by kernel_rfl
theorem el129 : elemI Try.prog 129 = none := by kernel_rfl
theorem ty130 : tyI Try.prog 130 = some ⟨false, 1, [.nilFunc], 8⟩ := by kernel_rfl
theorem el130 : elemI Try.prog 130 = none := by kernel_rfl
theorem ty131 : tyI Try.prog 131 = some ⟨false, 1, [.nilFunc], 8⟩ := by kernel_rfl
theorem el131 : elemI Try.prog 131 = none := by kernel_rfl
theorem ty132 : tyI Try.prog 132 = some ⟨false, 1, [.nilFunc], 8⟩ := by kernel_rfl
theorem el132 : elemI Try.prog 132 = none := by kernel_rfl
theorem ty133 : tyI Try.prog 133 = some ⟨false, 1, [.nilFunc], 8⟩ := by kernel_rfl
theorem el133 : elemI Try.prog 133 = none := by kernel_rfl
theorem ty134 : tyI Try.prog 134 = some ⟨false, 1, [(.int .u64 0)], 8⟩ := by kernel_rfl
theorem el134 : elemI Try.prog 134 = none := by kernel_rfl
theorem it134 : intI Try.prog 134 = some .u64 := by kernel_rfl
theorem el135 : elemI Try.prog 135 = none := by kernel_rfl
theorem ty136 : tyI Try.prog 136 = some ⟨false, 1, [.nilFunc], 8⟩ := by kernel_rfl
theorem el136 : elemI Try.prog 136 = none := by kernel_rfl
theorem ty137 : tyI Try.prog 137 = some ⟨false, 1, [.nilFunc], 8⟩ := by kernel_rfl
theorem el137 : elemI Try.prog 137 = none := by kernel_rfl
theorem ty138 : tyI Try.prog 138 = some ⟨false, 1, [.nilFunc], 8⟩ := by kernel_rfl
theorem el138 : elemI Try.prog 138 = none := by kernel_rfl
theorem ty139 : tyI Try.prog 139 = some ⟨false, 1, [.nilFunc], 8⟩ := by kernel_rfl
theorem el139 : elemI Try.prog 139 = none := by kernel_rfl
theorem ty140 : tyI Try.prog 140 = some ⟨false, 1, [.nilFunc], 8⟩ := by kernel_rfl
theorem el140 : elemI Try.prog 140 = none := by kernel_rfl
theorem ty141 : tyI Try.prog 141 = some ⟨false, 1, [.nilFunc], 8⟩ := by kernel_rfl
theorem el141 : elemI Try.prog 141 = none := by kernel_rfl
theorem ty142 : tyI Try.prog 142 = some ⟨false, 1, [.nilFunc], 8⟩ := by kernel_rfl
theorem el142 : elemI Try.prog 142 = none := by kernel_rfl
theorem ty143 : tyI Try.prog 143 = some ⟨false, 1, [.nilFunc], 8⟩ := by kernel_rfl
theorem el143 : elemI Try.prog 143 = none := by kernel_rfl
theorem ty144 : tyI Try.prog 144 = some ⟨false, 1, [(.pointer none)], 8⟩ := by kernel_rfl
theorem el144 : elemI Try.prog 144 = none := by kernel_rfl
theorem ty145 : tyI Try.prog 145 = some ⟨true, 9, [(.int .i64 0), (.int .i64 0), (.int .i64 0), (.int .i64 0), (.slice none 0 0), (.slice none 0 0), (.slice none 0 0), (.int .i64 0), (.bool false)], 120⟩ := by kernel_rfl
theorem el145 : elemI Try.prog 145 = none := by kernel_rfl
theorem pl145 : placesI Try.prog 145 = some [(0, 5), (5, 1), (6, 1), (7, 1), (8, 1)] := by kernel_rfl
theorem fi145_0 : fieldI Try.prog 145 0 = some (0, 5, true) := by kernel_rfl
theorem fi145_1 : fieldI Try.prog 145 1 = some (5, 1, false) := by kernel_rfl
theorem fi145_2 : fieldI Try.prog 145 2 = some (6, 1, false) := by kernel_rfl
theorem fi145_3 : fieldI Try.prog 145 3 = some (7, 1, false) := by kernel_rfl
theorem fi145_4 : fieldI Try.prog 145 4 = some (8, 1, false) := by kernel_rfl
theorem ty146 : tyI Try.prog 146 = some ⟨true, 9, [(.int .i64 0), (.int .i64 0), (.int .i64 0), (.int .i64 0), (.slice none 0 0), (.slice none 0 0), (.slice none 0 0), (.int .i64 0), (.bool false)], 120⟩ := by kernel_rfl
theorem el146 : elemI Try.prog 146 = none := by kernel_rfl
theorem pl146 : placesI Try.prog 146 = some [(0, 5), (5, 1), (6, 1), (7, 1), (8, 1)] := by kernel_rfl
theorem fi146_0 : fieldI Try.prog 146 0 = some (0, 5, true) := by kernel_rfl
theorem fi146_1 : fieldI Try.prog 146 1 = some (5, 1, false) := by kernel_rfl
theorem fi146_2 : fieldI Try.prog 146 2 = some (6, 1, false) := by kernel_rfl
theorem fi146_3 : fieldI Try.prog 146 3 = some (7, 1, false) := by kernel_rfl
theorem fi146_4 : fieldI Try.prog 146 4 = some (8, 1, false) := by kernel_rfl
theorem ty147 : tyI Try.prog 147 = some ⟨false, 1, [.nilFunc], 8⟩ := by kernel_rfl
theorem el147 : elemI Try.prog 147 = none := by kernel_rfl
theorem ty148 : tyI Try.prog 148 = some ⟨false, 1, [.nilFunc], 8⟩ := by kernel_rfl
theorem el148 : elemI Try.prog 148 = none := by kernel_rfl
theorem ty149 : tyI Try.prog 149 = some ⟨false, 1, [.nilFunc], 8⟩ := by kernel_rfl
theorem el149 : elemI Try.prog 149 = none := by kernel_rfl
theorem ty150 : tyI Try.prog 150 = some ⟨false, 1, [.nilFunc], 8⟩ := by kernel_rfl
theorem el150 : elemI Try.prog 150 = none := by kernel_rfl
theorem ty151 : tyI Try.prog 151 = some ⟨false, 1, [.nilFunc], 8⟩ := by kernel_rfl
theorem el151 : elemI Try.prog 151 = none := by kernel_rfl
theorem ty152 : tyI Try.prog 152 = some ⟨false, 1, [.nilFunc], 8⟩ := by kernel_rfl
theorem el152 : elemI Try.prog 152 = none := by kernel_rfl
theorem ty153 : tyI Try.prog 153 = some ⟨false, 1, [.nilFunc], 8⟩ := by kernel_rfl
theorem el153 : elemI Try.prog 153 = none := by kernel_rfl
theorem ty154 : tyI Try.prog 154 = some ⟨false, 1, [.nilFunc], 8⟩ := by kernel_rfl
theorem el154 : elemI Try.prog 154 = none := by kernel_rfl
theorem ty155 : tyI Try.prog 155 = some ⟨false, 1, [.nilFunc], 8⟩ := by kernel_rfl
theorem el155 : elemI Try.prog 155 = none := by kernel_rfl
theorem ty156 : tyI Try.prog 156 = some ⟨false, 1, [.nilFunc], 8⟩ := by kernel_rfl
theorem el156 : elemI Try.prog 156 = none := by kernel_rfl
theorem ty157 : tyI Try.prog 157 = some ⟨false, 1, [.nilFunc], 8⟩ := by kernel_rfl
theorem el157 : elemI Try.prog 157 = none := by kernel_rfl
theorem ty158 : tyI Try.prog 158 = some ⟨false, 1, [.nilFunc], 8⟩ := by kernel_rfl
theorem el158 : elemI Try.prog 158 = none := by kernel_rfl
theorem ty159 : tyI Try.prog 159 = some ⟨false, 1, [.nilFunc], 8⟩ := by kernel_rfl
theorem el159 : elemI Try.prog 159 = none := by kernel_rfl
theorem ty160 : tyI Try.prog 160 = some ⟨false, 1, [.nilFunc], 8⟩ := by kernel_rfl
theorem el160 : elemI Try.prog 160 = none := by kernel_rfl
theorem ty161 : tyI Try.prog 161 = some ⟨false, 1, [.nilFunc], 8⟩ := by kernel_rfl
theorem el161 : elemI Try.prog 161 = none := by kernel_rfl
theorem ty162 : tyI Try.prog 162 = some ⟨true, 4, [(.pointer none), (.pointer none), (.pointer none), (.string ⟨#[]⟩)], 40⟩ := by kernel_rfl
theorem el162 : elemI Try.prog 162 = none := by kernel_rfl
theorem pl162 : placesI Try.prog 162 = some [(0, 1), (1, 1), (2, 1), (3, 1)] := by kernel_rfl
theorem fi162_0 : fieldI Try.prog 162 0 = some (0, 1, false) := by kernel_rfl
theorem fi162_1 : fieldI Try.prog 162 1 = some (1, 1, false) := by kernel_rfl
theorem fi162_2 : fieldI Try.prog 162 2 = some (2, 1, false) := by kernel_rfl
theorem fi162_3 : fieldI Try.prog 162 3 = some (3, 1, false) := by kernel_rfl
theorem ty163 : tyI Try.prog 163 = some ⟨true, 4, [(.pointer none), (.pointer none), (.pointer none), (.string ⟨#[]⟩)], 40⟩ := by kernel_rfl
theorem el163 : elemI Try.prog 163 = none := by kernel_rfl
theorem pl163 : placesI Try.prog 163 = some [(0, 1), (1, 1), (2, 1), (3, 1)] := by kernel_rfl
theorem fi163_0 : fieldI Try.prog 163 0 = some (0, 1, false) := by kernel_rfl
theorem fi163_1 : fieldI Try.prog 163 1 = some (1, 1, false) := by kernel_rfl
theorem fi163_2 : fieldI Try.prog 163 2 = some (2, 1, false) := by kernel_rfl
theorem fi163_3 : fieldI Try.prog 163 3 = some (3, 1, false) := by kernel_rfl
theorem ty164 : tyI Try.prog 164 = some ⟨true, 0, [], 0⟩ := by kernel_rfl
theorem el164 : elemI Try.prog 164 = none := by kernel_rfl
theorem ar164 : arrI Try.prog 164 = some (0, 16) := by kernel_rfl
theorem pl164 : placesI Try.prog 164 = some [] := by kernel_rfl
theorem ty165 : tyI Try.prog 165 = some ⟨true, 0, [], 0⟩ := by kernel_rfl
theorem el165 : elemI Try.prog 165 = none := by kernel_rfl
theorem pl165 : placesI Try.prog 165 = some [(0, 0)] := by kernel_rfl
theorem ty166 : tyI Try.prog 166 = some ⟨true, 0, [], 0⟩ := by kernel_rfl
theorem el166 : elemI Try.prog 166 = none := by kernel_rfl
theorem pl166 : placesI Try.prog 166 = some [(0, 0)] := by kernel_rfl
theorem ty167 : tyI Try.prog 167 = some ⟨false, 1, [.nilFunc], 8⟩ := by kernel_rfl
theorem el167 : elemI Try.prog 167 = none := by kernel_rfl
theorem ty168 : tyI Try.prog 168 = some ⟨false, 1, [(.int .u32 0)], 4⟩ := by kernel_rfl
theorem el168 : elemI Try.prog 168 = none := by kernel_rfl
theorem it168 : intI Try.prog 168 = some .u32 := by kernel_rfl
theorem ty169 : tyI Try.prog 169 = some ⟨false, 1, [(.int .u8 0)], 1⟩ := by kernel_rfl
theorem el169 : elemI Try.prog 169 = none := by kernel_rfl
theorem it169 : intI Try.prog 169 = some .u8 := by kernel_rfl
theorem ty170 : tyI Try.prog 170 = some ⟨false, 1, [(.int .u8 0)], 1⟩ := by kernel_rfl
theorem el170 : elemI Try.prog 170 = none := by kernel_rfl
theorem it170 : intI Try.prog 170 = some .u8 := by kernel_rfl
theorem ty171 : tyI Try.prog 171 = some ⟨false, 1, [.nilFunc], 8⟩ := by kernel_rfl
theorem el171 : elemI Try.prog 171 = none := by kernel_rfl
theorem ty172 : tyI Try.prog 172 = some ⟨false, 1, [(.pointer none)], 8⟩ := by kernel_rfl
theorem el172 : elemI Try.prog 172 = none := by kernel_rfl
theorem ty173 : tyI Try.prog 173 = some ⟨false, 1, [(.int .i32 0)], 4⟩ := by kernel_rfl
theorem el173 : elemI Try.prog 173 = none := by kernel_rfl
theorem it173 : intI Try.prog 173 = some .i32 := by kernel_rfl
theorem ty174 : tyI Try.prog 174 = some ⟨false, 1, [(.int .i32 0)], 4⟩ := by kernel_rfl
theorem el174 : elemI Try.prog 174 = none := by kernel_rfl
theorem it174 : intI Try.prog 174 = some .i32 := by kernel_rfl
theorem ty175 : tyI Try.prog 175 = some ⟨true, 11, [(.int .u64 0), (.int .u64 0), (.int .u32 0), (.int .u8 0), (.int .u8 0), (.int .u8 0), (.int .u8 0), .nilFunc, (.pointer none), (.int .i32 0), (.int .i32 0)], 48⟩ := by kernel_rfl
theorem el175 : elemI Try.prog 175 = none := by kernel_rfl
theorem pl175 : placesI Try.prog 175 = some [(0, 1), (1, 1), (2, 1), (3, 1), (4, 1), (5, 1), (6, 1), (7, 1), (8, 1), (9, 1), (10, 1)] := by kernel_rfl
theorem fi175_0 : fieldI Try.prog 175 0 = some (0, 1, false) := by kernel_rfl
theorem fi175_1 : fieldI Try.prog 175 1 = some (1, 1, false) := by kernel_rfl
theorem fi175_2 : fieldI Try.prog 175 2 = some (2, 1, false) := by kernel_rfl
theorem fi175_3 : fieldI Try.prog 175 3 = some (3, 1, false) := by kernel_rfl
theorem fi175_4 : fieldI Try.prog 175 4 = some (4, 1, false) := by kernel_rfl
theorem fi175_5 : fieldI Try.prog 175 5 = some (5, 1, false) := by kernel_rfl
theorem fi175_6 : fieldI Try.prog 175 6 = some (6, 1, false) := by kernel_rfl
theorem fi175_7 : fieldI Try.prog 175 7 = some (7, 1, false) := by kernel_rfl
theorem fi175_8 : fieldI Try.prog 175 8 = some (8, 1, false) := by kernel_rfl
theorem fi175_9 : fieldI Try.prog 175 9 = some (9, 1, false) := by kernel_rfl
theorem fi175_10 : fieldI Try.prog 175 10 = some (10, 1, false) := by kernel_rfl
theorem ty176 : tyI Try.prog 176 = some ⟨true, 11, [(.int .u64 0), (.int .u64 0), (.int .u32 0), (.int .u8 0), (.int .u8 0), (.int .u8 0), (.int .u8 0), .nilFunc, (.pointer none), (.int .i32 0), (.int .i32 0)], 48⟩ := by kernel_rfl
theorem el176 : elemI Try.prog 176 = none := by kernel_rfl
theorem pl176 : placesI Try.prog 176 = some [(0, 1), (1, 1), (2, 1), (3, 1), (4, 1), (5, 1), (6, 1), (7, 1), (8, 1), (9, 1), (10, 1)] := by kernel_rfl
theorem fi176_0 : fieldI Try.prog 176 0 = some (0, 1, false) := by kernel_rfl
theorem fi176_1 : fieldI Try.prog 176 1 = some (1, 1, false) := by kernel_rfl
theorem fi176_2 : fieldI Try.prog 176 2 = some (2, 1, false) := by kernel_rfl
theorem fi176_3 : fieldI Try.prog 176 3 = some (3, 1, false) := by kernel_rfl
theorem fi176_4 : fieldI Try.prog 176 4 = some (4, 1, false) := by kernel_rfl
theorem fi176_5 : fieldI Try.prog 176 5 = some (5, 1, false) := by kernel_rfl
theorem fi176_6 : fieldI Try.prog 176 6 = some (6, 1, false) := by kernel_rfl
theorem fi176_7 : fieldI Try.prog 176 7 = some (7, 1, false) := by kernel_rfl
theorem fi176_8 : fieldI Try.prog 176 8 = some (8, 1, false) := by kernel_rfl
theorem fi176_9 : fieldI Try.prog 176 9 = some (9, 1, false) := by kernel_rfl
theorem fi176_10 : fieldI Try.prog 176 10 = some (10, 1, false) := by kernel_rfl
theorem ty177 : tyI Try.prog 177 = some ⟨false, 1, [(.pointer none)], 8⟩ := by kernel_rfl
theorem el177 : elemI Try.prog 177 = none := by kernel_rfl
attribute [go_sem] el0 ty1 el1 ty2 el2 it2 ty3 el3 it3 ty4 el4 bl4 ty5 el5 it5 ty6 el6 it6 ty7 el7 eq7 pl7 fi7_0 fi7_1 fi7_2 fi7_3 ty8 el8 eq8 pl8 fi8_0 fi8_1 fi8_2 fi8_3 ty9 el9 ty10 el10 ty11 el11 ty12 el12 it12 ty13 el13 pl13 fi13_0 fi13_1 ty14 el14 pl14 fi14_0 fi14_1 ty15 el15 ty16 el16 ty17 el17 ty18 el18 pl18 fi18_0 ty19 el19 pl19 fi19_0 ty20 el20 ty21 el21 it21 ty22 el22 ty23 el23 ty24 el24 ty25 el25 it25 el26 ty27 el27 ty28 el28 ty29 el29 ty30 el30 ty31 el31 eq31 pl31 fi31_0 fi31_1 ty32 el32 eq32 pl32 fi32_0 fi32_1 ty33 el33 eq33 pl33 fi33_0 fi33_1 fi33_2 ty34 el34 eq34 pl34 fi34_0 fi34_1 fi34_2 ty35 el35 ty36 el36 ty37 el37 ty38 el38 ty39 el39 el40 ty41 el41 ty42 el42 ty43 el43 ty44 el44 ty45 el45 el46 ty47 el47 ty48 el48 ty49 el49 el50 ty51 el51 el52 ty53 el53 el54 ty55 el55 ty56 el56 pl56 fi56_0 fi56_1 ty57 el57 pl57 fi57_0 fi57_1 ty58 el58 ty59 el59 ty60 el60 ty61 el61 ty62 el62 el63 ty64 el64 el65 ty66 el66 el67 ty68 el68 ty69 el69 ty70 el70 ty71 el71 ty72 el72 ar72 pl72 ty73 el73 ar73 pl73 ty74 el74 ar74 pl74 ty75 el75 ar75 pl75 ty76 el76 ar76 pl76 ty77 el77 pl77 fi77_0 fi77_1 fi77_2 fi77_3 fi77_4 ty78 el78 pl78 fi78_0 fi78_1 fi78_2 fi78_3 fi78_4 el79 ty80 el80 el81 ty82 el82 ty83 el83 ty84 el84 eq84 pl84 fi84_0 fi84_1 ty85 el85 eq85 pl85 fi85_0 fi85_1 ty86 el86 ty87 el87 ty88 el88 el89 ty90 el90 ty91 el91 ty92 el92 ty93 el93 ty94 el94 ty95 el95 ty96 el96 ty97 el97 ty98 el98 ty99 el99 pl99 fi99_0 fi99_1 ty100 el100 pl100 fi100_0 fi100_1 ty101 el101 ty102 el102 ty103 el103 pl103 fi103_0 fi103_1 fi103_2 ty104 el104 pl104 fi104_0 fi104_1 fi104_2 el105 ty106 el106 ty107 el107 ty108 el108 ty109 el109 ty110 el110 ty111 el111 ty112 el112 ar112 pl112 el113 ar113 pl113 ty114 el114 pl114 fi114_0 fi114_1 ty115 el115 pl115 fi115_0 fi115_1 el116 ty117 el117 ty118 el118 ty119 el119 ty120 el120 ty121 el121 el122 ty123 el123 ty124 el124 ty125 el125 ty126 el126 eq126 pl126 fi126_0 fi126_1 fi126_2 ty127 el127 eq127 pl127 fi127_0 fi127_1 fi127_2 ty128 el128 ty129 el129 ty130 el130 ty131 el131 ty132 el132 ty133 el133 ty134 el134 it134 el135 ty136 el136 ty137 el137 ty138 el138 ty139 el139 ty140 el140 ty141 el141 ty142 el142 ty143 el143 ty144 el144 ty145 el145 pl145 fi145_0 fi145_1 fi145_2 fi145_3 fi145_4 ty146 el146 pl146 fi146_0 fi146_1 fi146_2 fi146_3 fi146_4 ty147 el147 ty148 el148 ty149 el149 ty150 el150 ty151 el151 ty152 el152 ty153 el153 ty154 el154 ty155 el155 ty156 el156 ty157 el157 ty158 el158 ty159 el159 ty160 el160 ty161 el161 ty162 el162 pl162 fi162_0 fi162_1 fi162_2 fi162_3 ty163 el163 pl163 fi163_0 fi163_1 fi163_2 fi163_3 ty164 el164 ar164 pl164 ty165 el165 pl165 ty166 el166 pl166 ty167 el167 ty168 el168 it168 ty169 el169 it169 ty170 el170 it170 ty171 el171 ty172 el172 ty173 el173 it173 ty174 el174 it174 ty175 el175 pl175 fi175_0 fi175_1 fi175_2 fi175_3 fi175_4 fi175_5 fi175_6 fi175_7 fi175_8 fi175_9 fi175_10 ty176 el176 pl176 fi176_0 fi176_1 fi176_2 fi176_3 fi176_4 fi176_5 fi176_6 fi176_7 fi176_8 fi176_9 fi176_10 ty177 el177
end Go.Dw.Seat
end
section
namespace Go.Dw.Seat
open Go Go.Dw
def Tm (n : Nat) : Operand := .tmp n
def Kn (n : Int) : Operand := .const (.int .i64 n)
def Kb (b : Bool) : Operand := .const (.bool b)
def Mv (a c : Nat) : SO := ⟨some a, .move (.tmp c), none⟩
def Sg (a c : Nat) : SO := ⟨some a, .assign (.tmp c), none⟩
def Sk (a : Nat) (c : Operand) : SO := ⟨some a, .assign c, none⟩
def Ld (a b c : Nat) : SO := ⟨some a, .load b (.tmp c), none⟩
def Fa (a b c d : Nat) : SO := ⟨some a, .fieldAddr b (.tmp c) d, none⟩
def Xt (a c d : Nat) : SO := ⟨some a, .extract (.tmp c) d, none⟩
def Ix (a b c d : Nat) : SO := ⟨some a, .indexAddr b (.tmp c) (.tmp d), none⟩
def Ln (a c t : Nat) : SO := ⟨some a, .call { callee := .builtin .len, args := #[.tmp c], argTypes := #[t] }, none⟩
def Cl (a f : Nat) (x : Array Operand) (y : Array TypeId) : SO := ⟨some a, .call { callee := .value (.func f), args := x, argTypes := y }, none⟩
def Bo (a : Nat) (o : BinOp) (t : Nat) (x y : Operand) (u : Nat) : SO := ⟨some a, .binOp o t x y u, none⟩
def Pk (a x : Nat) (y z : Operand) : SO := ⟨some a, .pick (.tmp x) y z, none⟩
def Sr (t : Nat) (x y : Operand) : SO := ⟨none, .store t x y, none⟩
def Nk (a c : Nat) : SO := ⟨some a, .nilCheck (.tmp c), none⟩
def Oo (a : Nat) (o : Op) : SO := ⟨some a, o, none⟩
def Gm (a c g : Nat) (b : Bool) : SO := ⟨some a, .move (.tmp c), some (g, b)⟩
def Gl (a t c g : Nat) (b : Bool) : SO := ⟨some a, .load t (.tmp c), some (g, b)⟩
def Gf (a t c d g : Nat) (b : Bool) : SO := ⟨some a, .fieldAddr t (.tmp c) d, some (g, b)⟩
def Gx (a t c d g : Nat) (b : Bool) : SO := ⟨some a, .indexAddr t (.tmp c) (.tmp d), some (g, b)⟩
def Gc (a f : Nat) (x : Array Operand) (y : Array TypeId) (g : Nat) (b : Bool) : SO := ⟨some a, .call { callee := .value (.func f), args := x, argTypes := y }, some (g, b)⟩
def Gb (a : Nat) (o : BinOp) (t : Nat) (x y : Operand) (u g : Nat) (b : Bool) : SO := ⟨some a, .binOp o t x y u, some (g, b)⟩
def Og (a : Nat) (o : Op) (g : Nat) (b : Bool) : SO := ⟨some a, o, some (g, b)⟩
abbrev R0 (l : List SO) : SC := .reg false l
abbrev R1 (l : List SO) : SC := .reg true l
attribute [go_sem] Tm Kn Kb Mv Sg Sk Ld Fa Xt Ix Ln Cl Bo Pk Sr Nk Oo Gm Gl Gf Gx Gc Gb Og
end Go.Dw.Seat
namespace Go.Dw.Seat
open Go Go.Dw Go.Proofs
def s3 : SF := ⟨99, [.tmp 4], (.seq (R0 [Sk 4 (Kb false)]) (.seq (.seq (R0 [Mv 10 0, Ln 11 10 22, Bo 12 .gtr 3 (Tm 11) (Kn 20) 3, Mv 13 12, Gm 14 1 13 false, Og 15 (.call { callee := .builtin .len, args := #[Tm 14], argTypes := #[22] }) 13 false, Gb 16 .gtr 3 (Tm 15) (Kn 20) 3 13 false, Pk 17 13 (Kb true) (Tm 16)]) (.cond (Tm 17) (.seq (R0 [Cl 18 15 #[] #[], Sg 4 18]) .ret) .skip)) (.seq (R0 [Mv 19 0, Ln 20 19 22, Bo 21 .gtr 3 (Tm 20) (Kn 10) 3, Mv 22 21, Gm 23 1 22 false, Og 24 (.call { callee := .builtin .len, args := #[Tm 23], argTypes := #[22] }) 22 false, Gb 25 .gtr 3 (Tm 24) (Kn 10) 3 22 false, Pk 26 22 (Kb true) (Tm 25), Sg 5 26]) (.seq (.seq (R0 [Mv 27 5, Oo 28 (.unOp .not 4 (Tm 27)), Mv 29 28, Gm 30 0 29 true, Og 31 (.call { callee := .builtin .len, args := #[Tm 30], argTypes := #[22] }) 29 true, Gm 32 1 29 true, Og 33 (.call { callee := .builtin .len, args := #[Tm 32], argTypes := #[22] }) 29 true, Gb 34 .add 3 (Tm 31) (Tm 33) 3 29 true, Gb 35 .gtr 3 (Tm 34) (Kn 12) 3 29 true, Pk 36 29 (Tm 35) (Kb false)]) (.cond (Tm 36) (.seq (R0 [Cl 37 15 #[] #[], Sg 4 37]) .ret) .skip)) (.seq (R0 [Mv 38 0, Cl 39 16 #[Tm 38] #[22], Mv 40 1, Cl 41 16 #[Tm 40] #[22], Sg 6 39, Sg 7 41]) (.seq (R0 [Mv 43 6, Mv 44 7, Cl 45 17 #[Tm 43, Tm 44] #[22, 22], Mv 42 45, Xt 46 42 0, Xt 47 42 1, Sg 8 46, Sg 9 47]) (.seq (.seq (R0 [Mv 48 6, Mv 49 0, Cl 50 18 #[Tm 48, Tm 49] #[22, 22], Oo 51 (.unOp .not 4 (Tm 50)), Mv 52 51, Gm 53 7 52 false, Gm 54 1 52 false, Gc 55 18 #[Tm 53, Tm 54] #[22, 22] 52 false, Og 56 (.unOp .not 4 (Tm 55)) 52 false, Pk 57 52 (Kb true) (Tm 56)]) (.cond (Tm 57) (.seq (R0 [Sk 4 (Kb false)]) .ret) .skip)) (.seq (.block 0 (.seq (R0 [Mv 59 5, Sg 58 59]) (.cond (Tm 58) (.seq (R0 [Mv 60 9, Bo 61 .eql 25 (Tm 60) (Kn 5) 25, Mv 62 61, Gm 63 8 62 true, Gb 64 .eql 3 (Tm 63) (Kn 0) 3 62 true, Pk 65 62 (Tm 64) (Kb false), Mv 66 65, Gc 67 15 #[] #[] 66 true, Pk 68 66 (Tm 67) (Kb false), Sg 4 68]) .ret) (.seq (R0 [Mv 70 0, Cl 71 19 #[Tm 70] #[22], Oo 72 (.unOp .not 4 (Tm 71)), Mv 73 72, Gm 74 1 73 false, Gc 75 19 #[Tm 74] #[22] 73 false, Og 76 (.unOp .not 4 (Tm 75)) 73 false, Pk 77 73 (Kb true) (Tm 76), Sg 69 77]) (.cond (Tm 69) (.seq (R0 [Mv 78 9, Bo 79 .eql 25 (Tm 78) (Kn 4) 25, Mv 80 79, Gm 81 8 80 true, Gb 82 .eql 3 (Tm 81) (Kn 0) 3 80 true, Pk 83 80 (Tm 82) (Kb false), Mv 84 83, Gc 85 15 #[] #[] 84 true, Pk 86 84 (Tm 85) (Kb false), Sg 4 86]) .ret) .skip))))) (.seq (R0 [Mv 87 9, Bo 88 .eql 25 (Tm 87) (Kn 0) 25, Mv 89 88, Gm 90 8 89 true, Gm 91 0 89 true, Gm 92 1 89 true, Gc 93 20 #[Tm 91, Tm 92] #[22, 22] 89 true, Gb 94 .eql 3 (Tm 90) (Tm 93) 3 89 true, Pk 95 89 (Tm 94) (Kb false), Mv 96 95, Gc 97 15 #[] #[] 96 true, Pk 98 96 (Tm 97) (Kb false), Sg 4 98]) .ret)))))))))⟩
theorem hb3 : hasBody Try.prog 3 = true := by kernel_rfl
def s4 : SF := ⟨108, [.tmp 6], (.seq (R0 [Oo 3 (.box 34 (Tm 0)), Sk 6 (Kb false)]) (.seq (.seq (R0 [Mv 17 1, Ln 18 17 35, Bo 19 .gtr 3 (Tm 18) (Kn 10) 3, Mv 20 19, Gm 21 2 20 false, Gc 22 21 #[Tm 21] #[36] 20 false, Pk 23 20 (Kb true) (Tm 22)]) (.cond (Tm 23) (.seq (R0 [Cl 24 15 #[] #[], Sg 6 24]) .ret) .skip)) (.seq (R0 [Mv 25 1, Cl 26 22 #[Tm 25] #[35], Mv 27 2, Cl 28 23 #[Tm 27] #[36], Sg 7 26, Sg 8 28]) (.seq (R0 [Ld 30 34 3, Mv 31 7, Mv 32 8, Cl 33 24 #[Tm 30, Tm 31, Tm 32] #[34, 35, 36], Mv 29 33, Xt 34 29 0, Xt 35 29 1, Xt 36 29 2, Xt 37 29 3, Sg 9 34, Sg 10 35, Sg 11 36, Sg 12 37]) (.seq (.seq (R0 [Mv 38 7, Mv 39 1, Cl 40 25 #[Tm 38, Tm 39] #[35, 35], Oo 41 (.unOp .not 4 (Tm 40)), Mv 42 41, Gm 43 8 42 false, Gm 44 2 42 false, Gc 45 26 #[Tm 43, Tm 44] #[36, 36] 42 false, Og 46 (.unOp .not 4 (Tm 45)) 42 false, Pk 47 42 (Kb true) (Tm 46)]) (.cond (Tm 47) (.seq (R0 [Sk 6 (Kb false)]) .ret) .skip)) (.seq (R0 [Ld 48 34 3, Mv 49 1, Cl 50 27 #[Tm 48, Tm 49] #[34, 35], Sk 13 (Kn 0), Sg 14 50]) (.seq (.seq (R0 [Mv 51 14, Bo 52 .eql 25 (Tm 51) (Kn 0) 25]) (.cond (Tm 52) (R0 [Ld 54 34 3, Mv 55 1, Mv 56 2, Cl 57 28 #[Tm 54, Tm 55, Tm 56] #[34, 35, 36], Mv 53 57, Xt 58 53 0, Xt 59 53 1, Sg 13 58, Sg 14 59]) .skip)) (.seq (.seq (R0 [Mv 60 14, Bo 61 .neq 25 (Tm 60) (Kn 0) 25]) (.cond (Tm 61) (.seq (R0 [Mv 62 12, Mv 63 14, Bo 64 .eql 25 (Tm 62) (Tm 63) 25, Mv 65 64, Gm 66 11 65 true, Gm 67 13 65 true, Gb 68 .eql 3 (Tm 66) (Tm 67) 3 65 true, Pk 69 65 (Tm 68) (Kb false), Mv 70 69, Gm 71 9 70 true, Og 72 (.call { callee := .builtin .len, args := #[Tm 71], argTypes := #[22] }) 70 true, Gb 73 .eql 3 (Tm 72) (Kn 0) 3 70 true, Pk 74 70 (Tm 73) (Kb false), Mv 75 74, Gm 76 10 75 true, Gb 77 .eql 3 (Tm 76) (Kn 0) 3 75 true, Pk 78 75 (Tm 77) (Kb false), Mv 79 78, Gc 80 15 #[] #[] 79 true, Pk 81 79 (Tm 80) (Kb false), Sg 6 81]) .ret) .skip)) (.seq (R0 [Ld 83 34 3, Mv 84 1, Mv 85 2, Cl 86 29 #[Tm 83, Tm 84, Tm 85] #[34, 35, 36], Mv 82 86, Xt 87 82 0, Xt 88 82 1, Sg 15 87, Sg 16 88]) (.seq (R0 [Mv 89 12, Bo 90 .eql 25 (Tm 89) (Kn 0) 25, Mv 91 90, Gm 92 11 91 true, Gb 93 .eql 3 (Tm 92) (Kn 0) 3 91 true, Pk 94 91 (Tm 93) (Kb false), Mv 95 94, Gm 96 9 95 true, Gm 97 15 95 true, Gc 98 18 #[Tm 96, Tm 97] #[22, 22] 95 true, Pk 99 95 (Tm 98) (Kb false), Mv 100 99, Gm 101 10 100 true, Gm 102 16 100 true, Gb 103 .eql 3 (Tm 101) (Tm 102) 3 100 true, Pk 104 100 (Tm 103) (Kb false), Mv 105 104, Gc 106 15 #[] #[] 105 true, Pk 107 105 (Tm 106) (Kb false), Sg 6 107]) .ret))))))))))⟩
def s10 : SF := ⟨202, [.tmp 4], (.seq (R0 [Oo 2 (.box 78 (Tm 0)), Oo 3 (.box 72 (Tm 1)), Sk 4 (Kb false)]) (.seq (R0 [Ld 23 78 2, Cl 24 42 #[Tm 23] #[78], Mv 22 24, Xt 25 22 0, Xt 26 22 1, Xt 27 22 2, Oo 5 (.alloc 34), Sr 34 (Tm 5) (Tm 25), Sg 6 26, Sg 7 27]) (.seq (.seq (R0 [Sk 8 (Kn 0)]) (.block 0 (.loop (.seq (.seq (R0 [Mv 28 8, Mv 29 6, Ln 30 29 35, Bo 31 .lss 3 (Tm 28) (Tm 30) 3]) (.cond (Tm 31) .skip (.exit 0))) (.seq (.block 1 (.seq (R0 [Mv 34 8, Ix 35 72 3 34, Ld 36 5 35, Oo 37 (.convert 5 3 (Tm 36)), Bo 38 .rem 3 (Tm 37) (Kn 7) 3, Sg 9 38]) (.seq (R1 [Mv 39 6, Mv 40 8, Mv 41 6, Mv 42 8, Ix 43 35 41 42, Fa 44 85 43 1, Fa 45 32 44 0, Ld 46 3 45, Mv 47 9, Bo 48 .add 3 (Tm 46) (Tm 47) 3, Oo 49 (.call { callee := .builtin .min, args := #[Kn 100, Tm 48], argTypes := #[3, 3] }), Mv 50 6, Mv 51 8, Ix 52 35 50 51, Fa 53 85 52 1, Fa 54 32 53 1, Ld 55 3 54, Mv 56 9, Bo 57 .add 3 (Tm 55) (Tm 56) 3, Oo 58 (.call { callee := .builtin .min, args := #[Kn 100, Tm 57], argTypes := #[3, 3] }), Cl 59 41 #[Tm 49, Tm 58] #[3, 3], Ix 60 35 39 40, Fa 61 85 60 1, Sr 32 (Tm 61) (Tm 59)]) (.seq (R0 [Mv 62 8, Ix 63 72 3 62, Ld 64 5 63, Bo 65 .rem 5 (Tm 64) (.const (.int .u8 5)) 5, Bo 66 .eql 5 (Tm 65) (.const (.int .u8 0)) 5]) (.cond (Tm 66) (R0 [Mv 67 6, Mv 68 8, Mv 69 6, Mv 70 8, Ix 71 35 69 70, Fa 72 85 71 1, Fa 73 32 72 0, Ld 74 3 73, Ix 75 35 67 68, Fa 76 85 75 1, Fa 77 32 76 1, Sr 3 (Tm 77) (Tm 74)]) .skip))))) (R0 [Mv 32 8, Bo 33 .add 3 (Tm 32) (Kn 1) 3, Sg 8 33])))))) (.seq (R1 [Ld 79 34 5, Mv 80 6, Cl 81 22 #[Tm 80] #[35], Cl 82 31 #[Tm 79, Tm 81] #[34, 35], Mv 78 82, Xt 83 78 0, Xt 84 78 1, Sg 10 83, Sg 11 84]) (.seq (R1 [Ld 86 34 5, Mv 87 6, Cl 88 22 #[Tm 87] #[35], Cl 89 36 #[Tm 86, Tm 88] #[34, 35], Mv 85 89, Xt 90 85 0, Xt 91 85 1, Sg 12 90, Sg 13 91]) (.seq (.seq (R0 [Mv 92 11, Bo 93 .eql 25 (Tm 92) (Kn 0) 25]) (.cond (Tm 93) (.seq (R0 [Mv 94 13, Bo 95 .eql 25 (Tm 94) (Kn 7) 25, Mv 96 95, Gm 97 12 96 true, Og 98 (.call { callee := .builtin .len, args := #[Tm 97], argTypes := #[22] }) 96 true, Gb 99 .eql 3 (Tm 98) (Kn 0) 3 96 true, Pk 100 96 (Tm 99) (Kb false), Mv 101 100, Gc 102 15 #[] #[] 101 true, Pk 103 101 (Tm 102) (Kb false), Sg 4 103]) .ret) .skip)) (.seq (.seq (R0 [Mv 104 11, Bo 105 .neq 25 (Tm 104) (Kn 9) 25, Mv 106 105, Gm 107 13 106 false, Gb 108 .neq 25 (Tm 107) (Kn 0) 25 106 false, Pk 109 106 (Kb true) (Tm 108), Mv 110 109, Gm 111 12 110 false, Og 112 (.call { callee := .builtin .len, args := #[Tm 111], argTypes := #[22] }) 110 false, Gb 113 .eql 3 (Tm 112) (Kn 0) 3 110 false, Pk 114 110 (Kb true) (Tm 113), Mv 115 114, Gm 116 12 115 false, Og 117 (.call { callee := .builtin .len, args := #[Tm 116], argTypes := #[22] }) 115 false, Gm 118 6 115 false, Og 119 (.call { callee := .builtin .len, args := #[Tm 118], argTypes := #[35] }) 115 false, Gb 120 .gtr 3 (Tm 117) (Tm 119) 3 115 false, Pk 121 115 (Kb true) (Tm 120)]) (.cond (Tm 121) (.seq (R0 [Sk 4 (Kb false)]) .ret) .skip)) (.seq (R0 [Oo 122 (.buildSlice 35 0 #[]), Sg 14 122]) (.seq (.seq (R0 [Sk 15 (Kn 0)]) (.block 2 (.loop (.seq (.seq (R0 [Mv 123 15, Mv 124 12, Ln 125 124 22, Bo 126 .lss 3 (Tm 123) (Tm 125) 3]) (.cond (Tm 126) .skip (.exit 2))) (.seq (.block 3 (.seq (.seq (R1 [Mv 129 12, Mv 130 15, Ix 131 22 129 130, Ld 132 3 131, Bo 133 .lss 3 (Tm 132) (Kn 0) 3, Mv 134 133, Gm 135 12 134 false, Gm 136 15 134 false, Gx 137 22 135 136 134 false, Gl 138 3 137 134 false, Gm 139 6 134 false, Og 140 (.call { callee := .builtin .len, args := #[Tm 139], argTypes := #[35] }) 134 false, Gb 141 .geq 3 (Tm 138) (Tm 140) 3 134 false, Pk 142 134 (Kb true) (Tm 141), Mv 143 142, Gm 144 15 143 false, Gb 145 .gtr 3 (Tm 144) (Kn 0) 3 143 false, Gm 146 145 143 false, Gm 147 12 146 true, Gm 148 15 146 true, Gx 149 22 147 148 146 true, Gl 150 3 149 146 true, Gm 151 12 146 true, Gm 152 15 146 true, Gb 153 .sub 3 (Tm 152) (Kn 1) 3 146 true, Gx 154 22 151 153 146 true, Gl 155 3 154 146 true, Gb 156 .leq 3 (Tm 150) (Tm 155) 3 146 true, Og 157 (.pick (Tm 146) (Tm 156) (Kb false)) 143 false, Pk 158 143 (Kb true) (Tm 157)]) (.cond (Tm 158) (.seq (R0 [Sk 4 (Kb false)]) .ret) .skip)) (R0 [Mv 159 14, Mv 160 6, Mv 161 12, Mv 162 15, Ix 163 22 161 162, Ld 164 3 163, Ix 165 35 160 164, Ld 166 85 165, Oo 167 (.buildSlice 35 1 #[(0, (Tm 166))]), Oo 168 (.call { callee := .builtin .append, args := #[Tm 159, Tm 167], argTypes := #[35, 35] }), Sg 14 168]))) (R0 [Mv 127 15, Bo 128 .add 3 (Tm 127) (Kn 1) 3, Sg 15 128])))))) (.seq (.seq (R1 [Ld 170 34 5, Mv 171 14, Cl 172 22 #[Tm 171] #[35], Cl 173 31 #[Tm 170, Tm 172] #[34, 35], Mv 169 173, Xt 174 169 0, Xt 175 169 1, Sg 16 174, Sg 17 175]) (.seq (R0 [Mv 176 17, Bo 177 .neq 25 (Tm 176) (Kn 9) 25]) (.cond (Tm 177) (.seq (R0 [Sk 4 (Kb false)]) .ret) .skip))) (.seq (.seq (R0 [Sk 18 (Kn 0)]) (.block 4 (.loop (.seq (.seq (R0 [Mv 178 18, Mv 179 14, Ln 180 179 35, Bo 181 .lss 3 (Tm 178) (Tm 180) 3]) (.cond (Tm 181) .skip (.exit 4))) (.seq (.block 5 (.seq (R1 [Mv 184 14, Mv 185 18, Oo 186 (.slice 35 (Tm 184) none (some (Tm 185)) none), Cl 187 22 #[Tm 186] #[35], Mv 188 14, Mv 189 18, Bo 190 .add 3 (Tm 189) (Kn 1) 3, Oo 191 (.slice 35 (Tm 188) (some (Tm 190)) none none), Oo 192 (.call { callee := .builtin .append, args := #[Tm 187, Tm 191], argTypes := #[35, 35] }), Sg 19 192]) (.seq (R0 [Ld 194 34 5, Mv 195 19, Cl 196 31 #[Tm 194, Tm 195] #[34, 35], Mv 193 196, Xt 197 193 0, Xt 198 193 1, Sg 20 197, Sg 21 198]) (.seq (R0 [Mv 199 21, Bo 200 .neq 25 (Tm 199) (Kn 0) 25]) (.cond (Tm 200) (.seq (R0 [Sk 4 (Kb false)]) .ret) .skip))))) (R0 [Mv 182 18, Bo 183 .add 3 (Tm 182) (Kn 1) 3, Sg 18 183])))))) (.seq (R0 [Cl 201 15 #[] #[], Sg 4 201]) .ret))))))))))))⟩
theorem sf10 : sfOf Try.f10 = some s10 := by kernel_rfl
theorem hb10 : hasBody Try.prog 10 = true := by kernel_rfl
def s11 : SF := ⟨180, [.tmp 6], (.seq (R0 [Oo 3 (.box 34 (Tm 0)), Sk 6 (Kb false)]) (.seq (.seq (R0 [Mv 19 1, Ln 20 19 35, Bo 21 .gtr 3 (Tm 20) (Kn 10) 3, Mv 22 21, Gm 23 2 22 false, Og 24 (.call { callee := .builtin .len, args := #[Tm 23], argTypes := #[22] }) 22 false, Gb 25 .gtr 3 (Tm 24) (Kn 10) 3 22 false, Pk 26 22 (Kb true) (Tm 25)]) (.cond (Tm 26) (.seq (R0 [Cl 27 15 #[] #[], Sg 6 27]) .ret) .skip)) (.seq (R0 [Mv 28 1, Cl 29 22 #[Tm 28] #[35], Mv 30 2, Cl 31 16 #[Tm 30] #[22], Sg 7 29, Sg 8 31]) (.seq (R0 [Ld 32 34 3, Mv 33 7, Cl 34 45 #[Tm 32, Tm 33] #[34, 35], Sg 9 34]) (.seq (R0 [Ld 36 34 3, Mv 37 7, Cl 38 46 #[Tm 36, Tm 37] #[34, 35], Mv 35 38, Xt 39 35 0, Xt 40 35 1, Sg 10 39, Sg 11 40]) (.seq (R0 [Ld 42 34 3, Mv 43 7, Mv 44 8, Cl 45 47 #[Tm 42, Tm 43, Tm 44] #[34, 35, 22], Mv 41 45, Xt 46 41 0, Xt 47 41 1, Sg 12 46, Sg 13 47]) (.seq (R0 [Ld 49 34 3, Mv 50 7, Mv 51 8, Cl 52 48 #[Tm 49, Tm 50, Tm 51] #[34, 35, 22], Mv 48 52, Xt 53 48 0, Xt 54 48 1, Sg 14 53, Sg 15 54]) (.seq (R0 [Ld 55 34 3, Mv 56 1, Cl 57 27 #[Tm 55, Tm 56] #[34, 35], Sg 16 57]) (.seq (.seq (R0 [Mv 58 7, Mv 59 1, Cl 60 25 #[Tm 58, Tm 59] #[35, 35], Oo 61 (.unOp .not 4 (Tm 60)), Mv 62 61, Gm 63 8 62 false, Gm 64 2 62 false, Gc 65 18 #[Tm 63, Tm 64] #[22, 22] 62 false, Og 66 (.unOp .not 4 (Tm 65)) 62 false, Pk 67 62 (Kb true) (Tm 66), Mv 68 67, Gm 69 9 68 false, Gm 70 16 68 false, Gb 71 .neq 25 (Tm 69) (Tm 70) 25 68 false, Pk 72 68 (Kb true) (Tm 71), Mv 73 72, Gm 74 11 73 false, Gm 75 16 73 false, Gb 76 .neq 25 (Tm 74) (Tm 75) 25 73 false, Pk 77 73 (Kb true) (Tm 76)]) (.cond (Tm 77) (.seq (R0 [Sk 6 (Kb false)]) .ret) .skip)) (.seq (.seq (R0 [Mv 78 16, Bo 79 .neq 25 (Tm 78) (Kn 0) 25]) (.cond (Tm 79) (.seq (R0 [Mv 80 13, Mv 81 16, Bo 82 .eql 25 (Tm 80) (Tm 81) 25, Mv 83 82, Gm 84 15 83 true, Gm 85 16 83 true, Gb 86 .eql 25 (Tm 84) (Tm 85) 25 83 true, Pk 87 83 (Tm 86) (Kb false), Mv 88 87, Gm 89 10 88 true, Og 90 (.call { callee := .builtin .len, args := #[Tm 89], argTypes := #[88] }) 88 true, Gb 91 .eql 3 (Tm 90) (Kn 0) 3 88 true, Pk 92 88 (Tm 91) (Kb false), Mv 93 92, Gm 94 12 93 true, Gb 95 .eql 3 (Tm 94) (Kn 0) 3 93 true, Pk 96 93 (Tm 95) (Kb false), Mv 97 96, Gm 98 14 97 true, Og 99 (.call { callee := .builtin .len, args := #[Tm 98], argTypes := #[22] }) 97 true, Gb 100 .eql 3 (Tm 99) (Kn 0) 3 97 true, Pk 101 97 (Tm 100) (Kb false), Mv 102 101, Gc 103 15 #[] #[] 102 true, Pk 104 102 (Tm 103) (Kb false), Sg 6 104]) .ret) .skip)) (.seq (R0 [Ld 105 34 3, Mv 106 1, Cl 107 49 #[Tm 105, Tm 106] #[34, 35], Sg 17 107]) (.seq (.seq (R0 [Mv 108 10, Ln 109 108 88, Mv 110 17, Ln 111 110 88, Bo 112 .neq 3 (Tm 109) (Tm 111) 3]) (.cond (Tm 112) (.seq (R0 [Sk 6 (Kb false)]) .ret) .skip)) (.seq (.seq (R0 [Sk 18 (Kn 0)]) (.block 0 (.loop (.seq (.seq (R0 [Mv 113 18, Mv 114 10, Ln 115 114 88, Bo 116 .lss 3 (Tm 113) (Tm 115) 3]) (.cond (Tm 116) .skip (.exit 0))) (.seq (.block 1 (.seq (R1 [Mv 119 10, Mv 120 18, Ix 121 88 119 120, Ld 122 22 121, Mv 123 17, Mv 124 18, Ix 125 88 123 124, Ld 126 22 125, Cl 127 18 #[Tm 122, Tm 126] #[22, 22], Oo 128 (.unOp .not 4 (Tm 127))]) (.cond (Tm 128) (.seq (R0 [Sk 6 (Kb false)]) .ret) .skip))) (R0 [Mv 117 18, Bo 118 .add 3 (Tm 117) (Kn 1) 3, Sg 18 118])))))) (.seq (.seq (R0 [Ld 129 34 3, Mv 130 1, Mv 131 2, Cl 132 50 #[Tm 129, Tm 130, Tm 131] #[34, 35, 22], Sg 16 132]) (.seq (R0 [Mv 133 16, Bo 134 .neq 25 (Tm 133) (Kn 0) 25]) (.cond (Tm 134) (.seq (R0 [Mv 135 13, Mv 136 16, Bo 137 .eql 25 (Tm 135) (Tm 136) 25, Mv 138 137, Gm 139 15 138 true, Gm 140 16 138 true, Gb 141 .eql 25 (Tm 139) (Tm 140) 25 138 true, Pk 142 138 (Tm 141) (Kb false), Mv 143 142, Gm 144 12 143 true, Gb 145 .eql 3 (Tm 144) (Kn 0) 3 143 true, Pk 146 143 (Tm 145) (Kb false), Mv 147 146, Gm 148 14 147 true, Og 149 (.call { callee := .builtin .len, args := #[Tm 148], argTypes := #[22] }) 147 true, Gb 150 .eql 3 (Tm 149) (Kn 0) 3 147 true, Pk 151 147 (Tm 150) (Kb false), Mv 152 151, Gc 153 15 #[] #[] 152 true, Pk 154 152 (Tm 153) (Kb false), Sg 6 154]) .ret) .skip))) (.seq (R0 [Mv 155 13, Bo 156 .eql 25 (Tm 155) (Kn 0) 25, Mv 157 156, Gm 158 15 157 true, Gb 159 .eql 25 (Tm 158) (Kn 0) 25 157 true, Pk 160 157 (Tm 159) (Kb false), Mv 161 160, Gm 162 12 161 true, Gl 163 34 3 161 true, Gm 164 1 161 true, Gm 165 2 161 true, Gc 166 51 #[Tm 163, Tm 164, Tm 165] #[34, 35, 22] 161 true, Gb 167 .eql 3 (Tm 162) (Tm 166) 3 161 true, Pk 168 161 (Tm 167) (Kb false), Mv 169 168, Gm 170 14 169 true, Gl 171 34 3 169 true, Gm 172 1 169 true, Gm 173 2 169 true, Gc 174 52 #[Tm 171, Tm 172, Tm 173] #[34, 35, 22] 169 true, Gc 175 18 #[Tm 170, Tm 174] #[22, 22] 169 true, Pk 176 169 (Tm 175) (Kb false), Mv 177 176, Gc 178 15 #[] #[] 177 true, Pk 179 177 (Tm 178) (Kb false), Sg 6 179]) .ret)))))))))))))))⟩
end Go.Dw.Seat
end
section
namespace Go.Dw.Seat
open Go Go.Dw Go.Proofs
def s15 : SF := ⟨202, [.tmp 0], (.seq (R0 [Sk 0 (Kb false)]) (.seq (R0 [Cl 26 56 #[Kn 200] #[3], Cl 27 57 #[] #[], Cl 28 46 #[Tm 26, Tm 27] #[34, 35], Mv 25 28, Xt 29 25 0, Xt 30 25 1, Sg 1 29, Sg 2 30]) (.seq (R0 [Cl 32 56 #[Kn 200] #[3], Cl 33 57 #[] #[], Cl 34 31 #[Tm 32, Tm 33] #[34, 35], Mv 31 34, Xt 35 31 0, Xt 36 31 1, Sg 3 35, Sg 4 36]) (.seq (R0 [Cl 38 56 #[Kn 200] #[3], Cl 39 57 #[] #[], Cl 40 36 #[Tm 38, Tm 39] #[34, 35], Mv 37 40, Xt 41 37 0, Xt 42 37 1, Sg 5 41, Sg 6 42]) (.seq (R0 [Cl 44 56 #[Kn 400] #[3], Cl 45 57 #[] #[], Cl 46 31 #[Tm 44, Tm 45] #[34, 35], Mv 43 46, Xt 47 43 0, Xt 48 43 1, Sg 7 47, Sg 8 48]) (.seq (R0 [Cl 50 56 #[Kn 400] #[3], Cl 51 57 #[] #[], Oo 52 (.buildSlice 22 3 #[(0, (Kn 0)), (1, (Kn 0)), (2, (Kn 2))]), Cl 53 58 #[Kn 2, Tm 52] #[3, 22], Oo 54 (.buildSlice 22 3 #[(0, (Kn 0)), (1, (Kn 3)), (2, (Kn 0))]), Cl 55 58 #[Kn 1, Tm 54] #[3, 22], Oo 56 (.buildSlice 22 3 #[(0, (Kn 2)), (1, (Kn 1)), (2, (Kn 0))]), Cl 57 58 #[Kn 5, Tm 56] #[3, 22], Oo 58 (.buildSlice 36 3 #[(0, (Tm 53)), (1, (Tm 55)), (2, (Tm 57))]), Cl 59 24 #[Tm 50, Tm 51, Tm 58] #[34, 35, 36], Mv 49 59, Xt 60 49 0, Xt 61 49 1, Xt 62 49 2, Xt 63 49 3, Sg 9 60, Sg 10 61, Sg 11 62, Sg 12 63]) (.seq (R0 [Cl 65 56 #[Kn 400] #[3], Cl 66 57 #[] #[], Cl 67 32 #[Tm 65, Tm 66] #[34, 35], Mv 64 67, Xt 68 64 0, Xt 69 64 1, Xt 70 64 2, Xt 71 64 3, Sg 13 68, Sg 14 69, Sg 15 70, Sg 16 71]) (.seq (R0 [Cl 73 56 #[Kn 400] #[3], Cl 74 57 #[] #[], Oo 75 (.buildSlice 22 3 #[(0, (Kn 2)), (1, (Kn 1)), (2, (Kn 0))]), Cl 76 48 #[Tm 73, Tm 74, Tm 75] #[34, 35, 22], Mv 72 76, Xt 77 72 0, Xt 78 72 1, Sg 17 77, Sg 18 78]) (.seq (R0 [Oo 80 (.buildSlice 22 4 #[(0, (Kn 100)), (1, (Kn 900)), (2, (Kn 1700)), (3, (Kn 2400))]), Oo 81 (.buildSlice 22 3 #[(0, (Kn 50)), (1, (Kn 1250)), (2, (Kn 2450))]), Cl 82 17 #[Tm 80, Tm 81] #[22, 22], Mv 79 82, Xt 83 79 0, Xt 84 79 1, Sg 19 83, Sg 20 84]) (.seq (R0 [Cl 86 38 #[Kn 1000, Kn 1, Kn 10] #[3, 3, 3], Mv 85 86, Xt 87 85 0, Xt 88 85 1, Oo 21 (.alloc 32), Sr 32 (Tm 21) (Tm 87), Sg 22 88]) (.seq (R0 [Cl 90 56 #[Kn 200] #[3], Cl 91 56 #[Kn 400] #[3], Oo 92 (.buildSlice 60 2 #[(0, (Tm 90)), (1, (Tm 91))]), Cl 93 57 #[] #[], Cl 94 35 #[Tm 92, Tm 93] #[60, 35], Mv 89 94, Xt 95 89 0, Xt 96 89 1, Sg 23 95, Sg 24 96]) (.seq (.seq (R0 [Mv 97 2, Bo 98 .neq 25 (Tm 97) (Kn 0) 25, Mv 99 98, Gm 100 4 99 false, Gb 101 .neq 25 (Tm 100) (Kn 9) 25 99 false, Pk 102 99 (Kb true) (Tm 101), Mv 103 102, Gm 104 6 103 false, Gb 105 .neq 25 (Tm 104) (Kn 0) 25 103 false, Pk 106 103 (Kb true) (Tm 105), Mv 107 106, Gm 108 8 107 false, Gb 109 .neq 25 (Tm 108) (Kn 0) 25 107 false, Pk 110 107 (Kb true) (Tm 109), Mv 111 110, Gm 112 12 111 false, Gb 113 .neq 25 (Tm 112) (Kn 0) 25 111 false, Pk 114 111 (Kb true) (Tm 113), Mv 115 114, Gm 116 16 115 false, Gb 117 .neq 25 (Tm 116) (Kn 0) 25 115 false, Pk 118 115 (Kb true) (Tm 117), Mv 119 118, Gm 120 18 119 false, Gb 121 .neq 25 (Tm 120) (Kn 0) 25 119 false, Pk 122 119 (Kb true) (Tm 121), Mv 123 122, Gm 124 20 123 false, Gb 125 .neq 25 (Tm 124) (Kn 0) 25 123 false, Pk 126 123 (Kb true) (Tm 125), Mv 127 126, Gm 128 22 127 false, Gb 129 .neq 25 (Tm 128) (Kn 0) 25 127 false, Pk 130 127 (Kb true) (Tm 129), Mv 131 130, Gm 132 24 131 false, Gb 133 .neq 25 (Tm 132) (Kn 0) 25 131 false, Pk 134 131 (Kb true) (Tm 133), Mv 135 134, Gm 136 1 135 false, Og 137 (.call { callee := .builtin .len, args := #[Tm 136], argTypes := #[88] }) 135 false, Gb 138 .neq 3 (Tm 137) (Kn 3) 3 135 false, Pk 139 135 (Kb true) (Tm 138)]) (.cond (Tm 139) (.seq (R0 [Sk 0 (Kb false)]) .ret) .skip)) (.seq (.seq (R0 [Mv 140 1, Oo 141 (.indexAddr 88 (Tm 140) (Kn 0)), Ld 142 22 141, Oo 143 (.buildSlice 22 3 #[(0, (Kn 0)), (1, (Kn 0)), (2, (Kn 2))]), Cl 144 18 #[Tm 142, Tm 143] #[22, 22], Oo 145 (.unOp .not 4 (Tm 144)), Mv 146 145, Gm 147 5 146 false, Og 148 (.buildSlice 22 1 #[(0, (Kn 1))]) 146 false, Gc 149 18 #[Tm 147, Tm 148] #[22, 22] 146 false, Og 150 (.unOp .not 4 (Tm 149)) 146 false, Pk 151 146 (Kb true) (Tm 150), Mv 152 151, Gm 153 7 152 false, Og 154 (.buildSlice 22 3 #[(0, (Kn 0)), (1, (Kn 0)), (2, (Kn 2))]) 152 false, Gc 155 58 #[Kn 2, Tm 154] #[3, 22] 152 false, Og 156 (.buildSlice 22 3 #[(0, (Kn 0)), (1, (Kn 3)), (2, (Kn 0))]) 152 false, Gc 157 58 #[Kn 1, Tm 156] #[3, 22] 152 false, Og 158 (.buildSlice 22 3 #[(0, (Kn 2)), (1, (Kn 1)), (2, (Kn 0))]) 152 false, Gc 159 58 #[Kn 5, Tm 158] #[3, 22] 152 false, Og 160 (.buildSlice 36 3 #[(0, (Tm 155)), (1, (Tm 157)), (2, (Tm 159))]) 152 false, Gc 161 26 #[Tm 153, Tm 160] #[36, 36] 152 false, Og 162 (.unOp .not 4 (Tm 161)) 152 false, Pk 163 152 (Kb true) (Tm 162), Mv 164 163, Gm 165 9 164 false, Og 166 (.buildSlice 22 3 #[(0, (Kn 10)), (1, (Kn 8)), (2, (Kn 4))]) 164 false, Gc 167 18 #[Tm 165, Tm 166] #[22, 22] 164 false, Og 168 (.unOp .not 4 (Tm 167)) 164 false, Pk 169 164 (Kb true) (Tm 168), Mv 170 169, Gm 171 10 170 false, Gb 172 .neq 3 (Tm 171) (Kn 1600) 3 170 false, Pk 173 170 (Kb true) (Tm 172)]) (.cond (Tm 173) (.seq (R0 [Sk 0 (Kb false)]) .ret) .skip)) (.seq (R1 [Mv 174 13, Bo 175 .eql 3 (Tm 174) (Kn 2) 3, Mv 176 175, Gm 177 14 176 true, Gb 178 .eql 3 (Tm 177) (Kn 8) 3 176 true, Pk 179 176 (Tm 178) (Kb false), Mv 180 179, Gm 181 15 180 true, Gb 182 .eql 3 (Tm 181) (Kn 160) 3 180 true, Pk 183 180 (Tm 182) (Kb false), Mv 184 183, Gm 185 17 184 true, Og 186 (.buildSlice 22 4 #[(0, (Kn 100)), (1, (Kn 900)), (2, (Kn 1700)), (3, (Kn 2400))]) 184 true, Gc 187 18 #[Tm 185, Tm 186] #[22, 22] 184 true, Pk 188 184 (Tm 187) (Kb false), Mv 189 188, Gm 190 19 189 true, Gb 191 .eql 3 (Tm 190) (Kn 950) 3 189 true, Pk 192 189 (Tm 191) (Kb false), Mv 193 192, Gl 194 32 21 193 true, Gc 195 41 #[Kn 99, Kn 101] #[3, 3] 193 true, Gb 196 .eql 32 (Tm 194) (Tm 195) 32 193 true, Pk 197 193 (Tm 196) (Kb false), Mv 198 197, Gm 199 23 198 true, Gb 200 .eql 3 (Tm 199) (Kn 1) 3 198 true, Pk 201 198 (Tm 200) (Kb false), Sg 0 201]) .ret))))))))))))))⟩
theorem sf15 : sfOf Try.f15 = some s15 := by kernel_rfl
theorem hb15 : hasBody Try.prog 15 = true := by kernel_rfl
def s17 : SF := ⟨114, [.tmp 4, .tmp 5], (.seq (R0 [Sk 4 (Kn 0), Sk 5 (Kn 0)]) (.seq (.block 0 (.seq (.seq (R0 [Mv 11 0, Ln 12 11 22, Bo 13 .gtr 3 (Tm 12) (Kn 10) 3, Sg 10 13]) (.cond (Tm 10) .skip (R0 [Mv 14 1, Ln 15 14 22, Bo 16 .gtr 3 (Tm 15) (Kn 10) 3, Sg 10 16]))) (.cond (Tm 10) (.seq (R0 [Sk 4 (Kn 0), Sk 5 (Kn 5)]) .ret) (.seq (.seq (R0 [Mv 18 0, Cl 19 59 #[Tm 18] #[22], Oo 20 (.unOp .not 4 (Tm 19)), Sg 17 20]) (.cond (Tm 17) .skip (R0 [Mv 21 1, Cl 22 59 #[Tm 21] #[22], Oo 23 (.unOp .not 4 (Tm 22)), Sg 17 23]))) (.cond (Tm 17) (.seq (R0 [Sk 4 (Kn 0), Sk 5 (Kn 4)]) .ret) .skip))))) (.seq (R0 [Oo 6 (.alloc 113)]) (.seq (.seq (R0 [Mv 24 0, Ln 25 24 22, Bo 26 .add 3 (Tm 25) (Kn 1) 3, Oo 27 (.move (Kn 0))]) (.block 1 (.loop (.seq (R0 [Bo 28 .lss 3 (Tm 27) (Tm 26) 3]) (.seq (.cond (Tm 28) .skip (.exit 1)) (.seq (.block 2 (.seq (R0 [Mv 29 27, Sg 7 29]) (.seq (R0 [Mv 30 1, Ln 31 30 22, Bo 32 .add 3 (Tm 31) (Kn 1) 3, Oo 33 (.move (Kn 0))]) (.block 3 (.loop (.seq (R0 [Bo 34 .lss 3 (Tm 33) (Tm 32) 3]) (.seq (.cond (Tm 34) .skip (.exit 3)) (.seq (.block 4 (.seq (R0 [Mv 35 33, Sg 8 35]) (.block 5 (.seq (R0 [Mv 88 7, Bo 89 .eql 3 (Tm 88) (Kn 0) 3, Sg 87 89]) (.cond (Tm 87) (R0 [Mv 90 7, Mv 91 8, Mv 92 8, Bo 93 .mul 3 (Tm 92) (Kn 500) 3, Ix 94 113 6 90, Ix 95 112 94 91, Sr 3 (Tm 95) (Tm 93)]) (.seq (R0 [Mv 97 8, Bo 98 .eql 3 (Tm 97) (Kn 0) 3, Sg 96 98]) (.cond (Tm 96) (R0 [Mv 99 7, Mv 100 8, Mv 101 7, Bo 102 .mul 3 (Tm 101) (Kn 500) 3, Ix 103 113 6 99, Ix 104 112 103 100, Sr 3 (Tm 104) (Tm 102)]) (.seq (R1 [Mv 36 0, Mv 37 7, Bo 38 .sub 3 (Tm 37) (Kn 1) 3, Ix 39 22 36 38, Ld 40 3 39, Mv 41 1, Mv 42 8, Bo 43 .sub 3 (Tm 42) (Kn 1) 3, Ix 44 22 41 43, Ld 45 3 44, Oo 46 (.call { callee := .builtin .max, args := #[Tm 40, Tm 45], argTypes := #[3, 3] }), Mv 47 0, Mv 48 7, Bo 49 .sub 3 (Tm 48) (Kn 1) 3, Ix 50 22 47 49, Ld 51 3 50, Mv 52 1, Mv 53 8, Bo 54 .sub 3 (Tm 53) (Kn 1) 3, Ix 55 22 52 54, Ld 56 3 55, Oo 57 (.call { callee := .builtin .min, args := #[Tm 51, Tm 56], argTypes := #[3, 3] }), Bo 58 .sub 3 (Tm 46) (Tm 57) 3, Sg 9 58]) (R1 [Mv 59 7, Mv 60 8, Mv 61 7, Bo 62 .sub 3 (Tm 61) (Kn 1) 3, Mv 63 8, Bo 64 .sub 3 (Tm 63) (Kn 1) 3, Ix 65 113 6 62, Ix 66 112 65 64, Ld 67 3 66, Mv 68 9, Bo 69 .add 3 (Tm 67) (Tm 68) 3, Mv 70 7, Bo 71 .sub 3 (Tm 70) (Kn 1) 3, Mv 72 8, Ix 73 113 6 71, Ix 74 112 73 72, Ld 75 3 74, Bo 76 .add 3 (Tm 75) (Kn 500) 3, Mv 77 7, Mv 78 8, Bo 79 .sub 3 (Tm 78) (Kn 1) 3, Ix 80 113 6 77, Ix 81 112 80 79, Ld 82 3 81, Bo 83 .add 3 (Tm 82) (Kn 500) 3, Oo 84 (.call { callee := .builtin .min, args := #[Tm 69, Tm 76, Tm 83], argTypes := #[3, 3, 3] }), Ix 85 113 6 59, Ix 86 112 85 60, Sr 3 (Tm 86) (Tm 84)]))))))))) (R0 [Bo 105 .add 3 (Tm 33) (Kn 1) 3, Mv 33 105]))))))))) (R0 [Bo 106 .add 3 (Tm 27) (Kn 1) 3, Mv 27 106]))))))) (.seq (R0 [Mv 107 0, Ln 108 107 22, Mv 109 1, Ln 110 109 22, Ix 111 113 6 108, Ix 112 112 111 110, Ld 113 3 112, Sg 4 113, Sk 5 (Kn 0)]) .ret)))))⟩
theorem sf17 : sfOf Try.f17 = some s17 := by kernel_rfl
theorem hb17 : hasBody Try.prog 17 = true := by kernel_rfl
def s18 : SF := ⟨26, [.tmp 4], (.seq (R0 [Sk 4 (Kb false)]) (.seq (.seq (R0 [Mv 6 0, Ln 7 6 22, Mv 8 1, Ln 9 8 22, Bo 10 .neq 3 (Tm 7) (Tm 9) 3]) (.cond (Tm 10) (.seq (R0 [Sk 4 (Kb false)]) .ret) .skip)) (.seq (.seq (R0 [Sk 5 (Kn 0)]) (.block 0 (.loop (.seq (.seq (R0 [Mv 11 5, Mv 12 0, Ln 13 12 22, Bo 14 .lss 3 (Tm 11) (Tm 13) 3]) (.cond (Tm 14) .skip (.exit 0))) (.seq (.block 1 (.seq (R1 [Mv 17 0, Mv 18 5, Ix 19 22 17 18, Ld 20 3 19, Mv 21 1, Mv 22 5, Ix 23 22 21 22, Ld 24 3 23, Bo 25 .neq 3 (Tm 20) (Tm 24) 3]) (.cond (Tm 25) (.seq (R0 [Sk 4 (Kb false)]) .ret) .skip))) (R0 [Mv 15 5, Bo 16 .add 3 (Tm 15) (Kn 1) 3, Sg 5 16])))))) (.seq (R0 [Sk 4 (Kb true)]) .ret))))⟩
theorem sf18 : sfOf Try.f18 = some s18 := by kernel_rfl
theorem hb18 : hasBody Try.prog 18 = true := by kernel_rfl
def s22 : SF := ⟨6, [.tmp 2], (.seq (R0 [Oo 2 (.assign (.const (.slice none 0 0)))]) (.seq (R0 [Oo 3 (.buildSlice 35 0 #[]), Mv 4 0, Oo 5 (.call { callee := .builtin .append, args := #[Tm 3, Tm 4], argTypes := #[35, 35] }), Sg 2 5]) .ret))⟩
theorem sf22 : sfOf Try.f22 = some s22 := by kernel_rfl
theorem hb22 : hasBody Try.prog 22 = true := by kernel_rfl
def s24 : SF := ⟨27, [.tmp 6, .tmp 7, .tmp 8, .tmp 9], (.seq (R0 [Oo 3 (.box 34 (Tm 0)), Oo 6 (.assign (.const (.slice none 0 0))), Sk 7 (Kn 0), Sk 8 (Kn 0), Sk 9 (Kn 0)]) (.seq (R0 [Ld 12 34 3, Mv 13 1, Cl 14 61 #[Tm 12, Tm 13] #[34, 35], Mv 11 14, Xt 15 11 0, Xt 16 11 1, Oo 10 (.alloc 115), Sr 115 (Tm 10) (Tm 15), Sg 9 16]) (.seq (.seq (R0 [Mv 17 9, Bo 18 .neq 25 (Tm 17) (Kn 0) 25]) (.cond (Tm 18) (.seq (R0 [Mv 19 9, Oo 6 (.assign (.const (.slice none 0 0))), Sk 7 (Kn 0), Sk 8 (Kn 0), Sg 9 19]) .ret) .skip)) (.seq (R0 [Ld 20 115 10, Mv 21 2, Cl 22 62 #[Tm 20, Tm 21] #[115, 36], Xt 23 22 0, Xt 24 22 1, Xt 25 22 2, Xt 26 22 3, Sg 6 23, Sg 7 24, Sg 8 25, Sg 9 26]) .ret))))⟩
theorem sf24 : sfOf Try.f24 = some s24 := by kernel_rfl
theorem hb24 : hasBody Try.prog 24 = true := by kernel_rfl
def s26 : SF := ⟨42, [.tmp 4], (.seq (R0 [Sk 4 (Kb false)]) (.seq (.seq (R0 [Mv 6 0, Ln 7 6 36, Mv 8 1, Ln 9 8 36, Bo 10 .neq 3 (Tm 7) (Tm 9) 3]) (.cond (Tm 10) (.seq (R0 [Sk 4 (Kb false)]) .ret) .skip)) (.seq (.seq (R0 [Sk 5 (Kn 0)]) (.block 0 (.loop (.seq (.seq (R0 [Mv 11 5, Mv 12 0, Ln 13 12 36, Bo 14 .lss 3 (Tm 11) (Tm 13) 3]) (.cond (Tm 14) .skip (.exit 0))) (.seq (.block 1 (.seq (R1 [Mv 17 0, Mv 18 5, Ix 19 36 17 18, Fa 20 100 19 1, Ld 21 3 20, Mv 22 1, Mv 23 5, Ix 24 36 22 23, Fa 25 100 24 1, Ld 26 3 25, Bo 27 .neq 3 (Tm 21) (Tm 26) 3, Mv 28 27, Gm 29 0 28 false, Gm 30 5 28 false, Gx 31 36 29 30 28 false, Gf 32 100 31 0 28 false, Gl 33 22 32 28 false, Gm 34 1 28 false, Gm 35 5 28 false, Gx 36 36 34 35 28 false, Gf 37 100 36 0 28 false, Gl 38 22 37 28 false, Gc 39 18 #[Tm 33, Tm 38] #[22, 22] 28 false, Og 40 (.unOp .not 4 (Tm 39)) 28 false, Pk 41 28 (Kb true) (Tm 40)]) (.cond (Tm 41) (.seq (R0 [Sk 4 (Kb false)]) .ret) .skip))) (R0 [Mv 15 5, Bo 16 .add 3 (Tm 15) (Kn 1) 3, Sg 5 16])))))) (.seq (R0 [Sk 4 (Kb true)]) .ret))))⟩
theorem sf26 : sfOf Try.f26 = some s26 := by kernel_rfl
theorem hb26 : hasBody Try.prog 26 = true := by kernel_rfl
def s31 : SF := ⟨30, [.tmp 4, .tmp 5], (.seq (R0 [Oo 2 (.box 34 (Tm 0)), Oo 4 (.assign (.const (.slice none 0 0))), Sk 5 (Kn 0)]) (.seq (R0 [Ld 12 34 2, Mv 13 1, Cl 14 61 #[Tm 12, Tm 13] #[34, 35], Mv 11 14, Xt 15 11 0, Xt 16 11 1, Oo 6 (.alloc 115), Sr 115 (Tm 6) (Tm 15), Sg 7 16]) (.seq (.seq (R0 [Mv 17 7, Bo 18 .neq 25 (Tm 17) (Kn 0) 25]) (.cond (Tm 18) (.seq (R0 [Mv 19 7, Oo 4 (.assign (.const (.slice none 0 0))), Sg 5 19]) .ret) .skip)) (.seq (R0 [Ld 21 115 6, Cl 22 67 #[Tm 21] #[115], Mv 20 22, Xt 23 20 0, Xt 24 20 1, Xt 25 20 2, Sg 8 23, Sg 9 24, Sg 10 25]) (.seq (.seq (R0 [Mv 26 10, Oo 27 (.unOp .not 4 (Tm 26))]) (.cond (Tm 27) (.seq (R0 [Oo 4 (.assign (.const (.slice none 0 0))), Sk 5 (Kn 9)]) .ret) .skip)) (.seq (R0 [Mv 28 8, Cl 29 68 #[Tm 28] #[36], Sg 4 29, Sk 5 (Kn 0)]) .ret))))))⟩
theorem sf31 : sfOf Try.f31 = some s31 := by kernel_rfl
theorem hb31 : hasBody Try.prog 31 = true := by kernel_rfl
def s32 : SF := ⟨68, [.tmp 4, .tmp 5, .tmp 6, .tmp 7], (.seq (R0 [Oo 2 (.box 34 (Tm 0)), Sk 4 (Kn 0), Sk 5 (Kn 0), Sk 6 (Kn 0), Sk 7 (Kn 0)]) (.seq (.seq (R0 [Ld 15 34 2, Mv 16 1, Cl 17 61 #[Tm 15, Tm 16] #[34, 35], Mv 14 17, Xt 18 14 0, Xt 19 14 1, Oo 8 (.alloc 115), Sr 115 (Tm 8) (Tm 18), Sg 9 19]) (.seq (R0 [Mv 20 9, Bo 21 .neq 25 (Tm 20) (Kn 0) 25]) (.cond (Tm 21) (.seq (R0 [Mv 22 9, Sk 4 (Kn 0), Sk 5 (Kn 0), Sk 6 (Kn 0), Sg 7 22]) .ret) .skip))) (.seq (R0 [Fa 23 34 2 0, Ld 24 3 23, Fa 25 34 2 1, Fa 26 32 25 0, Ld 27 3 26, Bo 28 .sub 3 (Tm 24) (Tm 27) 3, Sg 10 28]) (.seq (.seq (R0 [Mv 29 10, Bo 30 .leq 3 (Tm 29) (Kn 0) 3]) (.cond (Tm 30) (.seq (R0 [Sk 4 (Kn 0), Sk 5 (Kn 0), Sk 6 (Kn 0), Sk 7 (Kn 7)]) .ret) .skip)) (.seq (R0 [Sk 11 (Kn 0)]) (.seq (.seq (R0 [Mv 31 1, Ln 32 31 35, Oo 33 (.move (Kn 0))]) (.block 0 (.loop (.seq (R0 [Bo 34 .lss 3 (Tm 33) (Tm 32) 3]) (.seq (.cond (Tm 34) .skip (.exit 0)) (.seq (.block 1 (.seq (R0 [Ix 35 35 31 33, Ld 36 85 35, Oo 13 (.alloc 85), Sr 85 (Tm 13) (Tm 36)]) (.seq (R0 [Mv 37 11, Fa 38 85 13 0, Ld 39 3 38, Fa 40 85 13 1, Fa 41 32 40 0, Ld 42 3 41, Bo 43 .mul 3 (Tm 39) (Tm 42) 3, Bo 44 .add 3 (Tm 37) (Tm 43) 3, Sg 11 44]) (.seq (R0 [Fa 45 85 13 1, Fa 46 32 45 0, Ld 47 3 46, Bo 48 .gtr 3 (Tm 47) (Kn 0) 3]) (.cond (Tm 48) (R0 [Mv 49 4, Bo 50 .add 3 (Tm 49) (Kn 1) 3, Sg 4 50]) .skip))))) (R0 [Bo 51 .add 3 (Tm 33) (Kn 1) 3, Mv 33 51]))))))) (.seq (R0 [Mv 52 11, Mv 53 10, Bo 54 .add 3 (Tm 52) (Tm 53) 3, Bo 55 .sub 3 (Tm 54) (Kn 1) 3, Mv 56 10, Bo 57 .quo 3 (Tm 55) (Tm 56) 3, Sg 5 57]) (.seq (R1 [Mv 58 4, Bo 59 .add 3 (Tm 58) (Kn 2) 3, Bo 60 .sub 3 (Tm 59) (Kn 1) 3, Bo 61 .quo 3 (Tm 60) (Kn 2) 3, Mv 62 5, Fa 63 34 2 1, Fa 64 32 63 0, Ld 65 3 64, Mv 66 5, Bo 67 .mul 3 (Tm 65) (Tm 66) 3, Sg 4 61, Sg 5 62, Sg 6 67, Sk 7 (Kn 0)]) .ret))))))))⟩
theorem sf32 : sfOf Try.f32 = some s32 := by kernel_rfl
theorem hb32 : hasBody Try.prog 32 = true := by kernel_rfl
def s35 : SF := ⟨67, [.tmp 4, .tmp 5], (.seq (R0 [Sk 4 (Kn 0), Sk 5 (Kn 0)]) (.seq (.block 0 (.seq (R0 [Mv 16 0, Ln 17 16 60, Bo 18 .gtr 3 (Tm 17) (Kn 4) 3, Sg 15 18]) (.cond (Tm 15) (.seq (R0 [Sk 4 (Kn 0), Sk 5 (Kn 5)]) .ret) (.seq (R0 [Mv 20 0, Ln 21 20 60, Bo 22 .eql 3 (Tm 21) (Kn 0) 3, Sg 19 22]) (.cond (Tm 19) (.seq (R0 [Sk 4 (Kn 0), Sk 5 (Kn 7)]) .ret) .skip))))) (.seq (.seq (R0 [Mv 23 0, Ln 24 23 60, Oo 25 (.move (Kn 0))]) (.block 1 (.loop (.seq (R0 [Bo 26 .lss 3 (Tm 25) (Tm 24) 3]) (.seq (.cond (Tm 26) .skip (.exit 1)) (.seq (.block 2 (.seq (R0 [Ix 27 60 23 25, Ld 28 34 27, Oo 7 (.alloc 34), Sr 34 (Tm 7) (Tm 28)]) (.seq (R0 [Ld 29 34 7, Mv 30 1, Cl 31 45 #[Tm 29, Tm 30] #[34, 35], Sg 8 31]) (.seq (R0 [Mv 32 8, Bo 33 .neq 25 (Tm 32) (Kn 0) 25]) (.cond (Tm 33) (.seq (R0 [Mv 34 8, Sk 4 (Kn 0), Sg 5 34]) .ret) .skip))))) (R0 [Bo 35 .add 3 (Tm 25) (Kn 1) 3, Mv 25 35]))))))) (.seq (R0 [Oo 9 (.assign (.const (.slice none 0 0)))]) (.seq (.seq (R0 [Mv 36 0, Ln 37 36 60, Oo 38 (.move (Kn 0))]) (.block 3 (.loop (.seq (R0 [Bo 39 .lss 3 (Tm 38) (Tm 37) 3]) (.seq (.cond (Tm 39) .skip (.exit 3)) (.seq (.block 4 (.seq (R0 [Mv 40 38, Ix 41 60 36 38, Ld 42 34 41, Oo 11 (.alloc 34), Sg 10 40, Sr 34 (Tm 11) (Tm 42)]) (.seq (R0 [Ld 44 34 11, Mv 45 1, Oo 46 (.build 115 #[(0, (Tm 44)), (1, (Tm 45))]), Cl 47 67 #[Tm 46] #[115], Mv 43 47, Xt 48 43 0, Xt 49 43 1, Xt 50 43 2, Sg 12 48, Sg 13 49, Sg 14 50]) (.seq (R0 [Mv 51 14]) (.cond (Tm 51) (R0 [Mv 52 9, Mv 53 10, Mv 54 12, Ln 55 54 36, Mv 56 13, Oo 57 (.build 127 #[(0, (Tm 53)), (1, (Tm 55)), (2, (Tm 56))]), Oo 58 (.buildSlice 125 1 #[(0, (Tm 57))]), Oo 59 (.call { callee := .builtin .append, args := #[Tm 52, Tm 58], argTypes := #[125, 125] }), Sg 9 59]) .skip))))) (R0 [Bo 60 .add 3 (Tm 38) (Kn 1) 3, Mv 38 60]))))))) (.seq (.seq (R0 [Mv 61 9, Ln 62 61 125, Bo 63 .eql 3 (Tm 62) (Kn 0) 3]) (.cond (Tm 63) (.seq (R0 [Sk 4 (Kn 0), Sk 5 (Kn 9)]) .ret) .skip)) (.seq (R0 [Mv 64 9, Cl 65 70 #[Tm 64, .func 71] #[125, 130], Oo 66 (.field 127 (Tm 65) 0), Sg 4 66, Sk 5 (Kn 0)]) .ret)))))))⟩
theorem sf35 : sfOf Try.f35 = some s35 := by kernel_rfl
theorem hb35 : hasBody Try.prog 35 = true := by kernel_rfl
def s36 : SF := ⟨56, [.tmp 4, .tmp 5], (.seq (R0 [Oo 2 (.box 34 (Tm 0)), Oo 4 (.assign (.const (.slice none 0 0))), Sk 5 (Kn 0)]) (.seq (R0 [Ld 17 34 2, Mv 18 1, Cl 19 61 #[Tm 17, Tm 18] #[34, 35], Mv 16 19, Xt 20 16 0, Xt 21 16 1, Oo 6 (.alloc 115), Sr 115 (Tm 6) (Tm 20), Sg 7 21]) (.seq (.seq (R0 [Mv 22 7, Bo 23 .neq 25 (Tm 22) (Kn 0) 25]) (.cond (Tm 23) (.seq (R0 [Mv 24 7, Oo 4 (.assign (.const (.slice none 0 0))), Sg 5 24]) .ret) .skip)) (.seq (.seq (R0 [Ld 26 115 6, Cl 27 67 #[Tm 26] #[115], Mv 25 27, Xt 28 25 0, Xt 29 25 1, Xt 30 25 2, Sg 8 28, Sg 9 29, Sg 10 30]) (.seq (R0 [Mv 31 10]) (.cond (Tm 31) (.seq (R0 [Oo 4 (.assign (.const (.slice none 0 0))), Sk 5 (Kn 7)]) .ret) .skip))) (.seq (R0 [Oo 11 (.assign (.const (.slice none 0 0)))]) (.seq (.seq (R0 [Mv 32 1, Ln 33 32 35, Bo 34 .shl 3 (Kn 1) (Tm 33) 3, Oo 35 (.move (Kn 0))]) (.block 0 (.loop (.seq (R0 [Bo 36 .lss 3 (Tm 35) (Tm 34) 3]) (.seq (.cond (Tm 36) .skip (.exit 0)) (.seq (.block 1 (.seq (R0 [Mv 37 35, Sg 12 37]) (.seq (R0 [Ld 39 115 6, Mv 40 12, Cl 41 73 #[Tm 39, Tm 40] #[115, 3], Cl 42 67 #[Tm 41] #[115], Mv 38 42, Xt 43 38 0, Xt 44 38 1, Xt 45 38 2, Sg 13 43, Sg 14 44, Sg 15 45]) (.seq (R0 [Mv 46 15, Oo 47 (.unOp .not 4 (Tm 46))]) (.cond (Tm 47) (R0 [Mv 48 11, Mv 49 12, Cl 50 74 #[Tm 49] #[3], Oo 51 (.buildSlice 88 1 #[(0, (Tm 50))]), Oo 52 (.call { callee := .builtin .append, args := #[Tm 48, Tm 51], argTypes := #[88, 88] }), Sg 11 52]) .skip))))) (R0 [Bo 53 .add 3 (Tm 35) (Kn 1) 3, Mv 35 53]))))))) (.seq (R0 [Mv 54 11, Cl 55 75 #[Tm 54, .func 76] #[88, 30], Sg 4 55, Sk 5 (Kn 0)]) .ret)))))))⟩
theorem sf36 : sfOf Try.f36 = some s36 := by kernel_rfl
theorem hb36 : hasBody Try.prog 36 = true := by kernel_rfl
end Go.Dw.Seat
end
section
namespace Go.Dw.Seat
open Go Go.Dw Go.Proofs
def s38 : SF := ⟨37, [.cell 6 32, .tmp 7], (.seq (R0 [Oo 6 (.alloc 32), Sk 7 (Kn 0)]) (.seq (.block 0 (.seq (R0 [Mv 9 0, Oo 10 (.buildSlice 22 1 #[(0, (Tm 9))]), Cl 11 79 #[Kn 100, Kn 5000, Tm 10] #[3, 3, 22], Oo 12 (.unOp .not 4 (Tm 11)), Sg 8 12]) (.cond (Tm 8) (.seq (R0 [Ld 13 32 6, Sr 32 (Tm 6) (Tm 13), Sk 7 (Kn 2)]) .ret) (.seq (.seq (R0 [Mv 15 1, Oo 16 (.buildSlice 22 1 #[(0, (Tm 15))]), Cl 17 79 #[Kn 0, Kn 30, Tm 16] #[3, 3, 22], Oo 18 (.unOp .not 4 (Tm 17)), Sg 14 18]) (.cond (Tm 14) .skip (R0 [Mv 19 2, Oo 20 (.buildSlice 22 1 #[(0, (Tm 19))]), Cl 21 79 #[Kn 0, Kn 20, Tm 20] #[3, 3, 22], Oo 22 (.unOp .not 4 (Tm 21)), Sg 14 22]))) (.cond (Tm 14) (.seq (R0 [Ld 23 32 6, Sr 32 (Tm 6) (Tm 23), Sk 7 (Kn 3)]) .ret) .skip))))) (.seq (R1 [Mv 24 1, Bo 25 .mul 3 (Tm 24) (Kn 100000) 3, Mv 26 0, Mv 27 2, Bo 28 .add 3 (Tm 26) (Tm 27) 3, Bo 29 .quo 3 (Tm 25) (Tm 28) 3, Mv 30 1, Bo 31 .mul 3 (Tm 30) (Kn 100000) 3, Mv 32 0, Mv 33 2, Bo 34 .sub 3 (Tm 32) (Tm 33) 3, Bo 35 .quo 3 (Tm 31) (Tm 34) 3, Oo 36 (.build 32 #[(0, (Tm 29)), (1, (Tm 35))]), Sr 32 (Tm 6) (Tm 36), Sk 7 (Kn 0)]) .ret)))⟩
theorem sf38 : sfOf Try.f38 = some s38 := by kernel_rfl
theorem hb38 : hasBody Try.prog 38 = true := by kernel_rfl
def s41 : SF := ⟨8, [.cell 4 32], (.seq (R0 [Oo 4 (.alloc 32)]) (.seq (R0 [Mv 5 0, Mv 6 1, Oo 7 (.build 32 #[(0, (Tm 5)), (1, (Tm 6))]), Sr 32 (Tm 4) (Tm 7)]) .ret))⟩
theorem sf41 : sfOf Try.f41 = some s41 := by kernel_rfl
theorem hb41 : hasBody Try.prog 41 = true := by kernel_rfl
def o42_0 : SO := (Ld 141 100 12)
def o42_1 : SO := (Oo 142 (.buildSlice 36 1 #[(0, (Tm 141))]))
def o42_2 : SO := (Mv 143 7)
def o42_3 : SO := (Mv 144 15)
def o42_4 : SO := (Oo 145 (.slice 36 (Tm 143) (some (Tm 144)) none none))
def o42_5 : SO := (Oo 146 (.call { callee := .builtin .append, args := #[Tm 142, Tm 145], argTypes := #[36, 36] }))
def o42_6 : SO := (Mv 137 7)
def o42_7 : SO := (Mv 138 15)
def o42_8 : SO := (Mv 139 15)
def o42_9 : SO := (Oo 140 (.slice 36 (Tm 137) none (some (Tm 138)) (some (Tm 139))))
def o42_10 : SO := (Oo 147 (.call { callee := .builtin .append, args := #[Tm 140, Tm 146], argTypes := #[36, 36] }))
def o42_11 : SO := (Sg 7 147)
def s42 : SF := ⟨255, [.cell 2 34, .tmp 3, .tmp 4], (.seq (R0 [Oo 1 (.box 78 (Tm 0)), Oo 2 (.alloc 34), Oo 3 (.assign (.const (.slice none 0 0))), Oo 4 (.assign (.const (.slice none 0 0)))]) (.seq (R0 [Cl 21 41 #[Kn 3000, Kn 0] #[3, 3], Oo 22 (.build 34 #[(0, (Kn 3000)), (2, (Kn 4)), (1, (Tm 21))]), Oo 5 (.alloc 34), Sr 34 (Tm 5) (Tm 22)]) (.seq (R0 [Oo 23 (.buildSlice 35 0 #[]), Oo 24 (.buildSlice 36 0 #[]), Sg 6 23, Sg 7 24]) (.seq (.seq (R0 [Sk 8 (Kn 0)]) (.block 0 (.loop (.seq (.seq (R0 [Mv 25 8, Fa 26 78 1 1, Ld 27 5 26, Oo 28 (.convert 5 3 (Tm 27)), Bo 29 .rem 3 (Tm 28) (Kn 4) 3, Bo 30 .leq 3 (Tm 25) (Tm 29) 3]) (.cond (Tm 30) .skip (.exit 0))) (.seq (.block 1 (R0 [Mv 33 6, Mv 34 8, Fa 35 78 1 0, Ix 36 72 35 34, Ld 37 5 36, Oo 38 (.convert 5 3 (Tm 37)), Bo 39 .mul 3 (Kn 7) (Tm 38) 3, Bo 40 .quo 3 (Tm 39) (Kn 4) 3, Bo 41 .add 3 (Kn 300) (Tm 40) 3, Oo 42 (.build 85 #[(0, (Tm 41))]), Oo 43 (.buildSlice 35 1 #[(0, (Tm 42))]), Oo 44 (.call { callee := .builtin .append, args := #[Tm 33, Tm 43], argTypes := #[35, 35] }), Sg 6 44])) (R0 [Mv 31 8, Bo 32 .add 3 (Tm 31) (Kn 1) 3, Sg 8 32])))))) (.seq (R0 [Mv 45 6, Ln 46 45 35, Oo 47 (.makeSlice 22 (Tm 46) (Tm 46)), Sg 9 47]) (.seq (.seq (R0 [Sk 10 (Kn 0)]) (.block 2 (.loop (.seq (.seq (R0 [Mv 48 10, Bo 49 .lss 3 (Tm 48) (Kn 3) 3]) (.cond (Tm 49) .skip (.exit 2))) (.seq (.block 3 (.seq (R0 [Mv 52 10, Fa 53 78 1 2, Ix 54 74 53 52, Ld 55 73 54, Oo 11 (.alloc 73), Sr 73 (Tm 11) (Tm 55)]) (.seq (R1 [Mv 56 6, Ln 57 56 35, Oo 58 (.makeSlice 22 (Tm 57) (Tm 57)), Oo 59 (.indexAddr 73 (Tm 11) (Kn 4)), Ld 60 5 59, Oo 61 (.convert 5 3 (Tm 60)), Bo 62 .rem 3 (Tm 61) (Kn 8) 3, Bo 63 .add 3 (Kn 1) (Tm 62) 3, Oo 64 (.build 100 #[(0, (Tm 58)), (1, (Tm 63))]), Oo 12 (.alloc 100), Sr 100 (Tm 12) (Tm 64)]) (.seq (R1 [Oo 65 (.indexAddr 73 (Tm 11) (Kn 0)), Ld 66 5 65, Oo 67 (.convert 5 3 (Tm 66)), Mv 68 6, Ln 69 68 35, Bo 70 .rem 3 (Tm 67) (Tm 69) 3, Oo 71 (.indexAddr 73 (Tm 11) (Kn 1)), Ld 72 5 71, Oo 73 (.convert 5 3 (Tm 72)), Mv 74 6, Ln 75 74 35, Bo 76 .rem 3 (Tm 73) (Tm 75) 3, Sg 13 70, Sg 14 76]) (.seq (R0 [Fa 77 100 12 0, Ld 78 22 77, Mv 79 13, Oo 80 (.indexAddr 73 (Tm 11) (Kn 2)), Ld 81 5 80, Oo 82 (.convert 5 3 (Tm 81)), Bo 83 .rem 3 (Tm 82) (Kn 3) 3, Bo 84 .add 3 (Kn 1) (Tm 83) 3, Ix 85 22 78 79, Sr 3 (Tm 85) (Tm 84)]) (.seq (.seq (R0 [Mv 86 13, Mv 87 14, Bo 88 .neq 3 (Tm 86) (Tm 87) 3]) (.cond (Tm 88) (R1 [Fa 89 100 12 0, Ld 90 22 89, Mv 91 14, Oo 92 (.indexAddr 73 (Tm 11) (Kn 3)), Ld 93 5 92, Oo 94 (.convert 5 3 (Tm 93)), Fa 95 100 12 0, Ld 96 22 95, Mv 97 13, Ix 98 22 96 97, Ld 99 3 98, Bo 100 .sub 3 (Kn 5) (Tm 99) 3, Bo 101 .rem 3 (Tm 94) (Tm 100) 3, Ix 102 22 90 91, Sr 3 (Tm 102) (Tm 101)]) .skip)) (.seq (R1 [Mv 103 10, Bo 104 .gtr 3 (Tm 103) (Kn 0) 3, Mv 105 104, Og 106 (.indexAddr 73 (Tm 11) (Kn 4)) 105 true, Gl 107 5 106 105 true, Gb 108 .rem 5 (Tm 107) (.const (.int .u8 5)) 5 105 true, Gb 109 .eql 5 (Tm 108) (.const (.int .u8 0)) 5 105 true, Pk 110 105 (Tm 109) (Kb false), Sk 15 (Kn 0), Sg 16 110]) (.seq (.seq (R0 [Sk 17 (Kn 0)]) (.block 4 (.loop (.seq (.seq (R0 [Mv 111 17, Mv 112 7, Ln 113 112 36, Bo 114 .lss 3 (Tm 111) (Tm 113) 3]) (.cond (Tm 114) .skip (.exit 4))) (.seq (.block 5 (.seq (R1 [Mv 117 7, Mv 118 17, Ix 119 36 117 118, Fa 120 100 119 0, Ld 121 22 120, Fa 122 100 12 0, Ld 123 22 122, Cl 124 80 #[Tm 121, Tm 123] #[22, 22]]) (.cond (Tm 124) (R0 [Mv 125 17, Bo 126 .add 3 (Tm 125) (Kn 1) 3, Sg 15 126]) (.seq (R1 [Fa 127 100 12 0, Ld 128 22 127, Mv 129 7, Mv 130 17, Ix 131 36 129 130, Fa 132 100 131 0, Ld 133 22 132, Cl 134 80 #[Tm 128, Tm 133] #[22, 22], Oo 135 (.unOp .not 4 (Tm 134))]) (.cond (Tm 135) (R0 [Sk 16 (Kb true)]) .skip))))) (R0 [Mv 115 17, Bo 116 .add 3 (Tm 115) (Kn 1) 3, Sg 17 116])))))) (.seq (.seq (R0 [Mv 136 16]) (.cond (Tm 136) (.exit 3) .skip)) (.seq (.ord (.op o42_0 (.op o42_1 (.op o42_2 (.op o42_3 (.op o42_4 (.app o42_5 [7, 15, 15, 137, 138, 139] [137, 138, 139, 140] (.op o42_6 (.op o42_7 (.op o42_8 (.op o42_9 (.op o42_10 (.op o42_11 .done))))))))))))) (.seq (R0 [Fa 148 34 5 0, Ld 149 3 148, Sg 18 149]) (.seq (.seq (R0 [Sk 19 (Kn 0)]) (.block 6 (.loop (.seq (.seq (R0 [Mv 150 19, Mv 151 6, Ln 152 151 35, Bo 153 .lss 3 (Tm 150) (Tm 152) 3]) (.cond (Tm 153) .skip (.exit 6))) (.seq (.block 7 (.seq (R1 [Mv 156 18, Fa 157 100 12 0, Ld 158 22 157, Mv 159 19, Ix 160 22 158 159, Ld 161 3 160, Mv 162 6, Mv 163 19, Ix 164 35 162 163, Fa 165 85 164 0, Ld 166 3 165, Bo 167 .mul 3 (Tm 161) (Tm 166) 3, Bo 168 .sub 3 (Tm 156) (Tm 167) 3, Sg 18 168]) (R1 [Mv 169 9, Mv 170 19, Ix 171 22 169 170, Ld 172 3 171, Fa 173 100 12 0, Ld 174 22 173, Mv 175 19, Ix 176 22 174 175, Ld 177 3 176, Fa 178 100 12 1, Ld 179 3 178, Bo 180 .mul 3 (Tm 177) (Tm 179) 3, Bo 181 .add 3 (Tm 172) (Tm 180) 3, Ix 182 22 169 170, Sr 3 (Tm 182) (Tm 181)]))) (R0 [Mv 154 19, Bo 155 .add 3 (Tm 154) (Kn 1) 3, Sg 19 155])))))) (R0 [Fa 183 34 5 1, Fa 184 32 183 0, Ld 185 3 184, Mv 186 18, Oo 187 (.call { callee := .builtin .min, args := #[Tm 185, Tm 186], argTypes := #[3, 3] }), Fa 188 34 5 1, Fa 189 32 188 1, Ld 190 3 189, Mv 191 18, Oo 192 (.call { callee := .builtin .max, args := #[Tm 190, Tm 191], argTypes := #[3, 3] }), Cl 193 41 #[Tm 187, Tm 192] #[3, 3], Fa 194 34 5 1, Sr 32 (Tm 194) (Tm 193)]))))))))))))) (R0 [Mv 50 10, Bo 51 .add 3 (Tm 50) (Kn 1) 3, Sg 10 51])))))) (.seq (R0 [Fa 195 34 5 1, Fa 196 32 195 0, Ld 197 3 196, Fa 198 78 1 4, Oo 199 (.indexAddr 75 (Tm 198) (Kn 0)), Ld 200 5 199, Oo 201 (.convert 5 3 (Tm 200)), Bo 202 .rem 3 (Tm 201) (Kn 50) 3, Bo 203 .sub 3 (Tm 197) (Tm 202) 3, Oo 204 (.call { callee := .builtin .max, args := #[Kn 0, Tm 203], argTypes := #[3, 3] }), Fa 205 34 5 1, Fa 206 32 205 1, Ld 207 3 206, Fa 208 78 1 4, Oo 209 (.indexAddr 75 (Tm 208) (Kn 1)), Ld 210 5 209, Oo 211 (.convert 5 3 (Tm 210)), Bo 212 .rem 3 (Tm 211) (Kn 50) 3, Bo 213 .add 3 (Tm 207) (Tm 212) 3, Cl 214 41 #[Tm 204, Tm 213] #[3, 3], Fa 215 34 5 1, Sr 32 (Tm 215) (Tm 214)]) (.seq (.seq (R0 [Sk 20 (Kn 0)]) (.block 8 (.loop (.seq (.seq (R0 [Mv 216 20, Mv 217 6, Ln 218 217 35, Bo 219 .lss 3 (Tm 216) (Tm 218) 3]) (.cond (Tm 219) .skip (.exit 8))) (.seq (.block 9 (R1 [Mv 222 6, Mv 223 20, Mv 224 9, Mv 225 20, Ix 226 22 224 225, Ld 227 3 226, Mv 228 20, Fa 229 78 1 3, Ix 230 76 229 228, Oo 231 (.indexAddr 75 (Tm 230) (Kn 0)), Ld 232 5 231, Oo 233 (.convert 5 3 (Tm 232)), Bo 234 .rem 3 (Tm 233) (Kn 3) 3, Bo 235 .sub 3 (Tm 227) (Tm 234) 3, Oo 236 (.call { callee := .builtin .max, args := #[Kn 0, Tm 235], argTypes := #[3, 3] }), Mv 237 9, Mv 238 20, Ix 239 22 237 238, Ld 240 3 239, Mv 241 20, Fa 242 78 1 3, Ix 243 76 242 241, Oo 244 (.indexAddr 75 (Tm 243) (Kn 1)), Ld 245 5 244, Oo 246 (.convert 5 3 (Tm 245)), Bo 247 .rem 3 (Tm 246) (Kn 3) 3, Bo 248 .add 3 (Tm 240) (Tm 247) 3, Cl 249 41 #[Tm 236, Tm 248] #[3, 3], Ix 250 35 222 223, Fa 251 85 250 1, Sr 32 (Tm 251) (Tm 249)])) (R0 [Mv 220 20, Bo 221 .add 3 (Tm 220) (Kn 1) 3, Sg 20 221])))))) (.seq (R0 [Ld 252 34 5, Mv 253 6, Mv 254 7, Sr 34 (Tm 2) (Tm 252), Sg 3 253, Sg 4 254]) .ret)))))))))⟩
theorem sf42 : sfOf Try.f42 = some s42 := by kernel_rfl
theorem hb42 : hasBody Try.prog 42 = true := by kernel_rfl
def s45 : SF := ⟨14, [.tmp 4], (.seq (R0 [Oo 2 (.box 34 (Tm 0)), Sk 4 (Kn 0)]) (.seq (R0 [Ld 8 34 2, Mv 9 1, Cl 10 61 #[Tm 8, Tm 9] #[34, 35], Mv 7 10, Xt 11 7 0, Xt 12 7 1, Oo 5 (.alloc 115), Sr 115 (Tm 5) (Tm 11), Sg 6 12]) (.seq (R0 [Mv 13 6, Sg 4 13]) .ret)))⟩
theorem sf45 : sfOf Try.f45 = some s45 := by kernel_rfl
theorem hb45 : hasBody Try.prog 45 = true := by kernel_rfl
def s46 : SF := ⟨19, [.tmp 4, .tmp 5], (.seq (R0 [Oo 2 (.box 34 (Tm 0)), Oo 4 (.assign (.const (.slice none 0 0))), Sk 5 (Kn 0)]) (.seq (R0 [Ld 9 34 2, Mv 10 1, Cl 11 61 #[Tm 9, Tm 10] #[34, 35], Mv 8 11, Xt 12 8 0, Xt 13 8 1, Oo 6 (.alloc 115), Sr 115 (Tm 6) (Tm 12), Sg 7 13]) (.seq (.seq (R0 [Mv 14 7, Bo 15 .neq 25 (Tm 14) (Kn 0) 25]) (.cond (Tm 15) (.seq (R0 [Mv 16 7, Oo 4 (.assign (.const (.slice none 0 0))), Sg 5 16]) .ret) .skip)) (.seq (R0 [Ld 17 115 6, Cl 18 81 #[Tm 17] #[115], Sg 4 18, Sk 5 (Kn 0)]) .ret))))⟩
theorem sf46 : sfOf Try.f46 = some s46 := by kernel_rfl
theorem hb46 : hasBody Try.prog 46 = true := by kernel_rfl
def s48 : SF := ⟨54, [.tmp 6, .tmp 7], (.seq (R0 [Oo 3 (.box 34 (Tm 0)), Oo 6 (.assign (.const (.slice none 0 0))), Sk 7 (Kn 0)]) (.seq (R0 [Ld 15 34 3, Mv 16 1, Mv 17 2, Cl 18 82 #[Tm 15, Tm 16, Tm 17] #[34, 35, 22], Mv 14 18, Xt 19 14 0, Xt 20 14 1, Oo 8 (.alloc 115), Sr 115 (Tm 8) (Tm 19), Sg 9 20]) (.seq (.seq (R0 [Mv 21 9, Bo 22 .neq 25 (Tm 21) (Kn 0) 25]) (.cond (Tm 22) (.seq (R0 [Mv 23 9, Oo 6 (.assign (.const (.slice none 0 0))), Sg 7 23]) .ret) .skip)) (.seq (R0 [Ld 24 115 8, Mv 25 2, Cl 26 83 #[Tm 24, Tm 25] #[115, 22], Bo 27 .quo 3 (Tm 26) (Kn 2) 3, Sg 10 27]) (.seq (R0 [Mv 28 10, Oo 29 (.buildSlice 22 1 #[(0, (Tm 28))]), Sg 11 29]) (.seq (.seq (R0 [Mv 30 2, Ln 31 30 22, Oo 32 (.move (Kn 0))]) (.block 0 (.loop (.seq (R0 [Bo 33 .lss 3 (Tm 32) (Tm 31) 3]) (.seq (.cond (Tm 33) .skip (.exit 0)) (.seq (.block 1 (.seq (R0 [Mv 34 32, Ix 35 22 30 32, Ld 36 3 35, Sg 12 34, Sg 13 36]) (.seq (R0 [Mv 37 13, Oo 38 (.move (Kn 0))]) (.block 2 (.loop (.seq (R0 [Bo 39 .lss 3 (Tm 38) (Tm 37) 3]) (.seq (.cond (Tm 39) .skip (.exit 2)) (.seq (.block 3 (.seq (R0 [Mv 40 10, Mv 41 1, Mv 42 12, Ix 43 35 41 42, Fa 44 85 43 0, Ld 45 3 44, Bo 46 .add 3 (Tm 40) (Tm 45) 3, Sg 10 46]) (R0 [Mv 47 11, Mv 48 10, Oo 49 (.buildSlice 22 1 #[(0, (Tm 48))]), Oo 50 (.call { callee := .builtin .append, args := #[Tm 47, Tm 49], argTypes := #[22, 22] }), Sg 11 50]))) (R0 [Bo 51 .add 3 (Tm 38) (Kn 1) 3, Mv 38 51]))))))))) (R0 [Bo 52 .add 3 (Tm 32) (Kn 1) 3, Mv 32 52]))))))) (.seq (R0 [Mv 53 11, Sg 6 53, Sk 7 (Kn 0)]) .ret)))))))⟩
theorem sf48 : sfOf Try.f48 = some s48 := by kernel_rfl
theorem hb48 : hasBody Try.prog 48 = true := by kernel_rfl
def s56 : SF := ⟨6, [.cell 2 34], (.seq (R0 [Oo 2 (.alloc 34)]) (.seq (R0 [Mv 3 0, Oo 4 (.build 32 #[(0, (Kn 20)), (1, (Tm 3))]), Oo 5 (.build 34 #[(0, (Kn 2500)), (1, (Tm 4)), (2, (Kn 4))]), Sr 34 (Tm 2) (Tm 5)]) .ret))⟩
theorem sf56 : sfOf Try.f56 = some s56 := by kernel_rfl
theorem hb56 : hasBody Try.prog 56 = true := by kernel_rfl
def s57 : SF := ⟨8, [.tmp 0], (.seq (R0 [Oo 0 (.assign (.const (.slice none 0 0)))]) (.seq (R0 [Cl 1 41 #[Kn 10, Kn 12] #[3, 3], Oo 2 (.build 85 #[(0, (Kn 800)), (1, (Tm 1))]), Cl 3 41 #[Kn 8, Kn 9] #[3, 3], Oo 4 (.build 85 #[(0, (Kn 700)), (1, (Tm 3))]), Cl 5 41 #[Kn 4, Kn 4] #[3, 3], Oo 6 (.build 85 #[(0, (Kn 1200)), (1, (Tm 5))]), Oo 7 (.buildSlice 35 3 #[(0, (Tm 2)), (1, (Tm 4)), (2, (Tm 6))]), Sg 0 7]) .ret))⟩
theorem sf57 : sfOf Try.f57 = some s57 := by kernel_rfl
theorem hb57 : hasBody Try.prog 57 = true := by kernel_rfl
def s58 : SF := ⟨8, [.cell 4 100], (.seq (R0 [Oo 4 (.alloc 100)]) (.seq (R0 [Mv 5 1, Mv 6 0, Oo 7 (.build 100 #[(0, (Tm 5)), (1, (Tm 6))]), Sr 100 (Tm 4) (Tm 7)]) .ret))⟩
theorem sf58 : sfOf Try.f58 = some s58 := by kernel_rfl
theorem hb58 : hasBody Try.prog 58 = true := by kernel_rfl
def s59 : SF := ⟨18, [.tmp 2], (.seq (R0 [Sk 2 (Kb false)]) (.seq (R0 [Mv 3 0, Cl 4 79 #[Kn 0, Kn 3000, Tm 3] #[3, 3, 22], Mv 5 4, Gm 6 0 5 true, Gc 7 86 #[Tm 6] #[22] 5 true, Pk 8 5 (Tm 7) (Kb false), Mv 9 8, Gm 10 0 9 true, Gc 11 88 #[Tm 10] #[22] 9 true, Gc 12 87 #[Tm 11] #[22] 9 true, Og 13 (.call { callee := .builtin .len, args := #[Tm 12], argTypes := #[22] }) 9 true, Gm 14 0 9 true, Og 15 (.call { callee := .builtin .len, args := #[Tm 14], argTypes := #[22] }) 9 true, Gb 16 .eql 3 (Tm 13) (Tm 15) 3 9 true, Pk 17 9 (Tm 16) (Kb false), Sg 2 17]) .ret))⟩
theorem sf59 : sfOf Try.f59 = some s59 := by kernel_rfl
theorem hb59 : hasBody Try.prog 59 = true := by kernel_rfl
def s61 : SF := ⟨36, [.cell 4 115, .tmp 5], (.seq (R0 [Oo 2 (.box 34 (Tm 0)), Oo 4 (.alloc 115), Sk 5 (Kn 0)]) (.seq (R0 [Oo 6 (.assign (.func 89))]) (.seq (.block 0 (.seq (.seq (R0 [Fa 8 34 2 0, Ld 9 3 8, Oo 10 (.buildSlice 22 1 #[(0, (Tm 9))]), Cl 11 79 #[Kn 1, Kn 3000, Tm 10] #[3, 3, 22], Oo 12 (.unOp .not 4 (Tm 11)), Sg 7 12]) (.cond (Tm 7) .skip (.seq (R0 [Fa 13 34 2 1, Ld 14 32 13, Cl 15 90 #[Tm 14, Kn 0, Kn 3000] #[32, 3, 3], Oo 16 (.unOp .not 4 (Tm 15)), Sg 7 16]) (.cond (Tm 7) .skip (R0 [Fa 17 34 2 2, Ld 18 3 17, Oo 19 (.buildSlice 22 1 #[(0, (Tm 18))]), Cl 20 79 #[Kn 1, Kn 4, Tm 19] #[3, 3, 22], Oo 21 (.unOp .not 4 (Tm 20)), Sg 7 21]))))) (.cond (Tm 7) (.seq (R0 [Ld 22 115 4, Sr 115 (Tm 4) (Tm 22), Sk 5 (Kn 2)]) .ret) (.seq (R0 [Mv 24 1, Ln 25 24 35, Bo 26 .gtr 3 (Tm 25) (Kn 4) 3, Sg 23 26]) (.cond (Tm 23) (.seq (R0 [Ld 27 115 4, Sr 115 (Tm 4) (Tm 27), Sk 5 (Kn 5)]) .ret) (.seq (R0 [Mv 29 1, Mv 30 6, Cl 31 91 #[Tm 29, Tm 30] #[35, 142], Sg 28 31]) (.cond (Tm 28) (.seq (R0 [Ld 32 115 4, Sr 115 (Tm 4) (Tm 32), Sk 5 (Kn 4)]) .ret) .skip))))))) (.seq (R0 [Ld 33 34 2, Mv 34 1, Oo 35 (.build 115 #[(0, (Tm 33)), (1, (Tm 34))]), Sr 115 (Tm 4) (Tm 35), Sk 5 (Kn 0)]) .ret))))⟩
theorem sf61 : sfOf Try.f61 = some s61 := by kernel_rfl
theorem hb61 : hasBody Try.prog 61 = true := by kernel_rfl
def s62 : SF := ⟨29, [.tmp 4, .tmp 5, .tmp 6, .tmp 7], (.seq (R0 [Oo 2 (.box 115 (Tm 0)), Oo 4 (.assign (.const (.slice none 0 0))), Sk 5 (Kn 0), Sk 6 (Kn 0), Sk 7 (Kn 0)]) (.seq (.seq (R0 [Ld 10 115 2, Mv 11 1, Cl 12 92 #[Tm 10, Tm 11] #[115, 36], Mv 9 12, Xt 13 9 0, Xt 14 9 1, Xt 15 9 2, Xt 16 9 3, Sg 4 13, Sg 5 14, Sg 6 15, Sg 7 16]) (.seq (R0 [Mv 17 7, Bo 18 .neq 25 (Tm 17) (Kn 0) 25]) (.cond (Tm 18) (.seq (R0 [Mv 19 6, Mv 20 7, Oo 4 (.assign (.const (.slice none 0 0))), Sk 5 (Kn 0), Sg 6 19, Sg 7 20]) .ret) .skip))) (.seq (.seq (R0 [Ld 21 115 2, Mv 22 4, Cl 23 93 #[Tm 21, Tm 22] #[115, 22], Sg 8 23]) (.seq (R0 [Mv 24 8, Bo 25 .geq 3 (Tm 24) (Kn 0) 3]) (.cond (Tm 25) (.seq (R0 [Mv 26 8, Oo 4 (.assign (.const (.slice none 0 0))), Sk 5 (Kn 0), Sg 6 26, Sk 7 (Kn 9)]) .ret) .skip))) (.seq (R0 [Mv 27 4, Mv 28 5, Sg 4 27, Sg 5 28, Sk 6 (Kn 0), Sk 7 (Kn 0)]) .ret))))⟩
theorem sf62 : sfOf Try.f62 = some s62 := by kernel_rfl
theorem hb62 : hasBody Try.prog 62 = true := by kernel_rfl
def s67 : SF := ⟨35, [.tmp 2, .tmp 3, .tmp 4], (.seq (R0 [Oo 1 (.box 115 (Tm 0)), Oo 2 (.assign (.const (.slice none 0 0))), Sk 3 (Kn 0), Sk 4 (Kb false)]) (.seq (.seq (R0 [Oo 7 (.move (Kn 0))]) (.block 0 (.loop (.seq (R0 [Bo 8 .lss 3 (Tm 7) (Kn 4) 3]) (.seq (.cond (Tm 8) .skip (.exit 0)) (.seq (.block 1 (.seq (R0 [Mv 9 7, Sg 5 9]) (.seq (R1 [Ld 10 115 1, Ld 11 115 1, Cl 12 81 #[Tm 11] #[115], Oo 13 (.build 146 #[(0, (Tm 10)), (1, (Tm 12))]), Oo 14 (.box 146 (Tm 13)), Sg 6 14]) (.seq (R0 [Mv 15 6, Mv 16 5, Fa 17 115 1 1, Ld 18 35 17, Ln 19 18 35, Oo 20 (.makeSlice 22 (Tm 19) (Tm 19)), Cl 21 94 #[Tm 15, .const (.slice none 0 0), Kn 0, Tm 16, Kn 0, Tm 20] #[144, 36, 3, 3, 3, 22]]) (.seq (R0 [Mv 22 6, Nk 23 22, Fa 24 146 23 4, Ld 25 4 24]) (.cond (Tm 25) (.seq (R1 [Mv 26 6, Nk 27 26, Fa 28 146 27 2, Ld 29 36 28, Mv 30 6, Nk 31 30, Fa 32 146 31 3, Ld 33 3 32, Sg 2 29, Sg 3 33, Sk 4 (Kb true)]) .ret) .skip)))))) (R0 [Bo 34 .add 3 (Tm 7) (Kn 1) 3, Mv 7 34]))))))) (.seq (R0 [Oo 2 (.assign (.const (.slice none 0 0))), Sk 3 (Kn 0), Sk 4 (Kb false)]) .ret)))⟩
theorem sf67 : sfOf Try.f67 = some s67 := by kernel_rfl
theorem hb67 : hasBody Try.prog 67 = true := by kernel_rfl
def s68 : SF := ⟨22, [.tmp 2], (.seq (R0 [Oo 2 (.assign (.const (.slice none 0 0)))]) (.seq (.seq (R0 [Mv 5 0, Ln 6 5 36, Oo 7 (.move (Kn 0))]) (.block 0 (.loop (.seq (R0 [Bo 8 .lss 3 (Tm 7) (Tm 6) 3]) (.seq (.cond (Tm 8) .skip (.exit 0)) (.seq (.block 1 (.seq (R0 [Ix 9 36 5 7, Ld 10 100 9, Oo 4 (.alloc 100), Sr 100 (Tm 4) (Tm 10)]) (R1 [Mv 11 2, Fa 12 100 4 0, Ld 13 22 12, Cl 14 88 #[Tm 13] #[22], Fa 15 100 4 1, Ld 16 3 15, Oo 17 (.build 100 #[(0, (Tm 14)), (1, (Tm 16))]), Oo 18 (.buildSlice 36 1 #[(0, (Tm 17))]), Oo 19 (.call { callee := .builtin .append, args := #[Tm 11, Tm 18], argTypes := #[36, 36] }), Sg 2 19]))) (R0 [Bo 20 .add 3 (Tm 7) (Kn 1) 3, Mv 7 20]))))))) (.seq (R0 [Mv 21 2, Sg 2 21]) .ret)))⟩
theorem sf68 : sfOf Try.f68 = some s68 := by kernel_rfl
theorem hb68 : hasBody Try.prog 68 = true := by kernel_rfl
def s70 : SF := ⟨33, [.cell 4 127], (.seq (R0 [Oo 4 (.alloc 127)]) (.seq (.seq (R0 [Mv 7 0, Ln 8 7 125, Bo 9 .lss 3 (Tm 8) (Kn 1) 3]) (.cond (Tm 9) (R0 [⟨some 10, .makeInterface 9 (.const (.string ⟨#[115, 108, 105, 99, 101, 115, 46, 77, 105, 110, 70, 117, 110, 99, 58, 32, 101, 109, 112, 116, 121, 32, 108, 105, 115, 116]⟩)), none⟩, ⟨none, .panic (Tm 10), none⟩]) .skip)) (.seq (R0 [Mv 11 0, Oo 12 (.indexAddr 125 (Tm 11) (Kn 0)), Ld 13 127 12, Oo 5 (.alloc 127), Sr 127 (Tm 5) (Tm 13)]) (.seq (.seq (R0 [Sk 6 (Kn 1)]) (.block 0 (.loop (.seq (.seq (R0 [Mv 14 6, Mv 15 0, Ln 16 15 125, Bo 17 .lss 3 (Tm 14) (Tm 16) 3]) (.cond (Tm 17) .skip (.exit 0))) (.seq (.block 1 (.seq (R1 [Mv 20 1, Mv 21 0, Mv 22 6, Ix 23 125 21 22, Ld 24 127 23, Ld 25 127 5, Oo 26 (.call { callee := .value (Tm 20), args := #[Tm 24, Tm 25], argTypes := #[127, 127] }), Bo 27 .lss 3 (Tm 26) (Kn 0) 3]) (.cond (Tm 27) (R0 [Mv 28 0, Mv 29 6, Ix 30 125 28 29, Ld 31 127 30, Sr 127 (Tm 5) (Tm 31)]) .skip))) (R0 [Mv 18 6, Bo 19 .add 3 (Tm 18) (Kn 1) 3, Sg 6 19])))))) (.seq (R0 [Ld 32 127 5, Sr 127 (Tm 4) (Tm 32)]) .ret)))))⟩
theorem sf70 : sfOf Try.f70 = some s70 := by kernel_rfl
theorem hb70 : hasBody Try.prog 70 = true := by kernel_rfl
def s71 : SF := ⟨22, [.tmp 4], (.seq (R0 [Oo 2 (.box 127 (Tm 0)), Oo 3 (.box 127 (Tm 1)), Sk 4 (Kn 0)]) (.seq (R0 [Fa 5 127 2 1, Ld 6 3 5, Fa 7 127 3 1, Ld 8 3 7, Bo 9 .sub 3 (Tm 6) (Tm 8) 3, Fa 10 127 2 2, Ld 11 3 10, Fa 12 127 3 2, Ld 13 3 12, Bo 14 .sub 3 (Tm 11) (Tm 13) 3, Fa 15 127 2 0, Ld 16 3 15, Fa 17 127 3 0, Ld 18 3 17, Bo 19 .sub 3 (Tm 16) (Tm 18) 3, Oo 20 (.buildSlice 22 3 #[(0, (Tm 9)), (1, (Tm 14)), (2, (Tm 19))]), Cl 21 72 #[Tm 20] #[22], Sg 4 21]) .ret))⟩
theorem sf71 : sfOf Try.f71 = some s71 := by kernel_rfl
theorem hb71 : hasBody Try.prog 71 = true := by kernel_rfl
def s72 : SF := ⟨18, [.tmp 2], (.seq (R0 [Sk 2 (Kn 0)]) (.seq (R0 [Sk 3 (Kn 0)]) (.seq (.seq (R0 [Mv 6 0, Ln 7 6 22, Oo 8 (.move (Kn 0))]) (.block 0 (.loop (.seq (R0 [Bo 9 .lss 3 (Tm 8) (Tm 7) 3]) (.seq (.cond (Tm 9) .skip (.exit 0)) (.seq (.block 1 (.seq (R0 [Ix 10 22 6 8, Ld 11 3 10, Sg 5 11]) (.seq (R0 [Mv 12 5, Mv 13 3, Bo 14 .neq 3 (Tm 12) (Tm 13) 3]) (.cond (Tm 14) (.seq (R0 [Mv 15 5, Sg 2 15]) .ret) .skip)))) (R0 [Bo 16 .add 3 (Tm 8) (Kn 1) 3, Mv 8 16]))))))) (.seq (R0 [Mv 17 3, Sg 2 17]) .ret))))⟩
theorem sf72 : sfOf Try.f72 = some s72 := by kernel_rfl
theorem hb72 : hasBody Try.prog 72 = true := by kernel_rfl
end Go.Dw.Seat
end
section
namespace Go.Dw.Seat
open Go Go.Dw Go.Proofs
def s73 : SF := ⟨32, [.cell 4 115], (.seq (R0 [Oo 2 (.box 115 (Tm 0)), Oo 4 (.alloc 115)]) (.seq (R0 [Fa 8 115 2 0, Ld 9 34 8, Oo 10 (.build 115 #[(0, (Tm 9)), (1, (.const (.slice none 0 0)))]), Oo 5 (.alloc 115), Sr 115 (Tm 5) (Tm 10)]) (.seq (.seq (R0 [Fa 11 115 2 1, Ld 12 35 11, Ln 13 12 35, Oo 14 (.move (Kn 0))]) (.block 0 (.loop (.seq (R0 [Bo 15 .lss 3 (Tm 14) (Tm 13) 3]) (.seq (.cond (Tm 15) .skip (.exit 0)) (.seq (.block 1 (.seq (R0 [Mv 16 14, Ix 17 35 12 14, Ld 18 85 17, Oo 7 (.alloc 85), Sg 6 16, Sr 85 (Tm 7) (Tm 18)]) (.seq (R0 [Mv 19 1, Mv 20 6, Bo 21 .shr 3 (Tm 19) (Tm 20) 3, Bo 22 .and 3 (Tm 21) (Kn 1) 3, Bo 23 .eql 3 (Tm 22) (Kn 1) 3]) (.cond (Tm 23) (R0 [Fa 24 115 5 1, Ld 25 35 24, Ld 26 85 7, Oo 27 (.buildSlice 35 1 #[(0, (Tm 26))]), Oo 28 (.call { callee := .builtin .append, args := #[Tm 25, Tm 27], argTypes := #[35, 35] }), Fa 29 115 5 1, Sr 35 (Tm 29) (Tm 28)]) .skip)))) (R0 [Bo 30 .add 3 (Tm 14) (Kn 1) 3, Mv 14 30]))))))) (.seq (R0 [Ld 31 115 5, Sr 115 (Tm 4) (Tm 31)]) .ret))))⟩
theorem sf73 : sfOf Try.f73 = some s73 := by kernel_rfl
theorem hb73 : hasBody Try.prog 73 = true := by kernel_rfl
def s74 : SF := ⟨20, [.tmp 2], (.seq (R0 [Oo 2 (.assign (.const (.slice none 0 0)))]) (.seq (.seq (R0 [Sk 3 (Kn 0)]) (.block 0 (.loop (.seq (.seq (R0 [Mv 4 0, Mv 5 3, Bo 6 .shr 3 (Tm 4) (Tm 5) 3, Bo 7 .gtr 3 (Tm 6) (Kn 0) 3]) (.cond (Tm 7) .skip (.exit 0))) (.seq (.block 1 (.seq (R0 [Mv 10 0, Mv 11 3, Bo 12 .shr 3 (Tm 10) (Tm 11) 3, Bo 13 .and 3 (Tm 12) (Kn 1) 3, Bo 14 .eql 3 (Tm 13) (Kn 1) 3]) (.cond (Tm 14) (R0 [Mv 15 2, Mv 16 3, Oo 17 (.buildSlice 22 1 #[(0, (Tm 16))]), Oo 18 (.call { callee := .builtin .append, args := #[Tm 15, Tm 17], argTypes := #[22, 22] }), Sg 2 18]) .skip))) (R0 [Mv 8 3, Bo 9 .add 3 (Tm 8) (Kn 1) 3, Sg 3 9])))))) (.seq (R0 [Mv 19 2, Sg 2 19]) .ret)))⟩
theorem sf74 : sfOf Try.f74 = some s74 := by kernel_rfl
theorem hb74 : hasBody Try.prog 74 = true := by kernel_rfl
def s75 : SF := ⟨33, [.tmp 4], (.seq (R0 [Oo 4 (.assign (.const (.slice none 0 0)))]) (.seq (.seq (R0 [Mv 7 0, Ln 8 7 88, Bo 9 .lss 3 (Tm 8) (Kn 1) 3]) (.cond (Tm 9) (R0 [⟨some 10, .makeInterface 9 (.const (.string ⟨#[115, 108, 105, 99, 101, 115, 46, 77, 105, 110, 70, 117, 110, 99, 58, 32, 101, 109, 112, 116, 121, 32, 108, 105, 115, 116]⟩)), none⟩, ⟨none, .panic (Tm 10), none⟩]) .skip)) (.seq (R0 [Mv 11 0, Oo 12 (.indexAddr 88 (Tm 11) (Kn 0)), Ld 13 22 12, Sg 5 13]) (.seq (.seq (R0 [Sk 6 (Kn 1)]) (.block 0 (.loop (.seq (.seq (R0 [Mv 14 6, Mv 15 0, Ln 16 15 88, Bo 17 .lss 3 (Tm 14) (Tm 16) 3]) (.cond (Tm 17) .skip (.exit 0))) (.seq (.block 1 (.seq (R0 [Mv 20 1, Mv 21 0, Mv 22 6, Ix 23 88 21 22, Ld 24 22 23, Mv 25 5, Oo 26 (.call { callee := .value (Tm 20), args := #[Tm 24, Tm 25], argTypes := #[22, 22] }), Bo 27 .lss 3 (Tm 26) (Kn 0) 3]) (.cond (Tm 27) (R0 [Mv 28 0, Mv 29 6, Ix 30 88 28 29, Ld 31 22 30, Sg 5 31]) .skip))) (R0 [Mv 18 6, Bo 19 .add 3 (Tm 18) (Kn 1) 3, Sg 6 19])))))) (.seq (R0 [Mv 32 5, Sg 4 32]) .ret)))))⟩
theorem sf75 : sfOf Try.f75 = some s75 := by kernel_rfl
theorem hb75 : hasBody Try.prog 75 = true := by kernel_rfl
def s76 : SF := ⟨15, [.tmp 4], (.seq (R0 [Sk 4 (Kn 0)]) (.seq (R0 [Mv 5 0, Ln 6 5 22, Mv 7 1, Ln 8 7 22, Bo 9 .sub 3 (Tm 6) (Tm 8) 3, Mv 10 0, Mv 11 1, Cl 12 77 #[Tm 10, Tm 11] #[22, 22], Oo 13 (.buildSlice 22 2 #[(0, (Tm 9)), (1, (Tm 12))]), Cl 14 72 #[Tm 13] #[22], Sg 4 14]) .ret))⟩
theorem sf76 : sfOf Try.f76 = some s76 := by kernel_rfl
theorem hb76 : hasBody Try.prog 76 = true := by kernel_rfl
def s77 : SF := ⟨36, [.tmp 4], (.seq (R0 [Sk 4 (Kn 0)]) (.seq (.seq (R0 [Mv 9 0, Ln 10 9 22, Oo 11 (.move (Kn 0))]) (.block 0 (.loop (.seq (R0 [Bo 12 .lss 3 (Tm 11) (Tm 10) 3]) (.seq (.cond (Tm 12) .skip (.exit 0)) (.seq (.block 1 (.seq (R0 [Mv 13 11, Ix 14 22 9 11, Ld 15 3 14, Sg 5 13, Sg 6 15]) (.seq (.seq (R0 [Mv 16 5, Mv 17 1, Ln 18 17 22, Bo 19 .geq 3 (Tm 16) (Tm 18) 3]) (.cond (Tm 19) (.seq (R0 [Sk 4 (Kn 1)]) .ret) .skip)) (.seq (R0 [Mv 20 1, Mv 21 5, Ix 22 22 20 21, Ld 23 3 22, Sg 7 23]) (.seq (R0 [Mv 24 6, Mv 25 7, Cl 26 96 #[Tm 24, Tm 25] #[3, 3], Sg 8 26]) (.seq (R0 [Mv 27 8, Bo 28 .neq 3 (Tm 27) (Kn 0) 3]) (.cond (Tm 28) (.seq (R0 [Mv 29 8, Sg 4 29]) .ret) .skip))))))) (R0 [Bo 30 .add 3 (Tm 11) (Kn 1) 3, Mv 11 30]))))))) (.seq (.seq (R0 [Mv 31 0, Ln 32 31 22, Mv 33 1, Ln 34 33 22, Bo 35 .lss 3 (Tm 32) (Tm 34) 3]) (.cond (Tm 35) (.seq (R0 [Sk 4 (Kn (-1))]) .ret) .skip)) (.seq (R0 [Sk 4 (Kn 0)]) .ret))))⟩
theorem sf77 : sfOf Try.f77 = some s77 := by kernel_rfl
theorem hb77 : hasBody Try.prog 77 = true := by kernel_rfl
def s79 : SF := ⟨11, [.tmp 6], (.seq (R0 [Oo 3 (.box 3 (Tm 0)), Oo 4 (.box 3 (Tm 1)), Sk 6 (Kb false)]) (.seq (R0 [Mv 7 2, Oo 8 (.makeFunc (.func 98) #[] #[Tm 3, Tm 4]), Cl 9 97 #[Tm 7, Tm 8] #[22, 150], Oo 10 (.unOp .not 4 (Tm 9)), Sg 6 10]) .ret))⟩
theorem sf79 : sfOf Try.f79 = some s79 := by kernel_rfl
theorem hb79 : hasBody Try.prog 79 = true := by kernel_rfl
def s80 : SF := ⟨30, [.tmp 4], (.seq (R0 [Sk 4 (Kb false)]) (.seq (.seq (R0 [Sk 5 (Kn 0)]) (.block 0 (.loop (.seq (.seq (R0 [Mv 6 5, Mv 7 0, Ln 8 7 22, Bo 9 .lss 3 (Tm 6) (Tm 8) 3]) (.cond (Tm 9) .skip (.exit 0))) (.seq (.block 1 (.seq (R1 [Mv 12 0, Mv 13 5, Ix 14 22 12 13, Ld 15 3 14, Mv 16 1, Mv 17 5, Ix 18 22 16 17, Ld 19 3 18, Bo 20 .neq 3 (Tm 15) (Tm 19) 3]) (.cond (Tm 20) (.seq (R1 [Mv 21 0, Mv 22 5, Ix 23 22 21 22, Ld 24 3 23, Mv 25 1, Mv 26 5, Ix 27 22 25 26, Ld 28 3 27, Bo 29 .lss 3 (Tm 24) (Tm 28) 3, Sg 4 29]) .ret) .skip))) (R0 [Mv 10 5, Bo 11 .add 3 (Tm 10) (Kn 1) 3, Sg 5 11])))))) (.seq (R0 [Sk 4 (Kb false)]) .ret)))⟩
theorem sf80 : sfOf Try.f80 = some s80 := by kernel_rfl
theorem hb80 : hasBody Try.prog 80 = true := by kernel_rfl
def s81 : SF := ⟨6, [.tmp 2], (.seq (R0 [Oo 1 (.box 115 (Tm 0)), Oo 2 (.assign (.const (.slice none 0 0)))]) (.seq (R0 [Ld 3 115 1, Cl 4 100 #[Tm 3, .const (.slice none 0 0)] #[115, 22], Cl 5 99 #[Tm 4] #[159], Sg 2 5]) .ret))⟩
theorem sf81 : sfOf Try.f81 = some s81 := by kernel_rfl
theorem hb81 : hasBody Try.prog 81 = true := by kernel_rfl
def s82 : SF := ⟨23, [.cell 6 115, .tmp 7], (.seq (R0 [Oo 3 (.box 34 (Tm 0)), Oo 6 (.alloc 115), Sk 7 (Kn 0)]) (.seq (R0 [Ld 11 34 3, Mv 12 1, Cl 13 61 #[Tm 11, Tm 12] #[34, 35], Mv 10 13, Xt 14 10 0, Xt 15 10 1, Oo 8 (.alloc 115), Sr 115 (Tm 8) (Tm 14), Sg 9 15]) (.seq (.seq (R0 [Mv 16 9, Bo 17 .eql 25 (Tm 16) (Kn 0) 25]) (.cond (Tm 17) (R0 [Ld 18 115 8, Mv 19 2, Cl 20 101 #[Tm 18, Tm 19] #[115, 22], Sg 9 20]) .skip)) (.seq (R0 [Ld 21 115 8, Mv 22 9, Sr 115 (Tm 6) (Tm 21), Sg 7 22]) .ret))))⟩
theorem sf82 : sfOf Try.f82 = some s82 := by kernel_rfl
theorem hb82 : hasBody Try.prog 82 = true := by kernel_rfl
def s83 : SF := ⟨30, [.tmp 4], (.seq (R0 [Oo 2 (.box 115 (Tm 0)), Sk 4 (Kn 0)]) (.seq (R0 [Fa 8 115 2 0, Fa 9 34 8 0, Ld 10 3 9, Sg 5 10]) (.seq (.seq (R0 [Mv 11 1, Ln 12 11 22, Oo 13 (.move (Kn 0))]) (.block 0 (.loop (.seq (R0 [Bo 14 .lss 3 (Tm 13) (Tm 12) 3]) (.seq (.cond (Tm 14) .skip (.exit 0)) (.seq (.block 1 (.seq (R0 [Mv 15 13, Ix 16 22 11 13, Ld 17 3 16, Sg 6 15, Sg 7 17]) (R0 [Mv 18 5, Mv 19 7, Fa 20 115 2 1, Ld 21 35 20, Mv 22 6, Ix 23 35 21 22, Fa 24 85 23 0, Ld 25 3 24, Bo 26 .mul 3 (Tm 19) (Tm 25) 3, Bo 27 .sub 3 (Tm 18) (Tm 26) 3, Sg 5 27]))) (R0 [Bo 28 .add 3 (Tm 13) (Kn 1) 3, Mv 13 28]))))))) (.seq (R0 [Mv 29 5, Sg 4 29]) .ret))))⟩
theorem sf83 : sfOf Try.f83 = some s83 := by kernel_rfl
theorem hb83 : hasBody Try.prog 83 = true := by kernel_rfl
def s85 : SF := ⟨30, [.tmp 4], (.seq (R0 [Oo 3 (.box 100 (Tm 1)), Oo 4 (.assign (.const (.slice none 0 0)))]) (.seq (R0 [Mv 8 0, Cl 9 88 #[Tm 8] #[22], Sg 5 9]) (.seq (.seq (R0 [Fa 10 100 3 0, Ld 11 22 10, Ln 12 11 22, Oo 13 (.move (Kn 0))]) (.block 0 (.loop (.seq (R0 [Bo 14 .lss 3 (Tm 13) (Tm 12) 3]) (.seq (.cond (Tm 14) .skip (.exit 0)) (.seq (.block 1 (.seq (R0 [Mv 15 13, Ix 16 22 11 13, Ld 17 3 16, Sg 6 15, Sg 7 17]) (R1 [Mv 18 5, Mv 19 6, Ix 20 22 18 19, Ld 21 3 20, Mv 22 7, Fa 23 100 3 1, Ld 24 3 23, Bo 25 .mul 3 (Tm 22) (Tm 24) 3, Bo 26 .add 3 (Tm 21) (Tm 25) 3, Ix 27 22 18 19, Sr 3 (Tm 27) (Tm 26)]))) (R0 [Bo 28 .add 3 (Tm 13) (Kn 1) 3, Mv 13 28]))))))) (.seq (R0 [Mv 29 5, Sg 4 29]) .ret))))⟩
theorem sf85 : sfOf Try.f85 = some s85 := by kernel_rfl
theorem hb85 : hasBody Try.prog 85 = true := by kernel_rfl
def s86 : SF := ⟨21, [.tmp 2], (.seq (R0 [Sk 2 (Kb false)]) (.seq (.seq (R0 [Mv 4 0, Ln 5 4 22, Bo 6 .sub 3 (Tm 5) (Kn 1) 3, Sg 3 6]) (.block 0 (.loop (.seq (.seq (R0 [Mv 7 3, Bo 8 .gtr 3 (Tm 7) (Kn 0) 3]) (.cond (Tm 8) .skip (.exit 0))) (.seq (.block 1 (.seq (R1 [Mv 11 0, Mv 12 3, Ix 13 22 11 12, Ld 14 3 13, Mv 15 0, Mv 16 3, Bo 17 .sub 3 (Tm 16) (Kn 1) 3, Ix 18 22 15 17, Ld 19 3 18, Cl 20 102 #[Tm 14, Tm 19] #[3, 3]]) (.cond (Tm 20) (.seq (R0 [Sk 2 (Kb false)]) .ret) .skip))) (R0 [Mv 9 3, Bo 10 .sub 3 (Tm 9) (Kn 1) 3, Sg 3 10])))))) (.seq (R0 [Sk 2 (Kb true)]) .ret)))⟩
theorem sf86 : sfOf Try.f86 = some s86 := by kernel_rfl
theorem hb86 : hasBody Try.prog 86 = true := by kernel_rfl
def s87 : SF := ⟨61, [.tmp 2], (.seq (R0 [Oo 2 (.assign (.const (.slice none 0 0)))]) (.seq (.seq (R0 [Mv 6 0, Ln 7 6 22, Bo 8 .lss 3 (Tm 7) (Kn 2) 3]) (.cond (Tm 8) (.seq (R0 [Mv 9 0, Sg 2 9]) .ret) .skip)) (.seq (.seq (R0 [Sk 3 (Kn 1)]) (.block 0 (.loop (.seq (.seq (R0 [Mv 10 3, Mv 11 0, Ln 12 11 22, Bo 13 .lss 3 (Tm 10) (Tm 12) 3]) (.cond (Tm 13) .skip (.exit 0))) (.seq (.block 1 (.seq (R1 [Mv 16 0, Mv 17 3, Ix 18 22 16 17, Ld 19 3 18, Mv 20 0, Mv 21 3, Bo 22 .sub 3 (Tm 21) (Kn 1) 3, Ix 23 22 20 22, Ld 24 3 23, Bo 25 .eql 3 (Tm 19) (Tm 24) 3]) (.cond (Tm 25) (.seq (R0 [Mv 26 0, Mv 27 3, Oo 28 (.slice 22 (Tm 26) (some (Tm 27)) none none), Sg 4 28]) (.seq (.seq (R0 [Sk 5 (Kn 1)]) (.block 2 (.loop (.seq (.seq (R0 [Mv 29 5, Mv 30 4, Ln 31 30 22, Bo 32 .lss 3 (Tm 29) (Tm 31) 3]) (.cond (Tm 32) .skip (.exit 2))) (.seq (.block 3 (.seq (R1 [Mv 35 4, Mv 36 5, Ix 37 22 35 36, Ld 38 3 37, Mv 39 4, Mv 40 5, Bo 41 .sub 3 (Tm 40) (Kn 1) 3, Ix 42 22 39 41, Ld 43 3 42, Bo 44 .neq 3 (Tm 38) (Tm 43) 3]) (.cond (Tm 44) (.seq (R0 [Mv 45 0, Mv 46 3, Mv 47 4, Mv 48 5, Ix 49 22 47 48, Ld 50 3 49, Ix 51 22 45 46, Sr 3 (Tm 51) (Tm 50)]) (R0 [Mv 52 3, Bo 53 .add 3 (Tm 52) (Kn 1) 3, Sg 3 53])) .skip))) (R0 [Mv 33 5, Bo 34 .add 3 (Tm 33) (Kn 1) 3, Sg 5 34])))))) (.seq (R0 [Mv 54 0, Mv 55 3, Oo 56 (.slice 22 (Tm 54) (some (Tm 55)) none none), ⟨none, .call { callee := .builtin .clear, args := #[Tm 56], argTypes := #[22] }, none⟩]) (.seq (R0 [Mv 57 0, Mv 58 3, Oo 59 (.slice 22 (Tm 57) none (some (Tm 58)) none), Sg 2 59]) .ret)))) .skip))) (R0 [Mv 14 3, Bo 15 .add 3 (Tm 14) (Kn 1) 3, Sg 3 15])))))) (.seq (R0 [Mv 60 0, Sg 2 60]) .ret))))⟩
theorem sf87 : sfOf Try.f87 = some s87 := by kernel_rfl
theorem hb87 : hasBody Try.prog 87 = true := by kernel_rfl
def s88 : SF := ⟨8, [.tmp 2], (.seq (R0 [Oo 2 (.assign (.const (.slice none 0 0)))]) (.seq (.seq (R0 [Mv 3 0, Bo 4 .eql 22 (Tm 3) (.const (.slice none 0 0)) 22]) (.cond (Tm 4) (.seq (R0 [Oo 2 (.assign (.const (.slice none 0 0)))]) .ret) .skip)) (.seq (R0 [Oo 5 (.buildSlice 22 0 #[]), Mv 6 0, Oo 7 (.call { callee := .builtin .append, args := #[Tm 5, Tm 6], argTypes := #[22, 22] }), Sg 2 7]) .ret)))⟩
theorem sf88 : sfOf Try.f88 = some s88 := by kernel_rfl
theorem hb88 : hasBody Try.prog 88 = true := by kernel_rfl
def s89 : SF := ⟨14, [.tmp 2], (.seq (R0 [Oo 1 (.box 85 (Tm 0)), Sk 2 (Kb false)]) (.seq (R0 [Fa 3 85 1 0, Ld 4 3 3, Oo 5 (.buildSlice 22 1 #[(0, (Tm 4))]), Cl 6 79 #[Kn 1, Kn 3000, Tm 5] #[3, 3, 22], Oo 7 (.unOp .not 4 (Tm 6)), Mv 8 7, Gf 9 85 1 1 8 false, Gl 10 32 9 8 false, Gc 11 90 #[Tm 10, Kn 0, Kn 100] #[32, 3, 3] 8 false, Og 12 (.unOp .not 4 (Tm 11)) 8 false, Pk 13 8 (Kb true) (Tm 12), Sg 2 13]) .ret))⟩
theorem sf89 : sfOf Try.f89 = some s89 := by kernel_rfl
theorem hb89 : hasBody Try.prog 89 = true := by kernel_rfl
def s90 : SF := ⟨22, [.tmp 6], (.seq (R0 [Oo 3 (.box 32 (Tm 0)), Sk 6 (Kb false)]) (.seq (R0 [Mv 7 1, Mv 8 2, Fa 9 32 3 0, Ld 10 3 9, Fa 11 32 3 1, Ld 12 3 11, Oo 13 (.buildSlice 22 2 #[(0, (Tm 10)), (1, (Tm 12))]), Cl 14 79 #[Tm 7, Tm 8, Tm 13] #[3, 3, 22], Mv 15 14, Gf 16 32 3 0 15 true, Gl 17 3 16 15 true, Gf 18 32 3 1 15 true, Gl 19 3 18 15 true, Gb 20 .leq 3 (Tm 17) (Tm 19) 3 15 true, Pk 21 15 (Tm 20) (Kb false), Sg 6 21]) .ret))⟩
theorem sf90 : sfOf Try.f90 = some s90 := by kernel_rfl
theorem hb90 : hasBody Try.prog 90 = true := by kernel_rfl
def s91 : SF := ⟨9, [.tmp 4], (.seq (R0 [Sk 4 (Kb false)]) (.seq (R0 [Mv 5 0, Mv 6 1, Cl 7 103 #[Tm 5, Tm 6] #[35, 142], Bo 8 .geq 3 (Tm 7) (Kn 0) 3, Sg 4 8]) .ret))⟩
theorem sf91 : sfOf Try.f91 = some s91 := by kernel_rfl
theorem hb91 : hasBody Try.prog 91 = true := by kernel_rfl
def s92 : SF := ⟨72, [.tmp 4, .tmp 5, .tmp 6, .tmp 7], (.seq (R0 [Oo 2 (.box 115 (Tm 0)), Oo 4 (.assign (.const (.slice none 0 0))), Sk 5 (Kn 0), Sk 6 (Kn 0), Sk 7 (Kn 0)]) (.seq (.seq (R0 [Mv 11 1, Ln 12 11 36, Bo 13 .gtr 3 (Tm 12) (Kn 3) 3]) (.cond (Tm 13) (.seq (R0 [Oo 4 (.assign (.const (.slice none 0 0))), Sk 5 (Kn 0), Sk 6 (Kn 0), Sk 7 (Kn 5)]) .ret) .skip)) (.seq (R0 [Fa 14 115 2 1, Ld 15 35 14, Ln 16 15 35, Oo 17 (.makeSlice 22 (Tm 16) (Tm 16)), Sg 4 17]) (.seq (.seq (R0 [Mv 18 1, Ln 19 18 36, Oo 20 (.move (Kn 0))]) (.block 0 (.loop (.seq (R0 [Bo 21 .lss 3 (Tm 20) (Tm 19) 3]) (.seq (.cond (Tm 21) .skip (.exit 0)) (.seq (.block 1 (.seq (R0 [Mv 22 20, Ix 23 36 18 20, Ld 24 100 23, Oo 9 (.alloc 100), Sg 8 22, Sr 100 (Tm 9) (Tm 24)]) (.seq (R0 [Ld 25 115 2, Fa 26 100 9 0, Ld 27 22 26, Cl 28 101 #[Tm 25, Tm 27] #[115, 22], Sg 10 28]) (.seq (.block 2 (.seq (R0 [Mv 30 10, Bo 31 .neq 25 (Tm 30) (Kn 0) 25, Sg 29 31]) (.cond (Tm 29) .skip (.seq (R0 [Fa 33 100 9 1, Ld 34 3 33, Oo 35 (.buildSlice 22 1 #[(0, (Tm 34))]), Cl 36 79 #[Kn 1, Kn 30, Tm 35] #[3, 3, 22], Oo 37 (.unOp .not 4 (Tm 36)), Sg 32 37]) (.cond (Tm 32) (R0 [Sk 10 (Kn 3)]) (.seq (R1 [Mv 39 8, Bo 40 .gtr 3 (Tm 39) (Kn 0) 3, Mv 41 40, Gm 42 1 41 true, Gm 43 8 41 true, Gb 44 .sub 3 (Tm 43) (Kn 1) 3 41 true, Gx 45 36 42 44 41 true, Gf 46 100 45 0 41 true, Gl 47 22 46 41 true, Gf 48 100 9 0 41 true, Gl 49 22 48 41 true, Gc 50 77 #[Tm 47, Tm 49] #[22, 22] 41 true, Gb 51 .geq 3 (Tm 50) (Kn 0) 3 41 true, Pk 52 41 (Tm 51) (Kb false), Sg 38 52]) (.cond (Tm 38) (R0 [Sk 10 (Kn 6)]) .skip))))))) (.seq (.seq (R0 [Mv 53 10, Bo 54 .neq 25 (Tm 53) (Kn 0) 25]) (.cond (Tm 54) (.seq (R0 [Mv 55 8, Mv 56 10, Oo 4 (.assign (.const (.slice none 0 0))), Sk 5 (Kn 0), Sg 6 55, Sg 7 56]) .ret) .skip)) (R1 [Mv 57 4, Ld 58 100 9, Cl 59 85 #[Tm 57, Tm 58] #[22, 100], Mv 60 5, Ld 61 115 2, Fa 62 100 9 0, Ld 63 22 62, Cl 64 83 #[Tm 61, Tm 63] #[115, 22], Fa 65 100 9 1, Ld 66 3 65, Bo 67 .mul 3 (Tm 64) (Tm 66) 3, Bo 68 .add 3 (Tm 60) (Tm 67) 3, Sg 4 59, Sg 5 68])))))) (R0 [Bo 69 .add 3 (Tm 20) (Kn 1) 3, Mv 20 69]))))))) (.seq (R0 [Mv 70 4, Mv 71 5, Sg 4 70, Sg 5 71, Sk 6 (Kn 0), Sk 7 (Kn 0)]) .ret)))))⟩
theorem sf92 : sfOf Try.f92 = some s92 := by kernel_rfl
theorem hb92 : hasBody Try.prog 92 = true := by kernel_rfl
def s93 : SF := ⟨30, [.tmp 4], (.seq (R0 [Oo 2 (.box 115 (Tm 0)), Sk 4 (Kn 0)]) (.seq (.seq (R0 [Fa 7 115 2 1, Ld 8 35 7, Ln 9 8 35, Oo 10 (.move (Kn 0))]) (.block 0 (.loop (.seq (R0 [Bo 11 .lss 3 (Tm 10) (Tm 9) 3]) (.seq (.cond (Tm 11) .skip (.exit 0)) (.seq (.block 1 (.seq (R0 [Mv 12 10, Ix 13 35 8 10, Ld 14 85 13, Oo 6 (.alloc 85), Sg 5 12, Sr 85 (Tm 6) (Tm 14)]) (.seq (R1 [Fa 15 85 6 1, Fa 16 32 15 0, Ld 17 3 16, Fa 18 85 6 1, Fa 19 32 18 1, Ld 20 3 19, Mv 21 1, Mv 22 5, Ix 23 22 21 22, Ld 24 3 23, Oo 25 (.buildSlice 22 1 #[(0, (Tm 24))]), Cl 26 79 #[Tm 17, Tm 20, Tm 25] #[3, 3, 22], Oo 27 (.unOp .not 4 (Tm 26))]) (.cond (Tm 27) (.seq (R0 [Mv 28 5, Sg 4 28]) .ret) .skip)))) (R0 [Bo 29 .add 3 (Tm 10) (Kn 1) 3, Mv 10 29]))))))) (.seq (R0 [Sk 4 (Kn (-1))]) .ret)))⟩
theorem sf93 : sfOf Try.f93 = some s93 := by kernel_rfl
theorem hb93 : hasBody Try.prog 93 = true := by kernel_rfl
def o94_0 : SO := (Mv 108 1)
def o94_1 : SO := (Cl 109 106 #[Tm 108] #[36])
def o94_2 : SO := (Ld 110 100 15)
def o94_3 : SO := (Oo 111 (.buildSlice 36 1 #[(0, (Tm 110))]))
def o94_4 : SO := (Oo 112 (.call { callee := .builtin .append, args := #[Tm 109, Tm 111], argTypes := #[36, 36] }))
def o94_5 : SO := (Mv 107 0)
def o94_6 : SO := (Mv 113 12)
def o94_7 : SO := (Bo 114 .add 3 (Tm 113) (Kn 1) 3)
def o94_8 : SO := (Mv 115 3)
def o94_9 : SO := (Bo 116 .sub 3 (Tm 115) (Kn 1) 3)
def o94_10 : SO := (Mv 117 4)
def o94_11 : SO := (Mv 118 0)
def o94_12 : SO := (Nk 119 118)
def o94_13 : SO := (Fa 120 146 119 0)
def o94_14 : SO := (Ld 121 115 120)
def o94_15 : SO := (Fa 122 100 15 0)
def o94_16 : SO := (Ld 123 22 122)
def o94_17 : SO := (Cl 124 83 #[Tm 121, Tm 123] #[115, 22])
def o94_18 : SO := (Mv 125 14)
def o94_19 : SO := (Bo 126 .mul 3 (Tm 124) (Tm 125) 3)
def o94_20 : SO := (Bo 127 .add 3 (Tm 117) (Tm 126) 3)
def o94_21 : SO := (Mv 128 5)
def o94_22 : SO := (Ld 129 100 15)
def o94_23 : SO := (Cl 130 85 #[Tm 128, Tm 129] #[22, 100])
def s94 : SF := ⟨134, [], (.seq (.seq (R0 [Mv 16 0, Nk 17 16, Fa 18 146 17 4, Ld 19 4 18, Mv 20 19, Gm 21 4 20 true, Gm 22 0 20 true, Og 23 (.nilCheck (Tm 22)) 20 true, Gf 24 146 23 3 20 true, Gl 25 3 24 20 true, Gb 26 .geq 3 (Tm 21) (Tm 25) 3 20 true, Pk 27 20 (Tm 26) (Kb false), Mv 28 27, Gm 29 3 28 true, Gb 30 .gtr 3 (Tm 29) (Kn 0) 3 28 true, Pk 31 28 (Tm 30) (Kb false)]) (.cond (Tm 31) .ret .skip)) (.seq (.seq (R0 [Mv 32 3, Bo 33 .eql 3 (Tm 32) (Kn 0) 3]) (.cond (Tm 33) (.seq (.seq (R0 [Mv 34 0, Nk 35 34, Fa 36 146 35 0, Ld 37 115 36, Mv 38 5, Cl 39 93 #[Tm 37, Tm 38] #[115, 22], Bo 40 .lss 3 (Tm 39) (Kn 0) 3, Mv 41 40, Gm 42 0 41 true, Og 43 (.nilCheck (Tm 42)) 41 true, Gf 44 146 43 4 41 true, Gl 45 4 44 41 true, Og 46 (.unOp .not 4 (Tm 45)) 41 true, Gm 47 46 41 true, Gm 48 4 47 false, Gm 49 0 47 false, Og 50 (.nilCheck (Tm 49)) 47 false, Gf 51 146 50 3 47 false, Gl 52 3 51 47 false, Gb 53 .lss 3 (Tm 48) (Tm 52) 3 47 false, Og 54 (.pick (Tm 47) (Kb true) (Tm 53)) 41 true, Pk 55 41 (Tm 54) (Kb false)]) (.cond (Tm 55) (R0 [Mv 56 0, Mv 57 0, Mv 58 0, Mv 59 1, Cl 60 104 #[Tm 59] #[36], Mv 61 4, Nk 62 56, Fa 63 146 62 2, Sr 36 (Tm 63) (Tm 60), Nk 64 57, Fa 65 146 64 3, Sr 3 (Tm 65) (Tm 61), Nk 66 58, Fa 67 146 66 4, Sr 4 (Tm 67) (Kb true)]) .skip)) .ret) .skip)) (.seq (R0 [Mv 68 2, Sg 12 68]) (.block 0 (.loop (.seq (.seq (R0 [Mv 69 12, Mv 70 0, Nk 71 70, Fa 72 146 71 1, Ld 73 88 72, Ln 74 73 88, Bo 75 .lss 3 (Tm 69) (Tm 74) 3]) (.cond (Tm 75) .skip (.exit 0))) (.seq (.block 1 (.seq (R0 [Mv 78 0, Mv 79 5, Mv 80 0, Nk 81 80, Fa 82 146 81 1, Ld 83 88 82, Mv 84 12, Ix 85 88 83 84, Ld 86 22 85, Mv 87 3, Bo 88 .eql 3 (Tm 87) (Kn 1) 3, Cl 89 105 #[Tm 78, Tm 79, Tm 86, Tm 88] #[144, 22, 22, 4], Oo 13 (.alloc 32), Sr 32 (Tm 13) (Tm 89)]) (.seq (R0 [Fa 90 32 13 0, Ld 91 3 90, Sg 14 91]) (.block 2 (.loop (.seq (.seq (R0 [Mv 92 14, Fa 93 32 13 1, Ld 94 3 93, Bo 95 .leq 3 (Tm 92) (Tm 94) 3]) (.cond (Tm 95) .skip (.exit 2))) (.seq (.block 3 (.seq (R0 [Mv 98 0, Nk 99 98, Fa 100 146 99 1, Ld 101 88 100, Mv 102 12, Ix 103 88 101 102, Ld 104 22 103, Mv 105 14, Oo 106 (.build 100 #[(0, (Tm 104)), (1, (Tm 105))]), Oo 15 (.alloc 100), Sr 100 (Tm 15) (Tm 106)]) (.seq (.ord (.op o94_0 (.op o94_1 (.op o94_2 (.op o94_3 (.app o94_4 [0, 12, 113, 3, 115, 4, 0, 118, 119, 120, 15, 122, 14, 5, 15] [107, 113, 114, 115, 116, 117, 118, 119, 120, 121, 122, 123, 125, 128, 129] (.op o94_5 (.op o94_6 (.op o94_7 (.op o94_8 (.op o94_9 (.op o94_10 (.op o94_11 (.op o94_12 (.op o94_13 (.op o94_14 (.op o94_15 (.op o94_16 (.op o94_17 (.op o94_18 (.op o94_19 (.op o94_20 (.op o94_21 (.op o94_22 (.op o94_23 (.lop (Cl 131 94 #[Tm 107, Tm 112, Tm 114, Tm 116, Tm 127, Tm 130] #[144, 36, 3, 3, 3, 22]) .done)))))))))))))))))))))))))) (.seq (R0 [Mv 132 3, Bo 133 .eql 3 (Tm 132) (Kn 1) 3]) (.cond (Tm 133) (.exit 2) .skip))))) (R0 [Mv 96 14, Bo 97 .add 3 (Tm 96) (Kn 1) 3, Sg 14 97])))))))) (R0 [Mv 76 12, Bo 77 .add 3 (Tm 76) (Kn 1) 3, Sg 12 77]))))))))⟩
theorem sf94 : sfOf Try.f94 = some s94 := by kernel_rfl
theorem hb94 : hasBody Try.prog 94 = true := by kernel_rfl
def s96 : SF := ⟨20, [.tmp 4], (.seq (R0 [Sk 4 (Kn 0)]) (.seq (R0 [Mv 7 0, Cl 8 107 #[Tm 7] #[3], Sg 5 8]) (.seq (R0 [Mv 9 1, Cl 10 107 #[Tm 9] #[3], Sg 6 10]) (.seq (.seq (R0 [Mv 11 5]) (.cond (Tm 11) (.seq (.seq (R0 [Mv 12 6]) (.cond (Tm 12) (.seq (R0 [Sk 4 (Kn 0)]) .ret) .skip)) (.seq (R0 [Sk 4 (Kn (-1))]) .ret)) .skip)) (.seq (.seq (R0 [Mv 13 6]) (.cond (Tm 13) (.seq (R0 [Sk 4 (Kn 1)]) .ret) .skip)) (.seq (.seq (R0 [Mv 14 0, Mv 15 1, Bo 16 .lss 3 (Tm 14) (Tm 15) 3]) (.cond (Tm 16) (.seq (R0 [Sk 4 (Kn (-1))]) .ret) .skip)) (.seq (.seq (R0 [Mv 17 0, Mv 18 1, Bo 19 .gtr 3 (Tm 17) (Tm 18) 3]) (.cond (Tm 19) (.seq (R0 [Sk 4 (Kn 1)]) .ret) .skip)) (.seq (R0 [Sk 4 (Kn 0)]) .ret))))))))⟩
theorem sf96 : sfOf Try.f96 = some s96 := by kernel_rfl
theorem hb96 : hasBody Try.prog 96 = true := by kernel_rfl
def s97 : SF := ⟨9, [.tmp 4], (.seq (R0 [Sk 4 (Kb false)]) (.seq (R0 [Mv 5 0, Mv 6 1, Cl 7 108 #[Tm 5, Tm 6] #[22, 150], Bo 8 .geq 3 (Tm 7) (Kn 0) 3, Sg 4 8]) .ret))⟩
theorem sf97 : sfOf Try.f97 = some s97 := by kernel_rfl
theorem hb97 : hasBody Try.prog 97 = true := by kernel_rfl
def s98 : SF := ⟨13, [.tmp 4], (.seq (R0 [Sk 4 (Kb false)]) (.seq (R0 [Mv 5 0, Ld 6 3 1, Bo 7 .lss 3 (Tm 5) (Tm 6) 3, Mv 8 7, Gm 9 0 8 false, Gl 10 3 2 8 false, Gb 11 .gtr 3 (Tm 9) (Tm 10) 3 8 false, Pk 12 8 (Kb true) (Tm 11), Sg 4 12]) .ret))⟩
theorem sf98 : sfOf Try.f98 = some s98 := by kernel_rfl
theorem hb98 : hasBody Try.prog 98 = true := by kernel_rfl
def s99 : SF := ⟨5, [.tmp 2], (.seq (R0 [Oo 2 (.assign (.const (.slice none 0 0)))]) (.seq (R0 [Mv 3 0, Cl 4 109 #[.const (.slice none 0 0), Tm 3] #[88, 159], Sg 2 4]) .ret))⟩
theorem sf99 : sfOf Try.f99 = some s99 := by kernel_rfl
theorem hb99 : hasBody Try.prog 99 = true := by kernel_rfl
def s100 : SF := ⟨6, [.tmp 4], (.seq (R0 [Oo 2 (.box 115 (Tm 0)), Oo 3 (.box 22 (Tm 1)), Oo 4 (.assign (.const .nilFunc))]) (.seq (R0 [Oo 5 (.makeFunc (.func 110) #[] #[Tm 3, Tm 2]), Sg 4 5]) .ret))⟩
theorem sf100 : sfOf Try.f100 = some s100 := by kernel_rfl
theorem hb100 : hasBody Try.prog 100 = true := by kernel_rfl
def s101 : SF := ⟨20, [.tmp 4], (.seq (R0 [Oo 2 (.box 115 (Tm 0)), Sk 4 (Kn 0)]) (.seq (.block 0 (.seq (.seq (R0 [Mv 6 1, Ln 7 6 22, Fa 8 115 2 1, Ld 9 35 8, Ln 10 9 35, Bo 11 .neq 3 (Tm 7) (Tm 10) 3, Sg 5 11]) (.cond (Tm 5) .skip (R0 [Mv 12 1, Cl 13 79 #[Kn 0, Kn 4, Tm 12] #[3, 3, 22], Oo 14 (.unOp .not 4 (Tm 13)), Sg 5 14]))) (.cond (Tm 5) (.seq (R0 [Sk 4 (Kn 4)]) .ret) (.seq (R0 [Ld 16 115 2, Mv 17 1, Cl 18 111 #[Tm 16, Tm 17] #[115, 22], Oo 19 (.unOp .not 4 (Tm 18)), Sg 15 19]) (.cond (Tm 15) (.seq (R0 [Sk 4 (Kn 7)]) .ret) .skip))))) (.seq (R0 [Sk 4 (Kn 0)]) .ret)))⟩
theorem sf101 : sfOf Try.f101 = some s101 := by kernel_rfl
theorem hb101 : hasBody Try.prog 101 = true := by kernel_rfl
def s102 : SF := ⟨17, [.tmp 4], (.seq (R0 [Sk 4 (Kb false)]) (.seq (R0 [Mv 5 0, Cl 6 107 #[Tm 5] #[3], Mv 7 6, Gm 8 1 7 true, Gc 9 107 #[Tm 8] #[3] 7 true, Og 10 (.unOp .not 4 (Tm 9)) 7 true, Pk 11 7 (Tm 10) (Kb false), Mv 12 11, Gm 13 0 12 false, Gm 14 1 12 false, Gb 15 .lss 3 (Tm 13) (Tm 14) 3 12 false, Pk 16 12 (Kb true) (Tm 15), Sg 4 16]) .ret))⟩
theorem sf102 : sfOf Try.f102 = some s102 := by kernel_rfl
theorem hb102 : hasBody Try.prog 102 = true := by kernel_rfl
def s103 : SF := ⟨19, [.tmp 4], (.seq (R0 [Sk 4 (Kn 0)]) (.seq (.seq (R0 [Mv 6 0, Ln 7 6 35, Oo 8 (.move (Kn 0))]) (.block 0 (.loop (.seq (R0 [Bo 9 .lss 3 (Tm 8) (Tm 7) 3]) (.seq (.cond (Tm 9) .skip (.exit 0)) (.seq (.block 1 (.seq (R0 [Mv 10 8, Sg 5 10]) (.seq (R0 [Mv 11 1, Mv 12 0, Mv 13 5, Ix 14 35 12 13, Ld 15 85 14, Oo 16 (.call { callee := .value (Tm 11), args := #[Tm 15], argTypes := #[85] })]) (.cond (Tm 16) (.seq (R0 [Mv 17 5, Sg 4 17]) .ret) .skip)))) (R0 [Bo 18 .add 3 (Tm 8) (Kn 1) 3, Mv 8 18]))))))) (.seq (R0 [Sk 4 (Kn (-1))]) .ret)))⟩
theorem sf103 : sfOf Try.f103 = some s103 := by kernel_rfl
theorem hb103 : hasBody Try.prog 103 = true := by kernel_rfl
def s104 : SF := ⟨8, [.tmp 2], (.seq (R0 [Oo 2 (.assign (.const (.slice none 0 0)))]) (.seq (.seq (R0 [Mv 3 0, Bo 4 .eql 36 (Tm 3) (.const (.slice none 0 0)) 36]) (.cond (Tm 4) (.seq (R0 [Oo 2 (.assign (.const (.slice none 0 0)))]) .ret) .skip)) (.seq (R0 [Oo 5 (.buildSlice 36 0 #[]), Mv 6 0, Oo 7 (.call { callee := .builtin .append, args := #[Tm 5, Tm 6], argTypes := #[36, 36] }), Sg 2 7]) .ret)))⟩
theorem sf104 : sfOf Try.f104 = some s104 := by kernel_rfl
theorem hb104 : hasBody Try.prog 104 = true := by kernel_rfl
def s105 : SF := ⟨77, [.cell 8 32], (.seq (R0 [Oo 8 (.alloc 32)]) (.seq (R0 [Oo 13 (.build 32 #[(0, (Kn 1)), (1, (Kn 30))]), Oo 9 (.alloc 32), Sr 32 (Tm 9) (Tm 13)]) (.seq (.seq (R0 [Mv 14 2, Ln 15 14 22, Oo 16 (.move (Kn 0))]) (.block 0 (.loop (.seq (R0 [Bo 17 .lss 3 (Tm 16) (Tm 15) 3]) (.seq (.cond (Tm 17) .skip (.exit 0)) (.seq (.block 1 (.seq (R0 [Mv 18 16, Ix 19 22 14 16, Ld 20 3 19, Sg 10 18, Sg 11 20]) (.seq (R0 [Mv 21 0, Nk 22 21, Fa 23 146 22 0, Fa 24 115 23 1, Ld 25 35 24, Mv 26 10, Ix 27 35 25 26, Fa 28 85 27 1, Ld 29 32 28, Oo 12 (.alloc 32), Sr 32 (Tm 12) (Tm 29)]) (.block 2 (.seq (R0 [Mv 31 11, Bo 32 .gtr 3 (Tm 31) (Kn 0) 3, Sg 30 32]) (.cond (Tm 30) (.seq (R1 [Fa 33 32 9 1, Ld 34 3 33, Fa 35 32 12 1, Ld 36 3 35, Mv 37 1, Mv 38 10, Ix 39 22 37 38, Ld 40 3 39, Bo 41 .sub 3 (Tm 36) (Tm 40) 3, Mv 42 11, Bo 43 .quo 3 (Tm 41) (Tm 42) 3, Oo 44 (.call { callee := .builtin .min, args := #[Tm 34, Tm 43], argTypes := #[3, 3] }), Fa 45 32 9 1, Sr 3 (Tm 45) (Tm 44)]) (.seq (R0 [Mv 46 3]) (.cond (Tm 46) (R1 [Fa 47 32 9 0, Ld 48 3 47, Fa 49 32 12 0, Ld 50 3 49, Mv 51 1, Mv 52 10, Ix 53 22 51 52, Ld 54 3 53, Bo 55 .sub 3 (Tm 50) (Tm 54) 3, Mv 56 11, Bo 57 .add 3 (Tm 55) (Tm 56) 3, Bo 58 .sub 3 (Tm 57) (Kn 1) 3, Mv 59 11, Bo 60 .quo 3 (Tm 58) (Tm 59) 3, Oo 61 (.call { callee := .builtin .max, args := #[Tm 48, Tm 60], argTypes := #[3, 3] }), Fa 62 32 9 0, Sr 3 (Tm 62) (Tm 61)]) .skip))) (.seq (R1 [Mv 64 3, Mv 65 64, Gm 66 1 65 true, Gm 67 10 65 true, Gx 68 22 66 67 65 true, Gl 69 3 68 65 true, Gf 70 32 12 0 65 true, Gl 71 3 70 65 true, Gb 72 .lss 3 (Tm 69) (Tm 71) 3 65 true, Pk 73 65 (Tm 72) (Kb false), Sg 63 73]) (.cond (Tm 63) (.seq (R0 [Oo 74 (.build 32 #[(0, (Kn 1))]), Sr 32 (Tm 8) (Tm 74)]) .ret) .skip)))))))) (R0 [Bo 75 .add 3 (Tm 16) (Kn 1) 3, Mv 16 75]))))))) (.seq (R0 [Ld 76 32 9, Sr 32 (Tm 8) (Tm 76)]) .ret))))⟩
theorem sf105 : sfOf Try.f105 = some s105 := by kernel_rfl
theorem hb105 : hasBody Try.prog 105 = true := by kernel_rfl
def s106 : SF := ⟨9, [.tmp 2], (.seq (R0 [Oo 2 (.assign (.const (.slice none 0 0)))]) (.seq (R0 [Mv 3 0, Mv 4 0, Ln 5 4 36, Mv 6 0, Ln 7 6 36, Oo 8 (.slice 36 (Tm 3) none (some (Tm 5)) (some (Tm 7))), Sg 2 8]) .ret))⟩
theorem sf106 : sfOf Try.f106 = some s106 := by kernel_rfl
theorem hb106 : hasBody Try.prog 106 = true := by kernel_rfl
def s107 : SF := ⟨6, [.tmp 2], (.seq (R0 [Sk 2 (Kb false)]) (.seq (R0 [Mv 3 0, Mv 4 0, Bo 5 .neq 3 (Tm 3) (Tm 4) 3, Sg 2 5]) .ret))⟩
theorem sf107 : sfOf Try.f107 = some s107 := by kernel_rfl
theorem hb107 : hasBody Try.prog 107 = true := by kernel_rfl
def s108 : SF := ⟨19, [.tmp 4], (.seq (R0 [Sk 4 (Kn 0)]) (.seq (.seq (R0 [Mv 6 0, Ln 7 6 22, Oo 8 (.move (Kn 0))]) (.block 0 (.loop (.seq (R0 [Bo 9 .lss 3 (Tm 8) (Tm 7) 3]) (.seq (.cond (Tm 9) .skip (.exit 0)) (.seq (.block 1 (.seq (R0 [Mv 10 8, Sg 5 10]) (.seq (R0 [Mv 11 1, Mv 12 0, Mv 13 5, Ix 14 22 12 13, Ld 15 3 14, Oo 16 (.call { callee := .value (Tm 11), args := #[Tm 15], argTypes := #[3] })]) (.cond (Tm 16) (.seq (R0 [Mv 17 5, Sg 4 17]) .ret) .skip)))) (R0 [Bo 18 .add 3 (Tm 8) (Kn 1) 3, Mv 8 18]))))))) (.seq (R0 [Sk 4 (Kn (-1))]) .ret)))⟩
theorem sf108 : sfOf Try.f108 = some s108 := by kernel_rfl
theorem hb108 : hasBody Try.prog 108 = true := by kernel_rfl
def s109 : SF := ⟨13, [.tmp 4], (.seq (R0 [Oo 2 (.box 88 (Tm 0)), Oo 4 (.assign (.const (.slice none 0 0)))]) (.seq (.seq (R0 [Mv 6 1]) (.block 0 (.rng (Tm 6) [7] (R0 [Sg 5 7]) (.block 1 (R0 [Ld 8 88 2, Mv 9 5, Oo 10 (.buildSlice 88 1 #[(0, (Tm 9))]), Oo 11 (.call { callee := .builtin .append, args := #[Tm 8, Tm 10], argTypes := #[88, 88] }), Sr 88 (Tm 2) (Tm 11)]))))) (.seq (R0 [Ld 12 88 2, Sg 4 12]) .ret)))⟩
theorem sf109 : sfOf Try.f109 = some s109 := by kernel_rfl
theorem hb109 : hasBody Try.prog 109 = true := by kernel_rfl
def o110_0 : SO := (Ld 26 22 1)
def o110_1 : SO := (Cl 27 112 #[Tm 26] #[22])
def o110_2 : SO := (Mv 28 4)
def o110_3 : SO := (Oo 29 (.buildSlice 22 1 #[(0, (Tm 28))]))
def o110_4 : SO := (Ld 25 115 2)
def o110_5 : SO := (Oo 30 (.call { callee := .builtin .append, args := #[Tm 27, Tm 29], argTypes := #[22, 22] }))
def o110_6 : SO := (Cl 31 100 #[Tm 25, Tm 30] #[115, 22])
def s110 : SF := ⟨38, [], (.seq (R0 [Oo 3 (.box 29 (Tm 0))]) (.seq (.seq (R0 [Ld 6 22 1, Ln 7 6 22, Fa 8 115 2 1, Ld 9 35 8, Ln 10 9 35, Bo 11 .eql 3 (Tm 7) (Tm 10) 3]) (.cond (Tm 11) (.seq (.seq (R0 [Ld 12 115 2, Ld 13 22 1, Cl 14 111 #[Tm 12, Tm 13] #[115, 22]]) (.cond (Tm 14) (R0 [Ld 15 29 3, Ld 16 22 1, Oo 17 (.call { callee := .value (Tm 15), args := #[Tm 16], argTypes := #[22] })]) .skip)) .ret) .skip)) (.seq (R0 [Fa 18 115 2 0, Fa 19 34 18 2, Ld 20 3 19, Bo 21 .add 3 (Tm 20) (Kn 1) 3, Oo 22 (.move (Kn 0))]) (.block 0 (.loop (.seq (R0 [Bo 23 .lss 3 (Tm 22) (Tm 21) 3]) (.seq (.cond (Tm 23) .skip (.exit 0)) (.seq (.block 1 (.seq (R0 [Mv 24 22, Sg 4 24]) (.seq (.ord (.op o110_0 (.op o110_1 (.op o110_2 (.op o110_3 (.alt (.op o110_4 (.op o110_5 (.op o110_6 .done))) (.op o110_5 (.op o110_4 (.op o110_6 .done))))))))) (.block 2 (.rng (Tm 31) [32] (R0 [Sg 5 32]) (.block 3 (.seq (R0 [Ld 33 29 3, Mv 34 5, Oo 35 (.call { callee := .value (Tm 33), args := #[Tm 34], argTypes := #[22] }), Oo 36 (.unOp .not 4 (Tm 35))]) (.cond (Tm 36) .ret .skip)))))))) (R0 [Bo 37 .add 3 (Tm 22) (Kn 1) 3, Mv 22 37])))))))))⟩
theorem sf110 : sfOf Try.f110 = some s110 := by kernel_rfl
theorem hb110 : hasBody Try.prog 110 = true := by kernel_rfl
def s111 : SF := ⟨48, [.tmp 4], (.seq (R0 [Oo 2 (.box 115 (Tm 0)), Sk 4 (Kb false)]) (.seq (R0 [Sk 5 (Kn 0), Sk 6 (Kn 0)]) (.seq (.seq (R0 [Mv 9 1, Ln 10 9 22, Oo 11 (.move (Kn 0))]) (.block 0 (.loop (.seq (R0 [Bo 12 .lss 3 (Tm 11) (Tm 10) 3]) (.seq (.cond (Tm 12) .skip (.exit 0)) (.seq (.block 1 (.seq (R0 [Ix 13 22 9 11, Ld 14 3 13, Sg 8 14]) (.seq (R0 [Mv 15 5, Mv 16 8, Bo 17 .add 3 (Tm 15) (Tm 16) 3, Sg 5 17]) (.seq (R0 [Mv 18 8, Bo 19 .gtr 3 (Tm 18) (Kn 0) 3]) (.cond (Tm 19) (R0 [Mv 20 6, Bo 21 .add 3 (Tm 20) (Kn 1) 3, Sg 6 21]) .skip))))) (R0 [Bo 22 .add 3 (Tm 11) (Kn 1) 3, Mv 11 22]))))))) (.seq (R1 [Fa 23 115 2 0, Fa 24 34 23 2, Ld 25 3 24, Mv 26 5, Oo 27 (.buildSlice 22 1 #[(0, (Tm 26))]), Cl 28 79 #[Kn 1, Tm 25, Tm 27] #[3, 3, 22], Mv 29 28, Gm 30 6 29 true, Gb 31 .leq 3 (Tm 30) (Kn 2) 3 29 true, Pk 32 29 (Tm 31) (Kb false), Mv 33 32, Gf 34 115 2 0 33 true, Gf 35 34 34 1 33 true, Gf 36 32 35 0 33 true, Gl 37 3 36 33 true, Gf 38 115 2 0 33 true, Gf 39 34 38 1 33 true, Gf 40 32 39 1 33 true, Gl 41 3 40 33 true, Gl 42 115 2 33 true, Gm 43 1 33 true, Gc 44 83 #[Tm 42, Tm 43] #[115, 22] 33 true, Og 45 (.buildSlice 22 1 #[(0, (Tm 44))]) 33 true, Gc 46 79 #[Tm 37, Tm 41, Tm 45] #[3, 3, 22] 33 true, Pk 47 33 (Tm 46) (Kb false), Sg 4 47]) .ret))))⟩
theorem sf111 : sfOf Try.f111 = some s111 := by kernel_rfl
theorem hb111 : hasBody Try.prog 111 = true := by kernel_rfl
def s112 : SF := ⟨9, [.tmp 2], (.seq (R0 [Oo 2 (.assign (.const (.slice none 0 0)))]) (.seq (R0 [Mv 3 0, Mv 4 0, Ln 5 4 22, Mv 6 0, Ln 7 6 22, Oo 8 (.slice 22 (Tm 3) none (some (Tm 5)) (some (Tm 7))), Sg 2 8]) .ret))⟩
theorem sf112 : sfOf Try.f112 = some s112 := by kernel_rfl
theorem hb112 : hasBody Try.prog 112 = true := by kernel_rfl
end Go.Dw.Seat
end
section
set_option linter.unusedSimpArgs false
set_option maxRecDepth 100000
namespace Go.Dw.Seat
open Go Go.Dw Go.Proofs Go.IntWalk
theorem c122 (b : Bool) (l : List (Int)) (hl : l.length ≤ 2 ^ 36) (g : FuncId) (fs caps : List C) (p : Int → Bool) (hp : ∀ x ∈ l, DCall Try.prog g (fs.map D.c ++ [dI x] ++ caps.map D.c) [] (bD (p x)) []) : DCall Try.prog 108 [.c (.sl b 1 (rows eI l)), .c (.fn (.func g) fs caps)] [] (dI (idxI p l)) [] := by
  refine DCall.of Try.func108 sf108 hb108 (Nat.le_of_ble_eq_true rfl) (okRes_nil fun _ => rfl) ?_; simp only [s108, idxs, Nat.reduceAdd]
  repeat' (first
    | (with_reducible first | refine DW.seq ?_ | refine DW.block ?_ | refine DW.skip ?_ | refine DW.exit ?_ | refine DW.ret ?_ | refine DW.reg ?_)
    | (simp (disch := omega) only [go_sem, simprocAttr, Blk.men, Blk.keysIn])
    | (exact retS_of rfl rfl rfl)
    | (refine DW.cond_tt rfl ?_)
    | (refine DW.cond_ff rfl ?_)
    | (refine DW.cond rfl ?_ ?_ <;> intro hc <;> (try simp only [go_sem] at hc))
    | (refine g_split ?_ ?_ <;> intro hc <;> (try simp only [hc]) <;> (try simp only [go_sem] at hc)))
  refine DW.loop (ι := { i : Nat // i ≤ l.length ∧ ∀ j u, j < i → l[j]? = some u → p u = false }) (fun i => ⟨19, [(8, dI i.1), (7, dI l.length), (1, .c (.fn (.func g) fs caps)), (0, .c (.sl b 1 (rows eI l)))], []⟩) (fun i => l.length - i.1) ⟨0, Nat.zero_le _, fun j u h => by omega⟩ ?_ ?_
  · refine Ent.to ?_ ?_ <;> simp (disch := omega) only [wkT_cons, wkX_cons, wkT_nil, wkX_nil, get, Nat.reduceEqDiff, ↓reduceIte, ex_some, wk_self, wk_top, wk_nil, wkB_self, and_self, dI, i64_in, and_true, true_and, Int.natCast_add, Int.natCast_one, Int.ofNat_zero, Int.natCast_zero]
  rintro ⟨i, hi, hij⟩
  rcases at_or l i hi with ⟨v, hv, hlt, hd⟩ | ⟨he, hd⟩
  · have hcall := hp v (List.mem_of_getElem? hv)
    repeat' (first
    | (with_reducible first | refine DW.seq ?_ | refine DW.block ?_ | refine DW.skip ?_ | refine DW.exit ?_ | refine DW.ret ?_ | refine DW.reg ?_)
    | (simp (disch := omega) only [go_sem, simprocAttr, Blk.men, Blk.keysIn, hd, hv, closeDs_fn, List.map_cons, List.map_nil])
    | (exact retS_of rfl rfl rfl)
    | (refine DW.cond_tt rfl ?_)
    | (refine DW.cond_ff rfl ?_)
    | (refine DW.cond rfl ?_ ?_ <;> intro hc <;> (try simp only [go_sem] at hc))
    | (refine g_split ?_ ?_ <;> intro hc <;> (try simp only [hc]) <;> (try simp only [go_sem] at hc)))
    refine call_c hcall (by decide) ?_
    simp (disch := omega) only [go_sem, simprocAttr, Blk.men, Blk.keysIn]
    refine DW.cond rfl ?_ ?_ <;> intro hc
    · repeat' (first
    | (with_reducible first | refine DW.seq ?_ | refine DW.block ?_ | refine DW.skip ?_ | refine DW.exit ?_ | refine DW.ret ?_ | refine DW.reg ?_)
    | (simp (disch := omega) only [go_sem, simprocAttr, Blk.men, Blk.keysIn])
    | (exact retS_of rfl rfl rfl)
    | (refine DW.cond_tt rfl ?_)
    | (refine DW.cond_ff rfl ?_)
    | (refine DW.cond rfl ?_ ?_ <;> intro hc <;> (try simp only [go_sem] at hc))
    | (refine g_split ?_ ?_ <;> intro hc <;> (try simp only [hc]) <;> (try simp only [go_sem] at hc)))
      refine retS_of rfl ?_ rfl; simp only [oneD, St.op, get, Nat.reduceEqDiff, ↓reduceIte, Option.getD_some, bD, dI]
      simp only [idxI, idxOf_some hij hv hc]
    · repeat' (first
    | (with_reducible first | refine DW.seq ?_ | refine DW.block ?_ | refine DW.skip ?_ | refine DW.exit ?_ | refine DW.ret ?_ | refine DW.reg ?_)
    | (simp (disch := omega) only [go_sem, simprocAttr, Blk.men, Blk.keysIn])
    | (exact retS_of rfl rfl rfl)
    | (refine DW.cond_tt rfl ?_)
    | (refine DW.cond_ff rfl ?_)
    | (refine DW.cond rfl ?_ ?_ <;> intro hc <;> (try simp only [go_sem] at hc))
    | (refine g_split ?_ ?_ <;> intro hc <;> (try simp only [hc]) <;> (try simp only [go_sem] at hc)))
      refine ⟨⟨i + 1, by omega, fun j u hj hu => by
        rcases Nat.lt_or_ge j i with h | h
        · exact hij j u h hu
        · have : j = i := by omega
          subst this
          rw [hv] at hu; cases hu; exact hc⟩, ?_, Ent.to ?_ ?_⟩ <;> first | (show _ < _; (try simp only); omega) | (simp (disch := omega) only [wkT_cons, wkX_cons, wkT_nil, wkX_nil, get, Nat.reduceEqDiff, ↓reduceIte, ex_some, wk_self, wk_top, wk_nil, wkB_self, and_self, dI, i64_in, and_true, true_and, Int.natCast_add, Int.natCast_one, Int.ofNat_zero, Int.natCast_zero])
  · repeat' (first
    | (with_reducible first | refine DW.seq ?_ | refine DW.block ?_ | refine DW.skip ?_ | refine DW.exit ?_ | refine DW.ret ?_ | refine DW.reg ?_)
    | (simp (disch := omega) only [go_sem, simprocAttr, Blk.men, Blk.keysIn, hd])
    | (exact retS_of rfl rfl rfl)
    | (refine DW.cond_tt rfl ?_)
    | (refine DW.cond_ff rfl ?_)
    | (refine DW.cond rfl ?_ ?_ <;> intro hc <;> (try simp only [go_sem] at hc))
    | (refine g_split ?_ ?_ <;> intro hc <;> (try simp only [hc]) <;> (try simp only [go_sem] at hc)))
    refine retS_of rfl ?_ rfl; simp only [oneD, St.op, get, Nat.reduceEqDiff, ↓reduceIte, Option.getD_some, bD, dI]
    simp only [idxI, idxOf_none (he ▸ hij)]
theorem c110 (b : Bool) (l : List (Int)) (hl : l.length ≤ 2 ^ 36) (g : FuncId) (fs caps : List C) (p : Int → Bool) (hp : ∀ x ∈ l, DCall Try.prog g (fs.map D.c ++ [dI x] ++ caps.map D.c) [] (bD (p x)) []) : DCall Try.prog 97 [.c (.sl b 1 (rows eI l)), .c (.fn (.func g) fs caps)] [] (bD (l.any p)) [] := by
  refine DCall.of Try.func97 sf97 hb97 (Nat.le_of_ble_eq_true rfl) (okRes_nil fun _ => rfl) ?_; simp only [s97, idxs, Nat.reduceAdd]
  repeat' (first
    | (with_reducible first | refine DW.seq ?_ | refine DW.block ?_ | refine DW.skip ?_ | refine DW.exit ?_ | refine DW.ret ?_ | refine DW.reg ?_)
    | (simp (disch := omega) only [go_sem, simprocAttr, Blk.men, Blk.keysIn])
    | (exact retS_of rfl rfl rfl)
    | (refine DW.cond_tt rfl ?_)
    | (refine DW.cond_ff rfl ?_)
    | (refine DW.cond rfl ?_ ?_ <;> intro hc <;> (try simp only [go_sem] at hc))
    | (refine g_split ?_ ?_ <;> intro hc <;> (try simp only [hc]) <;> (try simp only [go_sem] at hc)))
  refine call_c (c122 b l hl g fs caps p hp) (by decide) ?_
  repeat' (first
    | (with_reducible first | refine DW.seq ?_ | refine DW.block ?_ | refine DW.skip ?_ | refine DW.exit ?_ | refine DW.ret ?_ | refine DW.reg ?_)
    | (simp (disch := omega) only [go_sem, simprocAttr, Blk.men, Blk.keysIn])
    | (exact retS_of rfl rfl rfl)
    | (refine DW.cond_tt rfl ?_)
    | (refine DW.cond_ff rfl ?_)
    | (refine DW.cond rfl ?_ ?_ <;> intro hc <;> (try simp only [go_sem] at hc))
    | (refine g_split ?_ ?_ <;> intro hc <;> (try simp only [hc]) <;> (try simp only [go_sem] at hc)))
  refine retS_of rfl ?_ rfl; simp only [oneD, St.op, get, Nat.reduceEqDiff, ↓reduceIte, Option.getD_some, bD, dI]
  rw [idxI_any]
def wthn (lo hi : Int) (l : List Int) : Bool := !(l.any fun n => decide (n < lo) || decide (hi < n))
theorem wthn_one {lo hi n : Int} (h : wthn lo hi [n] = true) : lo ≤ n ∧ n ≤ hi := by
  simp [wthn] at h; omega
theorem trW1 (n lo hi : Int) (p q : Bool) : DCall Try.prog 98 [dI n, .c (.ro p [.v (.int .i64 lo)] 0), .c (.ro q [.v (.int .i64 hi)] 0)] [] (bD (decide (n < lo) || decide (hi < n))) [] := by
  refine DCall.of Try.func98 sf98 hb98 (Nat.le_of_ble_eq_true rfl) (okRes_nil fun _ => rfl) ?_; simp only [s98, idxs, Nat.reduceAdd]
  repeat' (first
    | (with_reducible first | refine DW.seq ?_ | refine DW.block ?_ | refine DW.skip ?_ | refine DW.exit ?_ | refine DW.ret ?_ | refine DW.reg ?_)
    | (simp (disch := omega) only [go_sem, simprocAttr, Blk.men, Blk.keysIn])
    | (exact retS_of rfl rfl rfl)
    | (refine DW.cond_tt rfl ?_)
    | (refine DW.cond_ff rfl ?_)
    | (refine DW.cond rfl ?_ ?_ <;> intro hc <;> (try simp only [go_sem] at hc))
    | (refine g_split ?_ ?_ <;> intro hc <;> (try simp only [hc]) <;> (try simp only [go_sem] at hc)))
theorem trWithin (b : Bool) (lo hi : Int) (l : List Int) (hl : l.length ≤ 2 ^ 36) : DCall Try.prog 79 [dI lo, dI hi, dIs b l] [] (bD (wthn lo hi l)) [] := by
  refine DCall.of Try.func79 sf79 hb79 (Nat.le_of_ble_eq_true rfl) (okRes_nil fun _ => rfl) ?_; simp only [s79, idxs, Nat.reduceAdd]
  repeat' (first
    | (with_reducible first | refine DW.seq ?_ | refine DW.block ?_ | refine DW.skip ?_ | refine DW.exit ?_ | refine DW.ret ?_ | refine DW.reg ?_)
    | (simp (disch := omega) only [go_sem, simprocAttr, Blk.men, Blk.keysIn])
    | (exact retS_of rfl rfl rfl)
    | (refine DW.cond_tt rfl ?_)
    | (refine DW.cond_ff rfl ?_)
    | (refine DW.cond rfl ?_ ?_ <;> intro hc <;> (try simp only [go_sem] at hc))
    | (refine g_split ?_ ?_ <;> intro hc <;> (try simp only [hc]) <;> (try simp only [go_sem] at hc)))
  (refine call_c (c110 b l hl 98 [] [.ro true [.v (.int .i64 lo)] 0, .ro true [.v (.int .i64 hi)] 0] (fun n => decide (n < lo) || decide (hi < n)) (fun x _ => trW1 x lo hi true true)) (by decide) ?_; simp (disch := omega) only [go_sem, simprocAttr, Blk.men, Blk.keysIn])
  repeat' (first
    | (with_reducible first | refine DW.seq ?_ | refine DW.block ?_ | refine DW.skip ?_ | refine DW.exit ?_ | refine DW.ret ?_ | refine DW.reg ?_)
    | (simp (disch := omega) only [go_sem, simprocAttr, Blk.men, Blk.keysIn])
    | (exact retS_of rfl rfl rfl)
    | (refine DW.cond_tt rfl ?_)
    | (refine DW.cond_ff rfl ?_)
    | (refine DW.cond rfl ?_ ?_ <;> intro hc <;> (try simp only [go_sem] at hc))
    | (refine g_split ?_ ?_ <;> intro hc <;> (try simp only [hc]) <;> (try simp only [go_sem] at hc)))
theorem wthn_yes {lo hi : Int} {l : List Int} (h : ∀ v ∈ l, lo ≤ v ∧ v ≤ hi) : wthn lo hi l = true := by
  simp only [wthn, Bool.not_eq_true', List.any_eq_false, Bool.or_eq_true, decide_eq_true_eq]
  intro v hv
  have := h v hv
  omega
theorem wthn_all {lo hi : Int} {l : List Int} (h : wthn lo hi l = true) : ∀ v ∈ l, lo ≤ v ∧ v ≤ hi := by
  simp only [wthn, Bool.not_eq_true', List.any_eq_false, Bool.or_eq_true, decide_eq_true_eq] at h
  intro v hv
  have := h v hv
  omega
theorem wthn_two {lo hi a b : Int} (h : wthn lo hi [a, b] = true) : (lo ≤ a ∧ a ≤ hi) ∧ lo ≤ b ∧ b ≤ hi :=
  ⟨wthn_all h a (by simp), wthn_all h b (by simp)⟩
def spanOk (lo hi least most : Int) : Bool := wthn least most [lo, hi] && decide (lo ≤ hi)
theorem spanOk_yes {lo hi least most : Int} (h : least ≤ lo ∧ lo ≤ hi ∧ hi ≤ most) : spanOk lo hi least most = true := by
  unfold spanOk
  rw [wthn_yes (by simp; omega), decide_eq_true h.2.1]; rfl
theorem spanOk_all {lo hi least most : Int} (h : spanOk lo hi least most = true) : least ≤ lo ∧ lo ≤ hi ∧ hi ≤ most := by
  simp only [spanOk, Bool.and_eq_true, decide_eq_true_eq] at h
  have := wthn_two h.1
  omega
theorem crSpanG (lo hi least most : Int) : DCall Try.prog 90 [.agg [dI lo, dI hi], dI least, dI most] [] (bD (spanOk lo hi least most)) [] := by
  have h1 := trWithin true least most [lo, hi] (by simp)
  unfold spanOk
  cases h : wthn least most [lo, hi] <;> rw [h] at h1 <;> simp only [Bool.true_and, Bool.false_and]
  · refine DCall.of Try.func90 sf90 hb90 (Nat.le_of_ble_eq_true rfl) (okRes_nil fun _ => rfl) ?_; simp only [s90, idxs, Nat.reduceAdd]
    repeat' (first
    | (with_reducible first | refine DW.seq ?_ | refine DW.block ?_ | refine DW.skip ?_ | refine DW.exit ?_ | refine DW.ret ?_ | refine DW.reg ?_)
    | (simp (disch := omega) only [go_sem, simprocAttr, Blk.men, Blk.keysIn])
    | (exact retS_of rfl rfl rfl)
    | (refine DW.cond_tt rfl ?_)
    | (refine call_c (h1) (by decide) ?_)
    | (refine DW.cond_ff rfl ?_)
    | (refine DW.cond rfl ?_ ?_ <;> intro hc <;> (try simp only [go_sem] at hc))
    | (refine g_split ?_ ?_ <;> intro hc <;> (try simp only [hc]) <;> (try simp only [go_sem] at hc)))
  · refine DCall.of Try.func90 sf90 hb90 (Nat.le_of_ble_eq_true rfl) (okRes_nil fun _ => rfl) ?_; simp only [s90, idxs, Nat.reduceAdd]
    repeat' (first
    | (with_reducible first | refine DW.seq ?_ | refine DW.block ?_ | refine DW.skip ?_ | refine DW.exit ?_ | refine DW.ret ?_ | refine DW.reg ?_)
    | (simp (disch := omega) only [go_sem, simprocAttr, Blk.men, Blk.keysIn])
    | (exact retS_of rfl rfl rfl)
    | (refine DW.cond_tt rfl ?_)
    | (refine call_c (h1) (by decide) ?_)
    | (refine DW.cond_ff rfl ?_)
    | (refine DW.cond rfl ?_ ?_ <;> intro hc <;> (try simp only [go_sem] at hc))
    | (refine g_split ?_ ?_ <;> intro hc <;> (try simp only [hc]) <;> (try simp only [go_sem] at hc)))
end Go.Dw.Seat
end
section
set_option linter.unusedSimpArgs false
set_option maxRecDepth 100000
namespace Go.Dw.Seat
open Go Go.Dw Go.IntWalk
structure TPap where
  wide : Int
  tl : Int
  th : Int
  webs : Int
structure TOrd where
  w : Int
  lo : Int
  hi : Int
structure TStp where
  ws : List Int
  run : Int
structure TPap.ok (p : TPap) : Prop where
  wide : 1 ≤ p.wide ∧ p.wide ≤ 3000
  trim : 0 ≤ p.tl ∧ p.tl ≤ p.th ∧ p.th ≤ 3000
  webs : 1 ≤ p.webs ∧ p.webs ≤ 4
structure TOrd.ok (o : TOrd) : Prop where
  w : 1 ≤ o.w ∧ o.w ≤ 3000
  need : 0 ≤ o.lo ∧ o.lo ≤ o.hi ∧ o.hi ≤ 100
def dotI : List Int → List TOrd → Int
  | n :: ws, o :: l => n * o.w + dotI ws l
  | _, _ => 0
def trimI (p : TPap) (l : List TOrd) (ws : List Int) : Int := p.wide - dotI ws l
def sumI : List Int → Int
  | [] => 0
  | n :: ws => n + sumI ws
def usedI : List Int → Int
  | [] => 0
  | n :: ws => (if 0 < n then 1 else 0) + usedI ws
def patB (p : TPap) (l : List TOrd) (ws : List Int) : Bool := (decide (1 ≤ sumI ws) && decide (sumI ws ≤ p.webs)) && decide (usedI ws ≤ 2) && (decide (p.tl ≤ trimI p l ws) && decide (trimI p l ws ≤ p.th))
def allW : Nat → List (List Int)
  | 0 => [[]]
  | n + 1 => [0, 1, 2, 3, 4].flatMap fun d => (allW n).map (d :: ·)
def pats (p : TPap) (l : List TOrd) : List (List Int) := (allW l.length).filter (patB p l)
def lexW : List Int → List Int → Bool
  | a :: s, b :: t => if a = b then lexW s t else decide (a < b)
  | _, _ => false
theorem lexW_irr : ∀ s : List Int, lexW s s = false
  | [] => rfl
  | a :: s => by rw [lexW, if_pos rfl]; exact lexW_irr s
theorem lexW_asym : ∀ {s t : List Int}, lexW s t = true → lexW t s = false
  | [], _, h => by cases h
  | _ :: _, [], h => by cases h
  | a :: s, b :: t, h => by
    simp only [lexW] at h ⊢
    by_cases e : a = b
    · subst e; rw [if_pos rfl] at h ⊢; exact lexW_asym h
    · rw [if_neg e] at h; rw [if_neg (fun e2 => e e2.symm)]
      simp only [decide_eq_true_eq, decide_eq_false_iff_not] at h ⊢; omega
theorem lexW_trans : ∀ {s t u : List Int}, lexW s t = true → lexW t u = true → lexW s u = true
  | [], _, _, h, _ => by cases h
  | _ :: _, [], _, h, _ => by cases h
  | _ :: _, _ :: _, [], _, h => by cases h
  | a :: s, b :: t, c :: u, h1, h2 => by
    simp only [lexW] at h1 h2 ⊢
    by_cases e1 : a = b
    · subst e1
      rw [if_pos rfl] at h1
      by_cases e2 : a = c
      · subst e2; rw [if_pos rfl] at h2 ⊢; exact lexW_trans h1 h2
      · rw [if_neg e2] at h2 ⊢; exact h2
    · rw [if_neg e1] at h1
      simp only [decide_eq_true_eq] at h1
      by_cases e2 : b = c
      · subst e2; rw [if_neg e1]; exact decide_eq_true h1
      · rw [if_neg e2] at h2
        simp only [decide_eq_true_eq] at h2
        rw [if_neg (by omega)]; exact decide_eq_true (by omega)
def ltP : List TStp → List TStp → Bool
  | a :: s, b :: t => if a.ws = b.ws then (if a.run = b.run then ltP s t else decide (a.run < b.run)) else lexW a.ws b.ws
  | _, _ => false
theorem ltP_asym : ∀ {s t : List TStp}, ltP s t = true → ltP t s = false
  | [], _, h => by cases h
  | _ :: _, [], h => by cases h
  | a :: s, b :: t, h => by
    simp only [ltP] at h ⊢
    by_cases e : a.ws = b.ws
    · rw [if_pos e] at h; rw [if_pos e.symm]
      by_cases e2 : a.run = b.run
      · rw [if_pos e2] at h; rw [if_pos e2.symm]; exact ltP_asym h
      · rw [if_neg e2] at h; rw [if_neg (fun x => e2 x.symm)]
        simp only [decide_eq_true_eq, decide_eq_false_iff_not] at h ⊢; omega
    · rw [if_neg e] at h; rw [if_neg (fun x => e x.symm)]; exact lexW_asym h
theorem ltP_trans : ∀ {s t u : List TStp}, ltP s t = true → ltP t u = true → ltP s u = true
  | [], _, _, h, _ => by cases h
  | _ :: _, [], _, h, _ => by cases h
  | _ :: _, _ :: _, [], _, h => by cases h
  | a :: s, b :: t, c :: u, h1, h2 => by
    simp only [ltP] at h1 h2 ⊢
    by_cases e1 : a.ws = b.ws
    · rw [if_pos e1] at h1
      rw [← e1] at h2
      by_cases e2 : a.ws = c.ws
      · rw [if_pos e2] at h2 ⊢
        by_cases r1 : a.run = b.run
        · rw [if_pos r1] at h1
          rw [← r1] at h2
          by_cases r2 : a.run = c.run
          · rw [if_pos r2] at h2 ⊢; exact ltP_trans h1 h2
          · rw [if_neg r2] at h2 ⊢; exact h2
        · rw [if_neg r1] at h1
          simp only [decide_eq_true_eq] at h1
          by_cases r2 : b.run = c.run
          · rw [if_neg (by omega)]; exact decide_eq_true (by omega)
          · rw [if_neg r2] at h2
            simp only [decide_eq_true_eq] at h2
            rw [if_neg (by omega)]; exact decide_eq_true (by omega)
      · rw [if_neg e2] at h2 ⊢; exact h2
    · rw [if_neg e1] at h1
      by_cases e2 : b.ws = c.ws
      · rw [← e2, if_neg e1]; exact h1
      · rw [if_neg e2] at h2
        have h3 := lexW_trans h1 h2
        rw [if_neg (fun e => by rw [e] at h1; rw [lexW_asym h1] at h2; cases h2)]
        exact h3
theorem ltP_app : ∀ (p s t : List TStp), ltP (p ++ s) (p ++ t) = ltP s t
  | [], _, _ => rfl
  | a :: p, s, t => by
    show ltP (a :: (p ++ s)) (a :: (p ++ t)) = _
    simp only [ltP, if_true]
    exact ltP_app p s t
def addG : List Int → List Int → Int → List Int
  | g :: got, n :: ws, r => (g + n * r) :: addG got ws r
  | got, _, _ => got
theorem addG_len : ∀ (got ws : List Int) (r : Int), (addG got ws r).length = got.length
  | [], _, _ => by simp [addG]
  | _ :: _, [], _ => by simp [addG]
  | g :: got, n :: ws, r => by simp [addG, addG_len got ws r]
def gotF : List Int → List TStp → List Int
  | got, [] => got
  | got, s :: q => gotF (addG got s.ws s.run) q
def wasteF (p : TPap) (l : List TOrd) : List TStp → Int
  | [] => 0
  | s :: q => trimI p l s.ws * s.run + wasteF p l q
theorem gotF_app : ∀ (q : List TStp) (got : List Int) (s : List TStp), gotF got (q ++ s) = gotF (gotF got q) s
  | [], _, _ => rfl
  | a :: q, got, s => gotF_app q (addG got a.ws a.run) s
theorem wasteF_app (p : TPap) (l : List TOrd) : ∀ (q s : List TStp), wasteF p l (q ++ s) = wasteF p l q + wasteF p l s
  | [], s => by simp [wasteF]
  | a :: q, s => by rw [List.cons_append, wasteF, wasteF, wasteF_app p l q s]; omega
def doesB : List TOrd → List Int → Bool
  | o :: l, g :: got => (decide (o.lo ≤ g) && decide (g ≤ o.hi)) && doesB l got
  | _, _ => true
def leH : List TOrd → List Int → Bool
  | o :: l, g :: got => decide (g ≤ o.hi) && leH l got
  | _, _ => true
def zeros (n : Nat) : List Int := List.replicate n 0
end Go.Dw.Seat
end
section
set_option linter.unusedSimpArgs false
set_option maxRecDepth 100000
namespace Go.Dw.Seat
open Go Go.Dw Go.Proofs Go.IntWalk
def eO (o : TOrd) : List C := [.v (.int .i64 o.w), .v (.int .i64 o.lo), .v (.int .i64 o.hi)]
theorem eO_nb (v : TOrd) : C.nbs (eO v) = true := rfl
attribute [go_sem] eO
abbrev papD (p : TPap) : D := .agg [dI p.wide, dI p.tl, dI p.th, dI p.webs]
abbrev macD (b : Bool) (p : TPap) (l : List TOrd) : D := .agg [dI p.wide, dI p.tl, dI p.th, dI p.webs, .c (.sl b 3 (rows eO l))]
abbrev noneD : D := .agg [dI 0, dI 0, dI 0, dI 0, .c (.v (.slice none 0 0))]
def papOk (p : TPap) : Bool := (wthn 1 3000 [p.wide] && spanOk p.tl p.th 0 3000) && wthn 1 4 [p.webs]
def ordOk (o : TOrd) : Bool := wthn 1 3000 [o.w] && spanOk o.lo o.hi 0 100
theorem papOk_ok {p : TPap} (h : papOk p = true) : p.ok := by
  simp only [papOk, Bool.and_eq_true] at h
  exact ⟨wthn_one h.1.1, spanOk_all h.1.2, wthn_one h.2⟩
theorem ordOk_ok {o : TOrd} (h : ordOk o = true) : o.ok := by
  simp only [ordOk, Bool.and_eq_true] at h
  exact ⟨wthn_one h.1, spanOk_all h.2⟩
theorem papOk_yes {p : TPap} (h : p.ok) : papOk p = true := by
  simp only [papOk, Bool.and_eq_true]
  exact ⟨⟨wthn_yes (by simpa using h.wide), spanOk_yes h.trim⟩, wthn_yes (by simpa using h.webs)⟩
theorem ordOk_yes {o : TOrd} (h : o.ok) : ordOk o = true := by
  simp only [ordOk, Bool.and_eq_true]
  exact ⟨wthn_yes (by simpa using h.w), spanOk_yes h.need⟩
def openE (p : TPap) (l : List TOrd) : Int := if papOk p = false then 2 else if (4 : Int) < (l.length : Int) then 5 else if (l.any fun o => !ordOk o) = true then 4 else 0
theorem openE_ok {p : TPap} {l : List TOrd} (h : openE p l = 0) : p.ok ∧ l.length ≤ 4 ∧ ∀ o ∈ l, o.ok := by
  unfold openE at h
  split at h
  · cases h
  · rename_i h1
    split at h
    · cases h
    · rename_i h2
      split at h
      · cases h
      · rename_i h3
        refine ⟨papOk_ok (by simpa using h1), by omega, fun o ho => ordOk_ok ?_⟩
        simp only [List.any_eq_true, not_exists, not_and, Bool.not_eq_true, Bool.not_eq_false'] at h3
        exact h3 o ho
theorem openE_yes {p : TPap} {l : List TOrd} (hp : p.ok) (hl : l.length ≤ 4) (h : ∀ o ∈ l, o.ok) : openE p l = 0 := by
  unfold openE
  rw [if_neg (by rw [papOk_yes hp]; decide), if_neg (by omega), if_neg]
  simp only [List.any_eq_true, not_exists, not_and, Bool.not_eq_true, Bool.not_eq_false']
  exact fun o ho => ordOk_yes (h o ho)
theorem trOrd1 (o : TOrd) : DCall Try.prog 89 [.agg ((eO o).map D.c)] [] (bD (!ordOk o)) [] := by
  have h1 := trWithin true 1 3000 [o.w] (by simp)
  have h2 := crSpanG o.lo o.hi 0 100
  unfold ordOk
  cases e1 : wthn 1 3000 [o.w] <;> rw [e1] at h1 <;> simp only [Bool.true_and, Bool.false_and, Bool.not_false]
  · refine DCall.of Try.func89 sf89 hb89 (Nat.le_of_ble_eq_true rfl) (okRes_nil fun _ => rfl) ?_; simp only [s89, idxs, Nat.reduceAdd]
    repeat' (first
    | (with_reducible first | refine DW.seq ?_ | refine DW.block ?_ | refine DW.skip ?_ | refine DW.exit ?_ | refine DW.ret ?_ | refine DW.reg ?_)
    | (simp (disch := omega) only [go_sem, simprocAttr, Blk.men, Blk.keysIn, List.map_cons, List.map_nil])
    | (exact retS_of rfl rfl rfl)
    | (refine DW.cond_tt rfl ?_)
    | (refine call_c (h1) (by decide) ?_)
    | (refine DW.cond_ff rfl ?_)
    | (refine DW.cond rfl ?_ ?_ <;> intro hc <;> (try simp only [go_sem] at hc))
    | (refine g_split ?_ ?_ <;> intro hc <;> (try simp only [hc]) <;> (try simp only [go_sem] at hc)))
  · refine DCall.of Try.func89 sf89 hb89 (Nat.le_of_ble_eq_true rfl) (okRes_nil fun _ => rfl) ?_; simp only [s89, idxs, Nat.reduceAdd]
    repeat' (first
    | (with_reducible first | refine DW.seq ?_ | refine DW.block ?_ | refine DW.skip ?_ | refine DW.exit ?_ | refine DW.ret ?_ | refine DW.reg ?_)
    | (simp (disch := omega) only [go_sem, simprocAttr, Blk.men, Blk.keysIn, List.map_cons, List.map_nil])
    | (exact retS_of rfl rfl rfl)
    | (refine DW.cond_tt rfl ?_)
    | (refine call_c (h1) (by decide) ?_)
    | (refine call_c (h2) (by decide) ?_)
    | (refine DW.cond_ff rfl ?_)
    | (refine DW.cond rfl ?_ ?_ <;> intro hc <;> (try simp only [go_sem] at hc))
    | (refine g_split ?_ ?_ <;> intro hc <;> (try simp only [hc]) <;> (try simp only [go_sem] at hc)))
theorem trOIdx (b : Bool) (l : List TOrd) (hl : l.length ≤ 2 ^ 36) (g : FuncId) (fs caps : List C) (p : TOrd → Bool) (hp : ∀ x ∈ l, DCall Try.prog g (fs.map D.c ++ [.agg ((eO x).map D.c)] ++ caps.map D.c) [] (bD (p x)) []) : DCall Try.prog 103 [.c (.sl b 3 (rows eO l)), .c (.fn (.func g) fs caps)] [] (dI (idxI p l)) [] := by
  refine DCall.of Try.func103 sf103 hb103 (Nat.le_of_ble_eq_true rfl) (okRes_nil fun _ => rfl) ?_; simp only [s103, idxs, Nat.reduceAdd]
  repeat' (first
    | (with_reducible first | refine DW.seq ?_ | refine DW.block ?_ | refine DW.skip ?_ | refine DW.exit ?_ | refine DW.ret ?_ | refine DW.reg ?_)
    | (simp (disch := omega) only [go_sem, simprocAttr, Blk.men, Blk.keysIn])
    | (exact retS_of rfl rfl rfl)
    | (refine DW.cond_tt rfl ?_)
    | (refine DW.cond_ff rfl ?_)
    | (refine DW.cond rfl ?_ ?_ <;> intro hc <;> (try simp only [go_sem] at hc))
    | (refine g_split ?_ ?_ <;> intro hc <;> (try simp only [hc]) <;> (try simp only [go_sem] at hc)))
  refine DW.loop (ι := { i : Nat // i ≤ l.length ∧ ∀ j u, j < i → l[j]? = some u → p u = false }) (fun i => ⟨19, [(8, dI i.1), (7, dI l.length), (1, .c (.fn (.func g) fs caps)), (0, .c (.sl b 3 (rows eO l)))], []⟩) (fun i => l.length - i.1) ⟨0, Nat.zero_le _, fun j u h => by omega⟩ ?_ ?_
  · refine Ent.to ?_ ?_ <;> simp (disch := omega) only [wkT_cons, wkX_cons, wkT_nil, wkX_nil, get, Nat.reduceEqDiff, ↓reduceIte, ex_some, wk_self, wk_top, wk_nil, wkB_self, and_self, dI, i64_in, and_true, true_and, Int.natCast_add, Int.natCast_one, Int.ofNat_zero, Int.natCast_zero]
  rintro ⟨i, hi, hij⟩
  rcases at_or l i hi with ⟨v, hv, hlt, hd⟩ | ⟨he, hd⟩
  · have hcall := hp v (List.mem_of_getElem? hv)
    repeat' (first
    | (with_reducible first | refine DW.seq ?_ | refine DW.block ?_ | refine DW.skip ?_ | refine DW.exit ?_ | refine DW.ret ?_ | refine DW.reg ?_)
    | (simp (disch := omega) only [go_sem, simprocAttr, Blk.men, Blk.keysIn, hd, hv, closeDs_fn, List.map_cons, List.map_nil])
    | (exact retS_of rfl rfl rfl)
    | (refine DW.cond_tt rfl ?_)
    | (refine DW.cond_ff rfl ?_)
    | (refine DW.cond rfl ?_ ?_ <;> intro hc <;> (try simp only [go_sem] at hc))
    | (refine g_split ?_ ?_ <;> intro hc <;> (try simp only [hc]) <;> (try simp only [go_sem] at hc)))
    refine call_c hcall (by decide) ?_
    simp (disch := omega) only [go_sem, simprocAttr, Blk.men, Blk.keysIn]
    refine DW.cond rfl ?_ ?_ <;> intro hc
    · repeat' (first
    | (with_reducible first | refine DW.seq ?_ | refine DW.block ?_ | refine DW.skip ?_ | refine DW.exit ?_ | refine DW.ret ?_ | refine DW.reg ?_)
    | (simp (disch := omega) only [go_sem, simprocAttr, Blk.men, Blk.keysIn])
    | (exact retS_of rfl rfl rfl)
    | (refine DW.cond_tt rfl ?_)
    | (refine DW.cond_ff rfl ?_)
    | (refine DW.cond rfl ?_ ?_ <;> intro hc <;> (try simp only [go_sem] at hc))
    | (refine g_split ?_ ?_ <;> intro hc <;> (try simp only [hc]) <;> (try simp only [go_sem] at hc)))
      refine retS_of rfl ?_ rfl; simp only [oneD, St.op, get, Nat.reduceEqDiff, ↓reduceIte, Option.getD_some, bD, dI]
      simp only [idxI, idxOf_some hij hv hc]
    · repeat' (first
    | (with_reducible first | refine DW.seq ?_ | refine DW.block ?_ | refine DW.skip ?_ | refine DW.exit ?_ | refine DW.ret ?_ | refine DW.reg ?_)
    | (simp (disch := omega) only [go_sem, simprocAttr, Blk.men, Blk.keysIn])
    | (exact retS_of rfl rfl rfl)
    | (refine DW.cond_tt rfl ?_)
    | (refine DW.cond_ff rfl ?_)
    | (refine DW.cond rfl ?_ ?_ <;> intro hc <;> (try simp only [go_sem] at hc))
    | (refine g_split ?_ ?_ <;> intro hc <;> (try simp only [hc]) <;> (try simp only [go_sem] at hc)))
      refine ⟨⟨i + 1, by omega, fun j u hj hu => by
        rcases Nat.lt_or_ge j i with h | h
        · exact hij j u h hu
        · have : j = i := by omega
          subst this
          rw [hv] at hu; cases hu; exact hc⟩, ?_, Ent.to ?_ ?_⟩ <;> first | (show _ < _; (try simp only); omega) | (simp (disch := omega) only [wkT_cons, wkX_cons, wkT_nil, wkX_nil, get, Nat.reduceEqDiff, ↓reduceIte, ex_some, wk_self, wk_top, wk_nil, wkB_self, and_self, dI, i64_in, and_true, true_and, Int.natCast_add, Int.natCast_one, Int.ofNat_zero, Int.natCast_zero])
  · repeat' (first
    | (with_reducible first | refine DW.seq ?_ | refine DW.block ?_ | refine DW.skip ?_ | refine DW.exit ?_ | refine DW.ret ?_ | refine DW.reg ?_)
    | (simp (disch := omega) only [go_sem, simprocAttr, Blk.men, Blk.keysIn, hd])
    | (exact retS_of rfl rfl rfl)
    | (refine DW.cond_tt rfl ?_)
    | (refine DW.cond_ff rfl ?_)
    | (refine DW.cond rfl ?_ ?_ <;> intro hc <;> (try simp only [go_sem] at hc))
    | (refine g_split ?_ ?_ <;> intro hc <;> (try simp only [hc]) <;> (try simp only [go_sem] at hc)))
    refine retS_of rfl ?_ rfl; simp only [oneD, St.op, get, Nat.reduceEqDiff, ↓reduceIte, Option.getD_some, bD, dI]
    simp only [idxI, idxOf_none (he ▸ hij)]
theorem trOAny (b : Bool) (l : List TOrd) (hl : l.length ≤ 2 ^ 36) (g : FuncId) (fs caps : List C) (p : TOrd → Bool) (hp : ∀ x ∈ l, DCall Try.prog g (fs.map D.c ++ [.agg ((eO x).map D.c)] ++ caps.map D.c) [] (bD (p x)) []) : DCall Try.prog 91 [.c (.sl b 3 (rows eO l)), .c (.fn (.func g) fs caps)] [] (bD (l.any p)) [] := by
  refine DCall.of Try.func91 sf91 hb91 (Nat.le_of_ble_eq_true rfl) (okRes_nil fun _ => rfl) ?_; simp only [s91, idxs, Nat.reduceAdd]
  repeat' (first
    | (with_reducible first | refine DW.seq ?_ | refine DW.block ?_ | refine DW.skip ?_ | refine DW.exit ?_ | refine DW.ret ?_ | refine DW.reg ?_)
    | (simp (disch := omega) only [go_sem, simprocAttr, Blk.men, Blk.keysIn])
    | (exact retS_of rfl rfl rfl)
    | (refine DW.cond_tt rfl ?_)
    | (refine DW.cond_ff rfl ?_)
    | (refine DW.cond rfl ?_ ?_ <;> intro hc <;> (try simp only [go_sem] at hc))
    | (refine g_split ?_ ?_ <;> intro hc <;> (try simp only [hc]) <;> (try simp only [go_sem] at hc)))
  refine call_c (trOIdx b l hl g fs caps p hp) (by decide) ?_
  repeat' (first
    | (with_reducible first | refine DW.seq ?_ | refine DW.block ?_ | refine DW.skip ?_ | refine DW.exit ?_ | refine DW.ret ?_ | refine DW.reg ?_)
    | (simp (disch := omega) only [go_sem, simprocAttr, Blk.men, Blk.keysIn])
    | (exact retS_of rfl rfl rfl)
    | (refine DW.cond_tt rfl ?_)
    | (refine DW.cond_ff rfl ?_)
    | (refine DW.cond rfl ?_ ?_ <;> intro hc <;> (try simp only [go_sem] at hc))
    | (refine g_split ?_ ?_ <;> intro hc <;> (try simp only [hc]) <;> (try simp only [go_sem] at hc)))
  refine retS_of rfl ?_ rfl; simp only [oneD, St.op, get, Nat.reduceEqDiff, ↓reduceIte, Option.getD_some, bD, dI]
  rw [idxI_any]
theorem trOpen (p : TPap) (l : List TOrd) (h : openE p l = 0) : DCall Try.prog 61 [papD p, .c (.sl false 3 (rows eO l))] [] (.tup [macD false p l, dI 0]) [] := by
  obtain ⟨hp, hl, ho⟩ := openE_ok h
  have h1 := trWithin true 1 3000 [p.wide] (by simp)
  have h2 := crSpanG p.tl p.th 0 3000
  have h3 := trWithin true 1 4 [p.webs] (by simp)
  rw [wthn_yes (by simpa using hp.wide)] at h1
  rw [spanOk_yes hp.trim] at h2
  rw [wthn_yes (by simpa using hp.webs)] at h3
  have h4 := trOAny false l (by omega) 89 [] [] (fun o => !ordOk o) (fun x _ => trOrd1 x)
  have e4 : (l.any fun o => !ordOk o) = false := by
    simp only [List.any_eq_false, Bool.not_eq_true', Bool.not_eq_false]
    exact fun o hm => ordOk_yes (ho o hm)
  rw [e4] at h4
  have hd : decide ((4 : Int) < (l.length : Int)) = false := by rw [decide_eq_false_iff_not]; omega
  refine DCall.of Try.func61 sf61 hb61 (Nat.le_of_ble_eq_true rfl) (okRes_nil fun _ => rfl) ?_; simp only [s61, idxs, Nat.reduceAdd]
  repeat' (first
    | (with_reducible first | refine DW.seq ?_ | refine DW.block ?_ | refine DW.skip ?_ | refine DW.exit ?_ | refine DW.ret ?_ | refine DW.reg ?_)
    | (simp (disch := omega) only [go_sem, simprocAttr, Blk.men, Blk.keysIn, hd])
    | (exact retS_of rfl rfl rfl)
    | (refine DW.cond_tt rfl ?_)
    | (refine call_c (h1) (by decide) ?_)
    | (refine call_c (h2) (by decide) ?_)
    | (refine call_c (h3) (by decide) ?_)
    | (refine call_c (h4) (by decide) ?_)
    | (refine DW.cond_ff rfl ?_)
    | (refine DW.cond rfl ?_ ?_ <;> intro hc <;> (try simp only [go_sem] at hc))
    | (refine g_split ?_ ?_ <;> intro hc <;> (try simp only [hc]) <;> (try simp only [go_sem] at hc)))
  refine retS_wk rfl ?_ (by simp only [Blk.nb, rowC_nb, D.nb, D.nbs, C.nb, C.nbs, C.nbss, rows_nb eI_nb, Bool.and_true, Bool.not_false, Bool.and_self, bD, dI, iD, rows_nb eO_nb]); exact .refl _
theorem trOpenE (b : Bool) (p : TPap) (l : List TOrd) (hl : l.length ≤ 2 ^ 36) (h : openE p l ≠ 0) : DCall Try.prog 61 [papD p, .c (.sl b 3 (rows eO l))] [] (.tup [noneD, dI (openE p l)]) [] := by
  have h1 := trWithin true 1 3000 [p.wide] (by simp)
  have h2 := crSpanG p.tl p.th 0 3000
  have h3 := trWithin true 1 4 [p.webs] (by simp)
  have h4 := trOAny b l hl 89 [] [] (fun o => !ordOk o) (fun x _ => trOrd1 x)
  unfold openE papOk at h ⊢
  cases e1 : wthn 1 3000 [p.wide] <;> rw [e1] at h1 h
  · rw [if_pos (by simp)]
    refine DCall.of Try.func61 sf61 hb61 (Nat.le_of_ble_eq_true rfl) (okRes_nil fun _ => rfl) ?_; simp only [s61, idxs, Nat.reduceAdd]
    repeat' (first
    | (with_reducible first | refine DW.seq ?_ | refine DW.block ?_ | refine DW.skip ?_ | refine DW.exit ?_ | refine DW.ret ?_ | refine DW.reg ?_)
    | (simp (disch := omega) only [go_sem, simprocAttr, Blk.men, Blk.keysIn])
    | (exact retS_of rfl rfl rfl)
    | (refine DW.cond_tt rfl ?_)
    | (refine call_c (h1) (by decide) ?_)
    | (refine DW.cond_ff rfl ?_)
    | (refine DW.cond rfl ?_ ?_ <;> intro hc <;> (try simp only [go_sem] at hc))
    | (refine g_split ?_ ?_ <;> intro hc <;> (try simp only [hc]) <;> (try simp only [go_sem] at hc)))
  cases e2 : spanOk p.tl p.th 0 3000 <;> rw [e2] at h2 h
  · rw [if_pos (by simp)]
    refine DCall.of Try.func61 sf61 hb61 (Nat.le_of_ble_eq_true rfl) (okRes_nil fun _ => rfl) ?_; simp only [s61, idxs, Nat.reduceAdd]
    repeat' (first
    | (with_reducible first | refine DW.seq ?_ | refine DW.block ?_ | refine DW.skip ?_ | refine DW.exit ?_ | refine DW.ret ?_ | refine DW.reg ?_)
    | (simp (disch := omega) only [go_sem, simprocAttr, Blk.men, Blk.keysIn])
    | (exact retS_of rfl rfl rfl)
    | (refine DW.cond_tt rfl ?_)
    | (refine call_c (h1) (by decide) ?_)
    | (refine call_c (h2) (by decide) ?_)
    | (refine DW.cond_ff rfl ?_)
    | (refine DW.cond rfl ?_ ?_ <;> intro hc <;> (try simp only [go_sem] at hc))
    | (refine g_split ?_ ?_ <;> intro hc <;> (try simp only [hc]) <;> (try simp only [go_sem] at hc)))
  cases e3 : wthn 1 4 [p.webs] <;> rw [e3] at h3 h
  · rw [if_pos (by simp)]
    refine DCall.of Try.func61 sf61 hb61 (Nat.le_of_ble_eq_true rfl) (okRes_nil fun _ => rfl) ?_; simp only [s61, idxs, Nat.reduceAdd]
    repeat' (first
    | (with_reducible first | refine DW.seq ?_ | refine DW.block ?_ | refine DW.skip ?_ | refine DW.exit ?_ | refine DW.ret ?_ | refine DW.reg ?_)
    | (simp (disch := omega) only [go_sem, simprocAttr, Blk.men, Blk.keysIn])
    | (exact retS_of rfl rfl rfl)
    | (refine DW.cond_tt rfl ?_)
    | (refine call_c (h1) (by decide) ?_)
    | (refine call_c (h2) (by decide) ?_)
    | (refine call_c (h3) (by decide) ?_)
    | (refine DW.cond_ff rfl ?_)
    | (refine DW.cond rfl ?_ ?_ <;> intro hc <;> (try simp only [go_sem] at hc))
    | (refine g_split ?_ ?_ <;> intro hc <;> (try simp only [hc]) <;> (try simp only [go_sem] at hc)))
  rw [if_neg (by decide)] at h ⊢
  by_cases h5 : (4 : Int) < (l.length : Int)
  · have hd : decide ((4 : Int) < (l.length : Int)) = true := decide_eq_true h5
    rw [if_pos h5]
    refine DCall.of Try.func61 sf61 hb61 (Nat.le_of_ble_eq_true rfl) (okRes_nil fun _ => rfl) ?_; simp only [s61, idxs, Nat.reduceAdd]
    repeat' (first
    | (with_reducible first | refine DW.seq ?_ | refine DW.block ?_ | refine DW.skip ?_ | refine DW.exit ?_ | refine DW.ret ?_ | refine DW.reg ?_)
    | (simp (disch := omega) only [go_sem, simprocAttr, Blk.men, Blk.keysIn, hd])
    | (exact retS_of rfl rfl rfl)
    | (refine DW.cond_tt rfl ?_)
    | (refine call_c (h1) (by decide) ?_)
    | (refine call_c (h2) (by decide) ?_)
    | (refine call_c (h3) (by decide) ?_)
    | (refine DW.cond_ff rfl ?_)
    | (refine DW.cond rfl ?_ ?_ <;> intro hc <;> (try simp only [go_sem] at hc))
    | (refine g_split ?_ ?_ <;> intro hc <;> (try simp only [hc]) <;> (try simp only [go_sem] at hc)))
  · have hd : decide ((4 : Int) < (l.length : Int)) = false := decide_eq_false h5
    rw [if_neg h5] at h ⊢
    cases e4 : (l.any fun o => !ordOk o) with
    | false => rw [e4] at h; exact absurd rfl h
    | true =>
      rw [e4] at h4
      rw [if_pos rfl]
      refine DCall.of Try.func61 sf61 hb61 (Nat.le_of_ble_eq_true rfl) (okRes_nil fun _ => rfl) ?_; simp only [s61, idxs, Nat.reduceAdd]
      repeat' (first
    | (with_reducible first | refine DW.seq ?_ | refine DW.block ?_ | refine DW.skip ?_ | refine DW.exit ?_ | refine DW.ret ?_ | refine DW.reg ?_)
    | (simp (disch := omega) only [go_sem, simprocAttr, Blk.men, Blk.keysIn, hd])
    | (exact retS_of rfl rfl rfl)
    | (refine DW.cond_tt rfl ?_)
    | (refine call_c (h1) (by decide) ?_)
    | (refine call_c (h2) (by decide) ?_)
    | (refine call_c (h3) (by decide) ?_)
    | (refine call_c (h4) (by decide) ?_)
    | (refine DW.cond_ff rfl ?_)
    | (refine DW.cond rfl ?_ ?_ <;> intro hc <;> (try simp only [go_sem] at hc))
    | (refine g_split ?_ ?_ <;> intro hc <;> (try simp only [hc]) <;> (try simp only [go_sem] at hc)))
theorem trCheck (p : TPap) (l : List TOrd) (hl : l.length ≤ 2 ^ 36) : DCall Try.prog 45 [papD p, .c (.sl false 3 (rows eO l))] [] (dI (openE p l)) [] := by
  by_cases h : openE p l = 0
  · have h1 := trOpen p l h
    rw [h]
    refine DCall.of Try.func45 sf45 hb45 (Nat.le_of_ble_eq_true rfl) (okRes_nil fun _ => rfl) ?_; simp only [s45, idxs, Nat.reduceAdd]
    repeat' (first
    | (with_reducible first | refine DW.seq ?_ | refine DW.block ?_ | refine DW.skip ?_ | refine DW.exit ?_ | refine DW.ret ?_ | refine DW.reg ?_)
    | (simp (disch := omega) only [go_sem, simprocAttr, Blk.men, Blk.keysIn])
    | (exact retS_of rfl rfl rfl)
    | (refine DW.cond_tt rfl ?_)
    | (refine call_c (h1) (by decide) ?_)
    | (refine DW.cond_ff rfl ?_)
    | (refine DW.cond rfl ?_ ?_ <;> intro hc <;> (try simp only [go_sem] at hc))
    | (refine g_split ?_ ?_ <;> intro hc <;> (try simp only [hc]) <;> (try simp only [go_sem] at hc)))
  · have h1 := trOpenE false p l hl h
    generalize openE p l = e at *
    refine DCall.of Try.func45 sf45 hb45 (Nat.le_of_ble_eq_true rfl) (okRes_nil fun _ => rfl) ?_; simp only [s45, idxs, Nat.reduceAdd]
    repeat' (first
    | (with_reducible first | refine DW.seq ?_ | refine DW.block ?_ | refine DW.skip ?_ | refine DW.exit ?_ | refine DW.ret ?_ | refine DW.reg ?_)
    | (simp (disch := omega) only [go_sem, simprocAttr, Blk.men, Blk.keysIn])
    | (exact retS_of rfl rfl rfl)
    | (refine DW.cond_tt rfl ?_)
    | (refine call_c (h1) (by decide) ?_)
    | (refine DW.cond_ff rfl ?_)
    | (refine DW.cond rfl ?_ ?_ <;> intro hc <;> (try simp only [go_sem] at hc))
    | (refine g_split ?_ ?_ <;> intro hc <;> (try simp only [hc]) <;> (try simp only [go_sem] at hc)))
end Go.Dw.Seat
end
section
set_option linter.unusedSimpArgs false
set_option maxRecDepth 100000
namespace Go.Dw.Seat
open Go Go.Dw Go.Proofs Go.IntWalk
theorem dot_take : ∀ {ws : List Int} {l : List TOrd} {i : Nat} {n : Int} {o : TOrd}, ws[i]? = some n → l[i]? = some o → dotI (ws.take (i + 1)) l = dotI (ws.take i) l + n * o.w
  | [], _, _, _, _, h, _ => by simp at h
  | _ :: _, [], _, _, _, _, h => by simp at h
  | m :: ws, a :: l, 0, n, o, h1, h2 => by
    cases h1; cases h2
    simp [dotI]
  | m :: ws, a :: l, i + 1, n, o, h1, h2 => by
    have := dot_take (ws := ws) (l := l) (i := i) (n := n) (o := o) h1 h2
    rw [List.take_succ_cons, List.take_succ_cons, dotI, dotI, this]; omega
theorem sum_take : ∀ {ws : List Int} {i : Nat} {n : Int}, ws[i]? = some n → sumI (ws.take (i + 1)) = sumI (ws.take i) + n
  | [], _, _, h => by simp at h
  | m :: ws, 0, n, h => by cases h; simp [sumI]
  | m :: ws, i + 1, n, h => by
    have := sum_take (ws := ws) (i := i) (n := n) h
    rw [List.take_succ_cons, List.take_succ_cons, sumI, sumI, this]; omega
theorem used_take : ∀ {ws : List Int} {i : Nat} {n : Int}, ws[i]? = some n → usedI (ws.take (i + 1)) = usedI (ws.take i) + (if 0 < n then 1 else 0)
  | [], _, _, h => by simp at h
  | m :: ws, 0, n, h => by cases h; simp [usedI]
  | m :: ws, i + 1, n, h => by
    have := used_take (ws := ws) (i := i) (n := n) h
    rw [List.take_succ_cons, List.take_succ_cons, usedI, usedI, this]; omega
structure Ws4 (l : List TOrd) (ws : List Int) : Prop where
  len : ws.length = l.length
  b : ∀ n ∈ ws, 0 ≤ n ∧ n ≤ 4
theorem Ws4.nn {l : List TOrd} {ws : List Int} (h : Ws4 l ws) : ∀ n ∈ ws, 0 ≤ n := fun n hn => (h.b n hn).1
theorem dot_b : ∀ {ws : List Int} {l : List TOrd}, (∀ n ∈ ws, 0 ≤ n ∧ n ≤ 4) → (∀ o ∈ l, o.ok) → 0 ≤ dotI ws l ∧ dotI ws l ≤ 12000 * (l.length : Int)
  | [], _, _, _ => by simp [dotI]; omega
  | _ :: _, [], _, _ => by simp [dotI]
  | n :: ws, o :: l, h1, h2 => by
    have ih := dot_b (ws := ws) (l := l) (fun x hx => h1 x (by simp [hx])) (fun x hx => h2 x (by simp [hx]))
    have hn := h1 n (by simp)
    have ho := (h2 o (by simp)).w
    have m1 : 0 ≤ n * o.w := Int.mul_nonneg hn.1 (by omega)
    have m2 : n * o.w ≤ 4 * o.w := Int.mul_le_mul_of_nonneg_right hn.2 (by omega)
    simp only [dotI, List.length_cons, Int.natCast_add, Int.natCast_one]
    omega
theorem sum_b4 : ∀ {ws : List Int}, (∀ n ∈ ws, 0 ≤ n ∧ n ≤ 4) → (0 ≤ sumI ws ∧ sumI ws ≤ 4 * (ws.length : Int)) ∧ 0 ≤ usedI ws ∧ usedI ws ≤ (ws.length : Int)
  | [], _ => by simp [sumI, usedI]
  | n :: ws, h => by
    have ih := sum_b4 (ws := ws) (fun x hx => h x (by simp [hx]))
    have hn := h n (by simp)
    simp only [sumI, usedI, List.length_cons, Int.natCast_add, Int.natCast_one]
    split <;> omega
theorem wthn1 (lo hi x : Int) : wthn lo hi [x] = (decide (lo ≤ x) && decide (x ≤ hi)) := by
  rw [Bool.eq_iff_iff]
  simp only [Bool.and_eq_true, decide_eq_true_eq]
  exact ⟨fun h => wthn_one h, fun h => wthn_yes (by simpa using h)⟩
set_option maxHeartbeats 1000000 in
theorem trTrim (b1 b2 : Bool) (p : TPap) (hp : p.ok) (l : List TOrd) (hl : l.length ≤ 4) (ho : ∀ o ∈ l, o.ok) (ws : List Int) (hw : Ws4 l ws) : DCall Try.prog 83 [macD b1 p l, dIs b2 ws] [] (dI (trimI p l ws)) [] := by
  have hwl := hw.len
  have hwi := hp.wide
  refine DCall.of Try.func83 sf83 hb83 (Nat.le_of_ble_eq_true rfl) (okRes_nil fun _ => rfl) ?_; simp only [s83, idxs, Nat.reduceAdd]
  repeat' (first
    | (with_reducible first | refine DW.seq ?_ | refine DW.block ?_ | refine DW.skip ?_ | refine DW.exit ?_ | refine DW.ret ?_ | refine DW.reg ?_)
    | (simp (disch := omega) only [go_sem, simprocAttr, Blk.men, Blk.keysIn])
    | (exact retS_of rfl rfl rfl)
    | (refine DW.cond_tt rfl ?_)
    | (refine DW.cond_ff rfl ?_)
    | (refine DW.cond rfl ?_ ?_ <;> intro hc <;> (try simp only [go_sem] at hc))
    | (refine g_split ?_ ?_ <;> intro hc <;> (try simp only [hc]) <;> (try simp only [go_sem] at hc)))
  refine DW.loop (ι := { i : Nat // i ≤ ws.length }) (fun i => ⟨30, [(13, dI i.1), (12, dI ws.length), (11, dIs b2 ws), (5, dI (p.wide - dotI (ws.take i.1) l)), (2, .box 2 0)], [(2, .box [dI p.wide, dI p.tl, dI p.th, dI p.webs, .c (.sl b1 3 (rows eO l))])]⟩) (fun i => ws.length - i.1) ⟨0, Nat.zero_le _⟩ ?_ ?_
  · refine Ent.to ?_ ?_ <;> simp (disch := omega) only [wkT_cons, wkX_cons, wkT_nil, wkX_nil, get, Nat.reduceEqDiff, ↓reduceIte, ex_some, wk_self, wk_top, wk_nil, wkB_self, and_self, dI, i64_in, and_true, true_and, Int.natCast_add, Int.natCast_one, Int.ofNat_zero, Int.natCast_zero, List.take_zero, dotI, Int.sub_zero]
    all_goals first | exact ⟨.refl _, .refl _⟩ | exact .refl _
  rintro ⟨i, hi⟩
  dsimp only
  rcases at_or ws i hi with ⟨n, hn, hlt, hd⟩ | ⟨he, hd⟩
  · obtain ⟨o, hoi⟩ := getE (l := l) (i := i) (by omega)
    have hnb := hw.b n (List.mem_of_getElem? hn)
    have hob := (ho o (List.mem_of_getElem? hoi)).w
    have ht := dot_take hn hoi
    have hdb := dot_b (ws := ws.take i) (l := l) (fun x hx => hw.b x (List.mem_of_mem_take hx)) ho
    have m1 : 0 ≤ n * o.w := Int.mul_nonneg hnb.1 (by omega)
    have m2 : n * o.w ≤ 4 * o.w := Int.mul_le_mul_of_nonneg_right hnb.2 (by omega)
    have w1 : IntKind.i64.wrap (n * o.w) = n * o.w := IntWalk.i64_in _ (by omega)
    have w2 : IntKind.i64.wrap (p.wide - dotI (ws.take i) l - n * o.w) = p.wide - dotI (ws.take i) l - n * o.w := IntWalk.i64_in _ (by omega)
    have hs : p.wide - dotI (ws.take (i + 1)) l = p.wide - dotI (ws.take i) l - n * o.w := by omega
    generalize p.wide - dotI (ws.take i) l = A at *
    repeat' (first
    | (with_reducible first | refine DW.seq ?_ | refine DW.block ?_ | refine DW.skip ?_ | refine DW.exit ?_ | refine DW.ret ?_ | refine DW.reg ?_)
    | (simp (disch := omega) only [go_sem, simprocAttr, Blk.men, Blk.keysIn, hd, hn, hoi, w1, w2, List.map_cons, List.map_nil])
    | (exact retS_of rfl rfl rfl)
    | (refine DW.cond_tt rfl ?_)
    | (refine DW.cond_ff rfl ?_)
    | (refine DW.cond rfl ?_ ?_ <;> intro hc <;> (try simp only [go_sem] at hc))
    | (refine g_split ?_ ?_ <;> intro hc <;> (try simp only [hc]) <;> (try simp only [go_sem] at hc)))
    refine ⟨⟨i + 1, hlt⟩, ?_, Ent.to ?_ ?_⟩ <;> first | (show _ < _; (try simp only); omega) | (simp (disch := omega) only [wkT_cons, wkX_cons, wkT_nil, wkX_nil, get, Nat.reduceEqDiff, ↓reduceIte, ex_some, wk_self, wk_top, wk_nil, wkB_self, and_self, dI, i64_in, and_true, true_and, Int.natCast_add, Int.natCast_one, Int.ofNat_zero, Int.natCast_zero,  hs])
    all_goals first | exact ⟨.refl _, .refl _⟩ | exact .refl _
  · repeat' (first
    | (with_reducible first | refine DW.seq ?_ | refine DW.block ?_ | refine DW.skip ?_ | refine DW.exit ?_ | refine DW.ret ?_ | refine DW.reg ?_)
    | (simp (disch := omega) only [go_sem, simprocAttr, Blk.men, Blk.keysIn, hd])
    | (exact retS_of rfl rfl rfl)
    | (refine DW.cond_tt rfl ?_)
    | (refine DW.cond_ff rfl ?_)
    | (refine DW.cond rfl ?_ ?_ <;> intro hc <;> (try simp only [go_sem] at hc))
    | (refine g_split ?_ ?_ <;> intro hc <;> (try simp only [hc]) <;> (try simp only [go_sem] at hc)))
    refine retS_of rfl ?_ rfl; simp only [oneD, St.op, get, Nat.reduceEqDiff, ↓reduceIte, Option.getD_some, bD, dI]
    rw [he, List.take_length]; rfl
end Go.Dw.Seat
end
section
set_option linter.unusedSimpArgs false
set_option maxRecDepth 100000
namespace Go.Dw.Seat
open Go Go.Dw Go.Proofs Go.IntWalk
set_option maxHeartbeats 2000000 in
theorem trIsPat (b1 b2 : Bool) (p : TPap) (hp : p.ok) (l : List TOrd) (hl : l.length ≤ 4) (ho : ∀ o ∈ l, o.ok) (ws : List Int) (hw : Ws4 l ws) : DCall Try.prog 111 [macD b1 p l, dIs b2 ws] [] (bD (patB p l ws)) [] := by
  have hwl := hw.len
  have h1 := trWithin true 1 p.webs [sumI ws] (by simp)
  have h2 := trWithin true p.tl p.th [trimI p l ws] (by simp)
  have h3 := trTrim b1 b2 p hp l hl ho ws hw
  have hE : patB p l ws = (wthn 1 p.webs [sumI ws] && decide (usedI ws ≤ 2) && wthn p.tl p.th [trimI p l ws]) := by rw [patB, wthn1, wthn1]
  rw [hE]
  clear hE
  generalize trimI p l ws = t at *
  refine DCall.of Try.func111 sf111 hb111 (Nat.le_of_ble_eq_true rfl) (okRes_nil fun _ => rfl) ?_; simp only [s111, idxs, Nat.reduceAdd]
  repeat' (first
    | (with_reducible first | refine DW.seq ?_ | refine DW.block ?_ | refine DW.skip ?_ | refine DW.exit ?_ | refine DW.ret ?_ | refine DW.reg ?_)
    | (refine DW.dreg rfl (WF.of ?_) ?_; first | rfl | skip)
    | (simp (disch := omega) only [go_sem, simprocAttr, Blk.men, Blk.keysIn])
    | (exact retS_of rfl rfl rfl)
    | (refine DW.cond_tt rfl ?_)
    | (refine DW.cond_ff rfl ?_)
    | (refine DW.cond rfl ?_ ?_ <;> intro hc <;> (try simp only [go_sem] at hc))
    | (refine g_split ?_ ?_ <;> intro hc <;> (try simp only [hc]) <;> (try simp only [go_sem] at hc)))
  refine DW.loop (ι := { i : Nat // i ≤ ws.length }) (fun i => ⟨48, [(11, dI i.1), (10, dI ws.length), (9, dIs b2 ws), (6, dI (usedI (ws.take i.1))), (5, dI (sumI (ws.take i.1))), (2, .box 2 0), (1, dIs b2 ws)], [(2, .box [dI p.wide, dI p.tl, dI p.th, dI p.webs, .c (.sl b1 3 (rows eO l))])]⟩) (fun i => ws.length - i.1) ⟨0, Nat.zero_le _⟩ ?_ ?_
  · refine Ent.to ?_ ?_ <;> simp (disch := omega) only [wkT_cons, wkX_cons, wkT_nil, wkX_nil, get, Nat.reduceEqDiff, ↓reduceIte, ex_some, wk_self, wk_top, wk_nil, wkB_self, and_self, dI, i64_in, and_true, true_and, Int.natCast_add, Int.natCast_one, Int.ofNat_zero, Int.natCast_zero, List.take_zero, sumI, usedI]
    all_goals first | exact ⟨.refl _, .refl _⟩ | exact .refl _
  rintro ⟨i, hi⟩
  dsimp only
  rcases at_or ws i hi with ⟨n, hn, hlt, hd⟩ | ⟨he, hd⟩
  · have hnb := hw.b n (List.mem_of_getElem? hn)
    have hb := sum_b4 (ws := ws.take i) (fun x hx => hw.b x (List.mem_of_mem_take hx))
    rw [List.length_take] at hb
    have hs := sum_take hn
    have hu := used_take hn
    generalize sumI (ws.take i) = A at *
    generalize usedI (ws.take i) = B at *
    by_cases hc : 0 < n
    · have hd2 : decide (0 < n) = true := decide_eq_true hc
      rw [if_pos hc] at hu
      repeat' (first
    | (with_reducible first | refine DW.seq ?_ | refine DW.block ?_ | refine DW.skip ?_ | refine DW.exit ?_ | refine DW.ret ?_ | refine DW.reg ?_)
    | (refine DW.dreg rfl (WF.of ?_) ?_; first | rfl | skip)
    | (simp (disch := omega) only [go_sem, simprocAttr, Blk.men, Blk.keysIn, hd, hn, hd2])
    | (exact retS_of rfl rfl rfl)
    | (refine DW.cond_tt rfl ?_)
    | (refine DW.cond_ff rfl ?_)
    | (refine DW.cond rfl ?_ ?_ <;> intro hc <;> (try simp only [go_sem] at hc))
    | (refine g_split ?_ ?_ <;> intro hc <;> (try simp only [hc]) <;> (try simp only [go_sem] at hc)))
      refine ⟨⟨i + 1, hlt⟩, ?_, Ent.to ?_ ?_⟩ <;> first | (show _ < _; (try simp only); omega) | (simp (disch := omega) only [wkT_cons, wkX_cons, wkT_nil, wkX_nil, get, Nat.reduceEqDiff, ↓reduceIte, ex_some, wk_self, wk_top, wk_nil, wkB_self, and_self, dI, i64_in, and_true, true_and, Int.natCast_add, Int.natCast_one, Int.ofNat_zero, Int.natCast_zero,  hs, hu])
      all_goals first | exact ⟨.refl _, .refl _⟩ | exact .refl _
    · have hd2 : decide (0 < n) = false := decide_eq_false hc
      rw [if_neg hc, Int.add_zero] at hu
      repeat' (first
    | (with_reducible first | refine DW.seq ?_ | refine DW.block ?_ | refine DW.skip ?_ | refine DW.exit ?_ | refine DW.ret ?_ | refine DW.reg ?_)
    | (refine DW.dreg rfl (WF.of ?_) ?_; first | rfl | skip)
    | (simp (disch := omega) only [go_sem, simprocAttr, Blk.men, Blk.keysIn, hd, hn, hd2])
    | (exact retS_of rfl rfl rfl)
    | (refine DW.cond_tt rfl ?_)
    | (refine DW.cond_ff rfl ?_)
    | (refine DW.cond rfl ?_ ?_ <;> intro hc <;> (try simp only [go_sem] at hc))
    | (refine g_split ?_ ?_ <;> intro hc <;> (try simp only [hc]) <;> (try simp only [go_sem] at hc)))
      refine ⟨⟨i + 1, hlt⟩, ?_, Ent.to ?_ ?_⟩ <;> first | (show _ < _; (try simp only); omega) | (simp (disch := omega) only [wkT_cons, wkX_cons, wkT_nil, wkX_nil, get, Nat.reduceEqDiff, ↓reduceIte, ex_some, wk_self, wk_top, wk_nil, wkB_self, and_self, dI, i64_in, and_true, true_and, Int.natCast_add, Int.natCast_one, Int.ofNat_zero, Int.natCast_zero,  hs, hu])
      all_goals first | exact ⟨.refl _, .refl _⟩ | exact .refl _
  · subst he
    rw [List.take_length]
    generalize sumI ws = A at *
    generalize usedI ws = B at *
    cases e1 : wthn 1 p.webs [A] <;> rw [e1] at h1
    · repeat' (first
    | (with_reducible first | refine DW.seq ?_ | refine DW.block ?_ | refine DW.skip ?_ | refine DW.exit ?_ | refine DW.ret ?_ | refine DW.reg ?_)
    | (refine DW.dreg rfl (WF.of ?_) ?_; first | rfl | skip)
    | (simp (disch := omega) only [go_sem, simprocAttr, Blk.men, Blk.keysIn, hd])
    | (exact retS_of rfl rfl rfl)
    | (refine DW.cond_tt rfl ?_)
    | (refine call_c (h1) (by decide) ?_)
    | (refine DW.cond_ff rfl ?_)
    | (refine DW.cond rfl ?_ ?_ <;> intro hc <;> (try simp only [go_sem] at hc))
    | (refine g_split ?_ ?_ <;> intro hc <;> (try simp only [hc]) <;> (try simp only [go_sem] at hc)))
    cases e2 : decide (B ≤ 2)
    · repeat' (first
    | (with_reducible first | refine DW.seq ?_ | refine DW.block ?_ | refine DW.skip ?_ | refine DW.exit ?_ | refine DW.ret ?_ | refine DW.reg ?_)
    | (refine DW.dreg rfl (WF.of ?_) ?_; first | rfl | skip)
    | (simp (disch := omega) only [go_sem, simprocAttr, Blk.men, Blk.keysIn, hd, e2])
    | (exact retS_of rfl rfl rfl)
    | (refine DW.cond_tt rfl ?_)
    | (refine call_c (h1) (by decide) ?_)
    | (refine DW.cond_ff rfl ?_)
    | (refine DW.cond rfl ?_ ?_ <;> intro hc <;> (try simp only [go_sem] at hc))
    | (refine g_split ?_ ?_ <;> intro hc <;> (try simp only [hc]) <;> (try simp only [go_sem] at hc)))
    cases e3 : wthn p.tl p.th [t] <;> rw [e3] at h2
    · repeat' (first
    | (with_reducible first | refine DW.seq ?_ | refine DW.block ?_ | refine DW.skip ?_ | refine DW.exit ?_ | refine DW.ret ?_ | refine DW.reg ?_)
    | (refine DW.dreg rfl (WF.of ?_) ?_; first | rfl | skip)
    | (simp (disch := omega) only [go_sem, simprocAttr, Blk.men, Blk.keysIn, hd, e2])
    | (exact retS_of rfl rfl rfl)
    | (refine DW.cond_tt rfl ?_)
    | (refine call_c (h1) (by decide) ?_)
    | (refine call_c (h3) (by decide) ?_)
    | (refine call_c (h2) (by decide) ?_)
    | (refine DW.cond_ff rfl ?_)
    | (refine DW.cond rfl ?_ ?_ <;> intro hc <;> (try simp only [go_sem] at hc))
    | (refine g_split ?_ ?_ <;> intro hc <;> (try simp only [hc]) <;> (try simp only [go_sem] at hc)))
    · repeat' (first
    | (with_reducible first | refine DW.seq ?_ | refine DW.block ?_ | refine DW.skip ?_ | refine DW.exit ?_ | refine DW.ret ?_ | refine DW.reg ?_)
    | (refine DW.dreg rfl (WF.of ?_) ?_; first | rfl | skip)
    | (simp (disch := omega) only [go_sem, simprocAttr, Blk.men, Blk.keysIn, hd, e2])
    | (exact retS_of rfl rfl rfl)
    | (refine DW.cond_tt rfl ?_)
    | (refine call_c (h1) (by decide) ?_)
    | (refine call_c (h3) (by decide) ?_)
    | (refine call_c (h2) (by decide) ?_)
    | (refine DW.cond_ff rfl ?_)
    | (refine DW.cond rfl ?_ ?_ <;> intro hc <;> (try simp only [go_sem] at hc))
    | (refine g_split ?_ ?_ <;> intro hc <;> (try simp only [hc]) <;> (try simp only [go_sem] at hc)))
def websE (p : TPap) (l : List TOrd) (ws : List Int) : Int := if ws.length ≠ l.length ∨ wthn 0 4 ws = false then 4 else if patB p l ws = false then 7 else 0
theorem websE_ok {p : TPap} {l : List TOrd} {ws : List Int} (h : websE p l ws = 0) : Ws4 l ws ∧ patB p l ws = true := by
  unfold websE at h
  split at h
  · cases h
  · rename_i h1
    split at h
    · cases h
    · rename_i h2
      simp only [not_or, Classical.not_not, Bool.not_eq_false] at h1
      exact ⟨⟨h1.1, wthn_all h1.2⟩, by simpa using h2⟩
theorem websE_yes {p : TPap} {l : List TOrd} {ws : List Int} (h : Ws4 l ws) (hp : patB p l ws = true) : websE p l ws = 0 := by
  unfold websE
  rw [if_neg, if_neg (by rw [hp]; decide)]
  rw [wthn_yes h.b]
  simp [h.len]
theorem trWebs (b1 b2 : Bool) (p : TPap) (hp : p.ok) (l : List TOrd) (hl : l.length ≤ 4) (ho : ∀ o ∈ l, o.ok) (ws : List Int) (hwl : ws.length ≤ 2 ^ 36) : DCall Try.prog 101 [macD b1 p l, dIs b2 ws] [] (dI (websE p l ws)) [] := by
  have h1 := trWithin b2 0 4 ws hwl
  by_cases hlen : ws.length = l.length
  case neg =>
    have hd : ((ws.length : Int) != (l.length : Int)) = true := by rw [bne_iff_ne]; omega
    have hE : websE p l ws = 4 := if_pos (.inl hlen)
    rw [hE]
    refine DCall.of Try.func101 sf101 hb101 (Nat.le_of_ble_eq_true rfl) (okRes_nil fun _ => rfl) ?_; simp only [s101, idxs, Nat.reduceAdd]
    repeat' (first
    | (with_reducible first | refine DW.seq ?_ | refine DW.block ?_ | refine DW.skip ?_ | refine DW.exit ?_ | refine DW.ret ?_ | refine DW.reg ?_)
    | (simp (disch := omega) only [go_sem, simprocAttr, Blk.men, Blk.keysIn, hd])
    | (exact retS_of rfl rfl rfl)
    | (refine DW.cond_tt rfl ?_)
    | (refine DW.cond_ff rfl ?_)
    | (refine DW.cond rfl ?_ ?_ <;> intro hc <;> (try simp only [go_sem] at hc))
    | (refine g_split ?_ ?_ <;> intro hc <;> (try simp only [hc]) <;> (try simp only [go_sem] at hc)))
  have hd : ((ws.length : Int) != (l.length : Int)) = false := by rw [hlen]; simp
  cases e1 : wthn 0 4 ws <;> rw [e1] at h1
  · have hE : websE p l ws = 4 := if_pos (.inr e1)
    rw [hE]
    refine DCall.of Try.func101 sf101 hb101 (Nat.le_of_ble_eq_true rfl) (okRes_nil fun _ => rfl) ?_; simp only [s101, idxs, Nat.reduceAdd]
    repeat' (first
    | (with_reducible first | refine DW.seq ?_ | refine DW.block ?_ | refine DW.skip ?_ | refine DW.exit ?_ | refine DW.ret ?_ | refine DW.reg ?_)
    | (simp (disch := omega) only [go_sem, simprocAttr, Blk.men, Blk.keysIn, hd])
    | (exact retS_of rfl rfl rfl)
    | (refine DW.cond_tt rfl ?_)
    | (refine call_c (h1) (by decide) ?_)
    | (refine DW.cond_ff rfl ?_)
    | (refine DW.cond rfl ?_ ?_ <;> intro hc <;> (try simp only [go_sem] at hc))
    | (refine g_split ?_ ?_ <;> intro hc <;> (try simp only [hc]) <;> (try simp only [go_sem] at hc)))
  have hw : Ws4 l ws := ⟨hlen, wthn_all e1⟩
  have h2 := trIsPat b1 b2 p hp l hl ho ws hw
  have hn : ¬ (ws.length ≠ l.length ∨ wthn 0 4 ws = false) := by rw [e1]; simp [hlen]
  cases e2 : patB p l ws <;> rw [e2] at h2
  · have hE : websE p l ws = 7 := by unfold websE; rw [if_neg hn, if_pos e2]
    rw [hE]
    refine DCall.of Try.func101 sf101 hb101 (Nat.le_of_ble_eq_true rfl) (okRes_nil fun _ => rfl) ?_; simp only [s101, idxs, Nat.reduceAdd]
    repeat' (first
    | (with_reducible first | refine DW.seq ?_ | refine DW.block ?_ | refine DW.skip ?_ | refine DW.exit ?_ | refine DW.ret ?_ | refine DW.reg ?_)
    | (simp (disch := omega) only [go_sem, simprocAttr, Blk.men, Blk.keysIn, hd])
    | (exact retS_of rfl rfl rfl)
    | (refine DW.cond_tt rfl ?_)
    | (refine call_c (h1) (by decide) ?_)
    | (refine call_c (h2) (by decide) ?_)
    | (refine DW.cond_ff rfl ?_)
    | (refine DW.cond rfl ?_ ?_ <;> intro hc <;> (try simp only [go_sem] at hc))
    | (refine g_split ?_ ?_ <;> intro hc <;> (try simp only [hc]) <;> (try simp only [go_sem] at hc)))
  · have hE : websE p l ws = 0 := websE_yes hw e2
    rw [hE]
    refine DCall.of Try.func101 sf101 hb101 (Nat.le_of_ble_eq_true rfl) (okRes_nil fun _ => rfl) ?_; simp only [s101, idxs, Nat.reduceAdd]
    repeat' (first
    | (with_reducible first | refine DW.seq ?_ | refine DW.block ?_ | refine DW.skip ?_ | refine DW.exit ?_ | refine DW.ret ?_ | refine DW.reg ?_)
    | (simp (disch := omega) only [go_sem, simprocAttr, Blk.men, Blk.keysIn, hd])
    | (exact retS_of rfl rfl rfl)
    | (refine DW.cond_tt rfl ?_)
    | (refine call_c (h1) (by decide) ?_)
    | (refine call_c (h2) (by decide) ?_)
    | (refine DW.cond_ff rfl ?_)
    | (refine DW.cond rfl ?_ ?_ <;> intro hc <;> (try simp only [go_sem] at hc))
    | (refine g_split ?_ ?_ <;> intro hc <;> (try simp only [hc]) <;> (try simp only [go_sem] at hc)))
def owE (p : TPap) (l : List TOrd) (ws : List Int) : Int := if openE p l ≠ 0 then openE p l else websE p l ws
theorem trOpenW (b2 : Bool) (p : TPap) (l : List TOrd) (hl : l.length ≤ 2 ^ 36) (ws : List Int) (hwl : ws.length ≤ 2 ^ 36) : DCall Try.prog 82 [papD p, .c (.sl false 3 (rows eO l)), dIs b2 ws] [] (.tup [if openE p l = 0 then macD false p l else noneD, dI (owE p l ws)]) [] := by
  by_cases h : openE p l = 0
  · obtain ⟨hp, hl4, ho⟩ := openE_ok h
    have h1 := trOpen p l h
    have h2 := trWebs false b2 p hp l hl4 ho ws hwl
    rw [if_pos h, owE, if_neg (by simpa using h)]
    generalize websE p l ws = e at *
    refine DCall.of Try.func82 sf82 hb82 (Nat.le_of_ble_eq_true rfl) (okRes_nil fun _ => rfl) ?_; simp only [s82, idxs, Nat.reduceAdd]
    repeat' (first
    | (with_reducible first | refine DW.seq ?_ | refine DW.block ?_ | refine DW.skip ?_ | refine DW.exit ?_ | refine DW.ret ?_ | refine DW.reg ?_)
    | (simp (disch := omega) only [go_sem, simprocAttr, Blk.men, Blk.keysIn])
    | (exact retS_of rfl rfl rfl)
    | (refine DW.cond_tt rfl ?_)
    | (refine call_c (h1) (by decide) ?_)
    | (refine call_c (h2) (by decide) ?_)
    | (refine DW.cond_ff rfl ?_)
    | (refine DW.cond rfl ?_ ?_ <;> intro hc <;> (try simp only [go_sem] at hc))
    | (refine g_split ?_ ?_ <;> intro hc <;> (try simp only [hc]) <;> (try simp only [go_sem] at hc)))
    refine retS_wk rfl ?_ (by simp only [Blk.nb, rowC_nb, D.nb, D.nbs, C.nb, C.nbs, C.nbss, rows_nb eI_nb, Bool.and_true, Bool.not_false, Bool.and_self, bD, dI, iD, rows_nb eO_nb]); exact .refl _
  · have h1 := trOpenE false p l hl h
    rw [if_neg h, owE, if_pos h]
    generalize openE p l = e at *
    have hd : (e == 0) = false := by simpa using h
    refine DCall.of Try.func82 sf82 hb82 (Nat.le_of_ble_eq_true rfl) (okRes_nil fun _ => rfl) ?_; simp only [s82, idxs, Nat.reduceAdd]
    repeat' (first
    | (with_reducible first | refine DW.seq ?_ | refine DW.block ?_ | refine DW.skip ?_ | refine DW.exit ?_ | refine DW.ret ?_ | refine DW.reg ?_)
    | (simp (disch := omega) only [go_sem, simprocAttr, Blk.men, Blk.keysIn, hd])
    | (exact retS_of rfl rfl rfl)
    | (refine DW.cond_tt rfl ?_)
    | (refine call_c (h1) (by decide) ?_)
    | (refine DW.cond_ff rfl ?_)
    | (refine DW.cond rfl ?_ ?_ <;> intro hc <;> (try simp only [go_sem] at hc))
    | (refine g_split ?_ ?_ <;> intro hc <;> (try simp only [hc]) <;> (try simp only [go_sem] at hc)))
end Go.Dw.Seat
end
section
set_option linter.unusedSimpArgs false
set_option maxRecDepth 100000
namespace Go.Dw.Seat
open Go Go.Dw Go.Proofs Go.IntWalk
theorem crNaN (a : Int) : DCall Try.prog 107 [dI a] [] (bD false) [] := by
  refine DCall.of Try.func107 sf107 hb107 (Nat.le_of_ble_eq_true rfl) (okRes_nil fun _ => rfl) ?_; simp only [s107, idxs, Nat.reduceAdd]
  repeat' (first
    | (with_reducible first | refine DW.seq ?_ | refine DW.block ?_ | refine DW.skip ?_ | refine DW.exit ?_ | refine DW.ret ?_ | refine DW.reg ?_)
    | (simp (disch := omega) only [go_sem, simprocAttr, Blk.men, Blk.keysIn])
    | (exact retS_of rfl rfl rfl)
    | (refine DW.cond_tt rfl ?_)
    | (refine DW.cond_ff rfl ?_)
    | (refine DW.cond rfl ?_ ?_ <;> intro hc <;> (try simp only [go_sem] at hc))
    | (refine g_split ?_ ?_ <;> intro hc <;> (try simp only [hc]) <;> (try simp only [go_sem] at hc)))
def cmpI (a b : Int) : Int := if a < b then -1 else if b < a then 1 else 0
theorem crCmp (a b : Int) : DCall Try.prog 96 [dI a, dI b] [] (dI (cmpI a b)) [] := by
  have h1 := crNaN a
  have h2 := crNaN b
  by_cases hab : a < b
  · have d1 : decide (a < b) = true := decide_eq_true hab
    have e : cmpI a b = -1 := if_pos hab
    rw [e]
    refine DCall.of Try.func96 sf96 hb96 (Nat.le_of_ble_eq_true rfl) (okRes_nil fun _ => rfl) ?_; simp only [s96, idxs, Nat.reduceAdd]
    repeat' (first
    | (with_reducible first | refine DW.seq ?_ | refine DW.block ?_ | refine DW.skip ?_ | refine DW.exit ?_ | refine DW.ret ?_ | refine DW.reg ?_)
    | (simp (disch := omega) only [go_sem, simprocAttr, Blk.men, Blk.keysIn, d1])
    | (exact retS_of rfl rfl rfl)
    | (refine DW.cond_tt rfl ?_)
    | (refine call_c (h1) (by decide) ?_)
    | (refine call_c (h2) (by decide) ?_)
    | (refine DW.cond_ff rfl ?_)
    | (refine DW.cond rfl ?_ ?_ <;> intro hc <;> (try simp only [go_sem] at hc))
    | (refine g_split ?_ ?_ <;> intro hc <;> (try simp only [hc]) <;> (try simp only [go_sem] at hc)))
  have d1 : decide (a < b) = false := decide_eq_false hab
  by_cases hba : b < a
  · have d2 : decide (b < a) = true := decide_eq_true hba
    have e : cmpI a b = 1 := by rw [cmpI, if_neg hab, if_pos hba]
    rw [e]
    refine DCall.of Try.func96 sf96 hb96 (Nat.le_of_ble_eq_true rfl) (okRes_nil fun _ => rfl) ?_; simp only [s96, idxs, Nat.reduceAdd]
    repeat' (first
    | (with_reducible first | refine DW.seq ?_ | refine DW.block ?_ | refine DW.skip ?_ | refine DW.exit ?_ | refine DW.ret ?_ | refine DW.reg ?_)
    | (simp (disch := omega) only [go_sem, simprocAttr, Blk.men, Blk.keysIn, d1, d2])
    | (exact retS_of rfl rfl rfl)
    | (refine DW.cond_tt rfl ?_)
    | (refine call_c (h1) (by decide) ?_)
    | (refine call_c (h2) (by decide) ?_)
    | (refine DW.cond_ff rfl ?_)
    | (refine DW.cond rfl ?_ ?_ <;> intro hc <;> (try simp only [go_sem] at hc))
    | (refine g_split ?_ ?_ <;> intro hc <;> (try simp only [hc]) <;> (try simp only [go_sem] at hc)))
  · have d2 : decide (b < a) = false := decide_eq_false hba
    have e : cmpI a b = 0 := by rw [cmpI, if_neg hab, if_neg hba]
    rw [e]
    refine DCall.of Try.func96 sf96 hb96 (Nat.le_of_ble_eq_true rfl) (okRes_nil fun _ => rfl) ?_; simp only [s96, idxs, Nat.reduceAdd]
    repeat' (first
    | (with_reducible first | refine DW.seq ?_ | refine DW.block ?_ | refine DW.skip ?_ | refine DW.exit ?_ | refine DW.ret ?_ | refine DW.reg ?_)
    | (simp (disch := omega) only [go_sem, simprocAttr, Blk.men, Blk.keysIn, d1, d2])
    | (exact retS_of rfl rfl rfl)
    | (refine DW.cond_tt rfl ?_)
    | (refine call_c (h1) (by decide) ?_)
    | (refine call_c (h2) (by decide) ?_)
    | (refine DW.cond_ff rfl ?_)
    | (refine DW.cond rfl ?_ ?_ <;> intro hc <;> (try simp only [go_sem] at hc))
    | (refine g_split ?_ ?_ <;> intro hc <;> (try simp only [hc]) <;> (try simp only [go_sem] at hc)))
def cmpL : List Int → List Int → Int
  | [], [] => 0
  | [], _ :: _ => -1
  | _ :: _, [] => 1
  | a :: s, b :: t => if cmpI a b = 0 then cmpL s t else cmpI a b
theorem drop_cons {α : Type} {l : List α} {i : Nat} {v : α} (h : l[i]? = some v) : l.drop i = v :: l.drop (i + 1) := by
  have hlt := (List.getElem?_eq_some_iff.1 h).1
  have e : l[i] = v := (List.getElem?_eq_some_iff.1 h).2
  rw [← e]; exact List.drop_eq_getElem_cons hlt
theorem crCmpL (b1 b2 : Bool) (s t : List Int) (hs : s.length ≤ 2 ^ 36) (ht : t.length ≤ 2 ^ 36) : DCall Try.prog 77 [dIs b1 s, dIs b2 t] [] (dI (cmpL s t)) [] := by
  generalize hR : cmpL s t = R
  refine DCall.of Try.func77 sf77 hb77 (Nat.le_of_ble_eq_true rfl) (okRes_nil fun _ => rfl) ?_; simp only [s77, idxs, Nat.reduceAdd]
  repeat' (first
    | (with_reducible first | refine DW.seq ?_ | refine DW.block ?_ | refine DW.skip ?_ | refine DW.exit ?_ | refine DW.ret ?_ | refine DW.reg ?_)
    | (simp (disch := omega) only [go_sem, simprocAttr, Blk.men, Blk.keysIn])
    | (exact retS_of rfl rfl rfl)
    | (refine DW.cond_tt rfl ?_)
    | (refine DW.cond_ff rfl ?_)
    | (refine DW.cond rfl ?_ ?_ <;> intro hc <;> (try simp only [go_sem] at hc))
    | (refine g_split ?_ ?_ <;> intro hc <;> (try simp only [hc]) <;> (try simp only [go_sem] at hc)))
  refine DW.loop (ι := { i : Nat // i ≤ s.length ∧ i ≤ t.length ∧ cmpL (s.drop i) (t.drop i) = R }) (fun i => ⟨36, [(11, dI i.1), (10, dI s.length), (9, dIs b1 s), (1, dIs b2 t), (0, dIs b1 s)], []⟩) (fun i => s.length - i.1) ⟨0, Nat.zero_le _, Nat.zero_le _, hR⟩ ?_ ?_
  · refine Ent.to ?_ ?_ <;> simp (disch := omega) only [wkT_cons, wkX_cons, wkT_nil, wkX_nil, get, Nat.reduceEqDiff, ↓reduceIte, ex_some, wk_self, wk_top, wk_nil, wkB_self, and_self, dI, i64_in, and_true, true_and, Int.natCast_add, Int.natCast_one, Int.ofNat_zero, Int.natCast_zero]
  rintro ⟨i, hi, hit, hr⟩
  rcases at_or s i hi with ⟨v, hv, hlt, hd⟩ | ⟨he, hd⟩
  · rw [drop_cons hv] at hr
    rcases Nat.lt_or_ge i t.length with hlt2 | hge
    · obtain ⟨u, hu⟩ := getE (l := t) (i := i) hlt2
      have hdt : decide ((t.length : Int) ≤ (i : Int)) = false := by rw [decide_eq_false_iff_not]; omega
      have hc := crCmp v u
      rw [drop_cons hu, cmpL] at hr
      by_cases h0 : cmpI v u = 0
      · have e : (cmpI v u != 0) = false := by rw [h0]; rfl
        rw [if_pos h0] at hr
        repeat' (first
    | (with_reducible first | refine DW.seq ?_ | refine DW.block ?_ | refine DW.skip ?_ | refine DW.exit ?_ | refine DW.ret ?_ | refine DW.reg ?_)
    | (simp (disch := omega) only [go_sem, simprocAttr, Blk.men, Blk.keysIn, hd, hv, hdt, hu, e])
    | (exact retS_of rfl rfl rfl)
    | (refine DW.cond_tt rfl ?_)
    | (refine call_c (hc) (by decide) ?_)
    | (refine DW.cond_ff rfl ?_)
    | (refine DW.cond rfl ?_ ?_ <;> intro hc <;> (try simp only [go_sem] at hc))
    | (refine g_split ?_ ?_ <;> intro hc <;> (try simp only [hc]) <;> (try simp only [go_sem] at hc)))
        refine ⟨⟨i + 1, hlt, hlt2, hr⟩, ?_, Ent.to ?_ ?_⟩ <;> first | (show _ < _; (try simp only); omega) | (simp (disch := omega) only [wkT_cons, wkX_cons, wkT_nil, wkX_nil, get, Nat.reduceEqDiff, ↓reduceIte, ex_some, wk_self, wk_top, wk_nil, wkB_self, and_self, dI, i64_in, and_true, true_and, Int.natCast_add, Int.natCast_one, Int.ofNat_zero, Int.natCast_zero])
      · have e : (cmpI v u != 0) = true := by simpa using h0
        rw [if_neg h0] at hr
        repeat' (first
    | (with_reducible first | refine DW.seq ?_ | refine DW.block ?_ | refine DW.skip ?_ | refine DW.exit ?_ | refine DW.ret ?_ | refine DW.reg ?_)
    | (simp (disch := omega) only [go_sem, simprocAttr, Blk.men, Blk.keysIn, hd, hv, hdt, hu, e])
    | (exact retS_of rfl rfl rfl)
    | (refine DW.cond_tt rfl ?_)
    | (refine call_c (hc) (by decide) ?_)
    | (refine DW.cond_ff rfl ?_)
    | (refine DW.cond rfl ?_ ?_ <;> intro hc <;> (try simp only [go_sem] at hc))
    | (refine g_split ?_ ?_ <;> intro hc <;> (try simp only [hc]) <;> (try simp only [go_sem] at hc)))
        refine retS_of rfl ?_ rfl; simp only [oneD, St.op, get, Nat.reduceEqDiff, ↓reduceIte, Option.getD_some, bD, dI]
        rw [← hr]
    · have hdt : decide ((t.length : Int) ≤ (i : Int)) = true := by rw [decide_eq_true_eq]; omega
      rw [List.drop_of_length_le hge, cmpL] at hr
      repeat' (first
    | (with_reducible first | refine DW.seq ?_ | refine DW.block ?_ | refine DW.skip ?_ | refine DW.exit ?_ | refine DW.ret ?_ | refine DW.reg ?_)
    | (simp (disch := omega) only [go_sem, simprocAttr, Blk.men, Blk.keysIn, hd, hv, hdt])
    | (exact retS_of rfl rfl rfl)
    | (refine DW.cond_tt rfl ?_)
    | (refine DW.cond_ff rfl ?_)
    | (refine DW.cond rfl ?_ ?_ <;> intro hc <;> (try simp only [go_sem] at hc))
    | (refine g_split ?_ ?_ <;> intro hc <;> (try simp only [hc]) <;> (try simp only [go_sem] at hc)))
      refine retS_of rfl ?_ rfl; simp only [oneD, St.op, get, Nat.reduceEqDiff, ↓reduceIte, Option.getD_some, bD, dI]
      rw [← hr]
  · rw [List.drop_of_length_le (by omega : s.length ≤ i)] at hr
    rcases Nat.lt_or_ge s.length t.length with h1 | h1
    · have hdl : decide ((s.length : Int) < (t.length : Int)) = true := by rw [decide_eq_true_eq]; omega
      obtain ⟨u, hu⟩ := getE (l := t) (i := i) (by omega)
      rw [drop_cons hu, cmpL] at hr
      repeat' (first
    | (with_reducible first | refine DW.seq ?_ | refine DW.block ?_ | refine DW.skip ?_ | refine DW.exit ?_ | refine DW.ret ?_ | refine DW.reg ?_)
    | (simp (disch := omega) only [go_sem, simprocAttr, Blk.men, Blk.keysIn, hd, hdl])
    | (exact retS_of rfl rfl rfl)
    | (refine DW.cond_tt rfl ?_)
    | (refine DW.cond_ff rfl ?_)
    | (refine DW.cond rfl ?_ ?_ <;> intro hc <;> (try simp only [go_sem] at hc))
    | (refine g_split ?_ ?_ <;> intro hc <;> (try simp only [hc]) <;> (try simp only [go_sem] at hc)))
      refine retS_of rfl ?_ rfl; simp only [oneD, St.op, get, Nat.reduceEqDiff, ↓reduceIte, Option.getD_some, bD, dI]
      rw [← hr]
    · have hdl : decide ((s.length : Int) < (t.length : Int)) = false := by rw [decide_eq_false_iff_not]; omega
      rw [List.drop_of_length_le (by omega : t.length ≤ i), cmpL] at hr
      repeat' (first
    | (with_reducible first | refine DW.seq ?_ | refine DW.block ?_ | refine DW.skip ?_ | refine DW.exit ?_ | refine DW.ret ?_ | refine DW.reg ?_)
    | (simp (disch := omega) only [go_sem, simprocAttr, Blk.men, Blk.keysIn, hd, hdl])
    | (exact retS_of rfl rfl rfl)
    | (refine DW.cond_tt rfl ?_)
    | (refine DW.cond_ff rfl ?_)
    | (refine DW.cond rfl ?_ ?_ <;> intro hc <;> (try simp only [go_sem] at hc))
    | (refine g_split ?_ ?_ <;> intro hc <;> (try simp only [hc]) <;> (try simp only [go_sem] at hc)))
      refine retS_of rfl ?_ rfl; simp only [oneD, St.op, get, Nat.reduceEqDiff, ↓reduceIte, Option.getD_some, bD, dI]
      rw [← hr]
theorem c90 (a b : Int) : DCall Try.prog 102 [dI a, dI b] [] (bD (decide (a < b))) [] := by
  refine DCall.of Try.func102 sf102 hb102 (Nat.le_of_ble_eq_true rfl) (okRes_nil fun _ => rfl) ?_; simp only [s102, idxs, Nat.reduceAdd]
  repeat' (first
    | (with_reducible first | refine DW.seq ?_ | refine DW.block ?_ | refine DW.skip ?_ | refine DW.exit ?_ | refine DW.ret ?_ | refine DW.reg ?_)
    | (simp (disch := omega) only [go_sem, simprocAttr, Blk.men, Blk.keysIn])
    | (exact retS_of rfl rfl rfl)
    | (refine DW.cond_tt rfl ?_)
    | (refine call_c (crNaN _) (by decide) ?_)
    | (refine DW.cond_ff rfl ?_)
    | (refine DW.cond rfl ?_ ?_ <;> intro hc <;> (try simp only [go_sem] at hc))
    | (refine g_split ?_ ?_ <;> intro hc <;> (try simp only [hc]) <;> (try simp only [go_sem] at hc)))
theorem c106 (b : Bool) (l : List Int) (hl : l.length ≤ 2 ^ 36) (k : Nat) : DCall Try.prog 88 [dIs b l] [] (.own k) [(k, .row 1 (rowC (rows eI l)))] := by
  have hnb : ∀ l : List Int, Blk.nb (.row 1 (rowC (rows eI l))) = true := fun l => rowC_nb (rows_nb eI_nb l)
  refine DCall.rename (k0 := 5) ?_ k
  cases l with
  | nil =>
    refine DCall.nil1 (fun a c => ?_)
    cases a with
    | none =>
      refine DCall.of Try.func88 sf88 hb88 (Nat.le_of_ble_eq_true rfl) okRes_row ?_; simp only [s88, idxs, Nat.reduceAdd]
      repeat' (first
    | (with_reducible first | refine DW.seq ?_ | refine DW.block ?_ | refine DW.skip ?_ | refine DW.exit ?_ | refine DW.ret ?_ | refine DW.reg ?_)
    | (simp (disch := omega) only [go_sem, simprocAttr, Blk.men, Blk.keysIn, Option.isNone])
    | (exact retS_of rfl rfl rfl)
    | (refine DW.cond_tt rfl ?_)
    | (refine DW.cond_ff rfl ?_)
    | (refine DW.cond rfl ?_ ?_ <;> intro hc <;> (try simp only [go_sem] at hc))
    | (refine g_split ?_ ?_ <;> intro hc <;> (try simp only [hc]) <;> (try simp only [go_sem] at hc)))
      refine retS_ent (Ent.adopt 2 5 1 rfl rfl rfl) ?_
      simp (disch := omega) only [go_sem, simprocAttr, Blk.men, Blk.keysIn]
      refine retS_row ?_ ?_ (hnb []) <;> rfl
    | some a =>
      refine DCall.of Try.func88 sf88 hb88 (Nat.le_of_ble_eq_true rfl) okRes_row ?_; simp only [s88, idxs, Nat.reduceAdd]
      refine DW.seq (DW.reg ?_)
      simp (disch := omega) only [go_sem, simprocAttr, Blk.men, Blk.keysIn]
      refine DW.seq (DW.seq (DW.reg ?_))
      simp (disch := omega) only [go_sem, simprocAttr, Blk.men, Blk.keysIn, Option.isNone]
      refine DW.cond_ff rfl (DW.skip ?_)
      simp (disch := omega) only [go_sem, simprocAttr, Blk.men, Blk.keysIn]
      refine DW.ent (Ent.to (tm' := [(0, .c (.sl b 1 []))]) (bx' := []) (by simp (disch := omega) only [wkT_cons, wkX_cons, wkT_nil, wkX_nil, get, Nat.reduceEqDiff, ↓reduceIte, ex_some, wk_self, wk_top, wk_nil, wkB_self, and_self, dI, i64_in, and_true, true_and, Int.natCast_add, Int.natCast_one, Int.ofNat_zero, Int.natCast_zero]) trivial) ?_
      repeat' (first
    | (with_reducible first | refine DW.seq ?_ | refine DW.block ?_ | refine DW.skip ?_ | refine DW.exit ?_ | refine DW.ret ?_ | refine DW.reg ?_)
    | (simp (disch := omega) only [go_sem, simprocAttr, Blk.men, Blk.keysIn])
    | (exact retS_of rfl rfl rfl)
    | (refine DW.cond_tt rfl ?_)
    | (refine DW.cond_ff rfl ?_)
    | (refine DW.cond rfl ?_ ?_ <;> intro hc <;> (try simp only [go_sem] at hc))
    | (refine g_split ?_ ?_ <;> intro hc <;> (try simp only [hc]) <;> (try simp only [go_sem] at hc)))
      refine retS_row ?_ ?_ (hnb []) <;> rfl
  | cons x l =>
    simp only [List.length_cons] at hl
    refine DCall.of Try.func88 sf88 hb88 (Nat.le_of_ble_eq_true rfl) okRes_row ?_; simp only [s88, idxs, Nat.reduceAdd]
    repeat' (first
    | (with_reducible first | refine DW.seq ?_ | refine DW.block ?_ | refine DW.skip ?_ | refine DW.exit ?_ | refine DW.ret ?_ | refine DW.reg ?_)
    | (simp (disch := omega) only [go_sem, simprocAttr, Blk.men, Blk.keysIn, rows_cons])
    | (exact retS_of rfl rfl rfl)
    | (refine DW.cond_tt rfl ?_)
    | (refine DW.cond_ff rfl ?_)
    | (refine DW.cond rfl ?_ ?_ <;> intro hc <;> (try simp only [go_sem] at hc))
    | (refine g_split ?_ ?_ <;> intro hc <;> (try simp only [hc]) <;> (try simp only [go_sem] at hc)))
    refine retS_row ?_ ?_ (hnb (x :: l)) <;> rfl
def srt : List Int → Bool
  | a :: b :: l => decide (a ≤ b) && srt (b :: l)
  | _ => true
theorem srt_true : ∀ {l : List Int}, (∀ j a b, l[j]? = some a → l[j + 1]? = some b → a ≤ b) → srt l = true
  | [], _ => rfl
  | [_], _ => rfl
  | a :: b :: l, h => by
    have h1 := h 0 a b rfl rfl
    have h2 := srt_true (l := b :: l) (fun j x y hx hy => h (j + 1) x y hx hy)
    simp [srt, h1, h2]
theorem srt_false : ∀ {l : List Int} {j : Nat} {a b : Int}, l[j]? = some a → l[j + 1]? = some b → ¬ a ≤ b → srt l = false
  | [], _, _, _, h, _, _ => by simp at h
  | [_], _, _, _, _, h, _ => by simp at h
  | x :: y :: l, 0, a, b, h1, h2, h => by
    simp at h1 h2; subst h1; subst h2
    simp only [srt, decide_eq_false h, Bool.false_and]
  | x :: y :: l, j + 1, a, b, h1, h2, h => by
    have := srt_false (l := y :: l) (j := j) (by simpa using h1) (by simpa using h2) h
    simp [srt, this]
theorem c116 (b : Bool) (l : List Int) (hl : l.length ≤ 2 ^ 36) : DCall Try.prog 86 [dIs b l] [] (bD (srt l)) [] := by
  refine DCall.of Try.func86 sf86 hb86 (Nat.le_of_ble_eq_true rfl) (okRes_nil fun _ => rfl) ?_; simp only [s86, idxs, Nat.reduceAdd]
  repeat' (first
    | (with_reducible first | refine DW.seq ?_ | refine DW.block ?_ | refine DW.skip ?_ | refine DW.exit ?_ | refine DW.ret ?_ | refine DW.reg ?_)
    | (refine DW.dreg rfl (WF.of ?_) ?_; first | rfl | skip)
    | (simp (disch := omega) only [go_sem, simprocAttr, Blk.men, Blk.keysIn])
    | (exact retS_of rfl rfl rfl)
    | (refine DW.cond_tt rfl ?_)
    | (refine DW.cond_ff rfl ?_)
    | (refine DW.cond rfl ?_ ?_ <;> intro hc <;> (try simp only [go_sem] at hc))
    | (refine g_split ?_ ?_ <;> intro hc <;> (try simp only [hc]) <;> (try simp only [go_sem] at hc)))
  refine DW.loop (ι := { i : Nat // i ≤ l.length ∧ ∀ j, i ≤ j + 1 → ∀ u v, l[j]? = some u → l[j + 1]? = some v → u ≤ v }) (fun i => ⟨21, [(3, dI ((i.1 : Int) - 1)), (0, dIs b l)], []⟩) (fun i => i.1) ⟨l.length, Nat.le_refl _, fun j hj u v hu hv => by
    rw [List.getElem?_eq_none (by omega)] at hv; cases hv⟩ ?_ ?_
  · refine Ent.to ?_ ?_ <;> simp (disch := omega) only [wkT_cons, wkX_cons, wkT_nil, wkX_nil, get, Nat.reduceEqDiff, ↓reduceIte, ex_some, wk_self, wk_top, wk_nil, wkB_self, and_self, dI, i64_in, and_true, true_and, Int.natCast_add, Int.natCast_one, Int.ofNat_zero, Int.natCast_zero]
  rintro ⟨i, hi, hij⟩
  rcases Nat.lt_or_ge 1 i with h | h
  · obtain ⟨k, rfl⟩ : ∃ k, i = k + 2 := ⟨i - 2, by omega⟩
    obtain ⟨u, hu⟩ : ∃ u, l[k]? = some u := getE (by omega)
    obtain ⟨v, hv⟩ : ∃ v, l[k + 1]? = some v := getE (by omega)
    have e1 : ((k + 2 : Nat) : Int) - 1 = ((k + 1 : Nat) : Int) := by omega
    have e2 : ((k + 1 : Nat) : Int) - 1 = (k : Int) := by omega
    have hpos : decide ((0 : Int) < ((k + 1 : Nat) : Int)) = true := by rw [decide_eq_true_eq]; omega
    repeat' (first
    | (with_reducible first | refine DW.seq ?_ | refine DW.block ?_ | refine DW.skip ?_ | refine DW.exit ?_ | refine DW.ret ?_ | refine DW.reg ?_)
    | (refine DW.dreg rfl (WF.of ?_) ?_; first | rfl | skip)
    | (simp (disch := omega) only [go_sem, simprocAttr, Blk.men, Blk.keysIn, e1, e2, hpos, hu, hv])
    | (exact retS_of rfl rfl rfl)
    | (refine DW.cond_tt rfl ?_)
    | (refine call_c (c90 _ _) (by decide) ?_)
    | (refine DW.cond_ff rfl ?_)
    | (refine DW.cond rfl ?_ ?_ <;> intro hc <;> (try simp only [go_sem] at hc))
    | (refine g_split ?_ ?_ <;> intro hc <;> (try simp only [hc]) <;> (try simp only [go_sem] at hc)))
    · refine retS_of rfl ?_ rfl; simp only [oneD, St.op, get, Nat.reduceEqDiff, ↓reduceIte, Option.getD_some, bD, dI]
      rw [srt_false hu hv (by omega)]
    · refine ⟨⟨k + 1, by omega, fun j hj a c ha hc' => by
        rcases Nat.lt_or_ge k j with h1 | h1
        · exact hij j (by omega) a c ha hc'
        · obtain rfl : j = k := by omega
          rw [hu] at ha; rw [hv] at hc'; cases ha; cases hc'; assumption⟩, ?_, Ent.to ?_ ?_⟩ <;> first | (show _ < _; (try simp only); omega) | (simp (disch := omega) only [wkT_cons, wkX_cons, wkT_nil, wkX_nil, get, Nat.reduceEqDiff, ↓reduceIte, ex_some, wk_self, wk_top, wk_nil, wkB_self, and_self, dI, i64_in, and_true, true_and, Int.natCast_add, Int.natCast_one, Int.ofNat_zero, Int.natCast_zero,  Int.add_sub_cancel])
  · have hneg : decide ((0 : Int) < (i : Int) - 1) = false := by rw [decide_eq_false_iff_not]; omega
    repeat' (first
    | (with_reducible first | refine DW.seq ?_ | refine DW.block ?_ | refine DW.skip ?_ | refine DW.exit ?_ | refine DW.ret ?_ | refine DW.reg ?_)
    | (refine DW.dreg rfl (WF.of ?_) ?_; first | rfl | skip)
    | (simp (disch := omega) only [go_sem, simprocAttr, Blk.men, Blk.keysIn, hneg])
    | (exact retS_of rfl rfl rfl)
    | (refine DW.cond_tt rfl ?_)
    | (refine DW.cond_ff rfl ?_)
    | (refine DW.cond rfl ?_ ?_ <;> intro hc <;> (try simp only [go_sem] at hc))
    | (refine g_split ?_ ?_ <;> intro hc <;> (try simp only [hc]) <;> (try simp only [go_sem] at hc)))
    refine retS_of rfl ?_ rfl; simp only [oneD, St.op, get, Nat.reduceEqDiff, ↓reduceIte, Option.getD_some, bD, dI]
    rw [srt_true]
    intro j a c ha hc
    exact hij j (by omega) a c ha hc
def dupAt : List Int → Nat → Option Nat
  | a :: b :: l, k => if b = a then some (k + 1) else dupAt (b :: l) (k + 1)
  | _, _ => none
def keptTo (s : List Int) (m : Nat) : List Int := (((s.tail.zip s).take m).filter fun q => decide (q.1 ≠ q.2)).map (·.1)
def cpt (l : List Int) : List Int := match dupAt l 0 with
  | none => l
  | some k => l.take k ++ keptTo (l.drop k) ((l.drop k).length - 1)
theorem dupAt_some : ∀ {l : List Int} {k i : Nat}, (∀ j a b, j < i → l[j]? = some a → l[j + 1]? = some b → b ≠ a) → ∀ {a : Int}, l[i]? = some a → l[i + 1]? = some a → dupAt l k = some (k + i + 1)
  | [], _, _, _, _, h, _ => by simp at h
  | [_], _, _, _, _, _, h => by simp at h
  | x :: y :: l, k, 0, _, a, h1, h2 => by
    simp at h1 h2; subst h1; subst h2
    simp [dupAt]
  | x :: y :: l, k, i + 1, h, a, h1, h2 => by
    have h0 := h 0 x y (by omega) rfl rfl
    have := dupAt_some (l := y :: l) (k := k + 1) (i := i) (fun j a b hj ha hb => h (j + 1) a b (by omega) ha hb) (by simpa using h1) (by simpa using h2)
    simp only [dupAt, h0, if_false, this]
    congr 1; omega
theorem dupAt_none : ∀ {l : List Int} {k : Nat}, (∀ j a b, l[j]? = some a → l[j + 1]? = some b → b ≠ a) → dupAt l k = none
  | [], _, _ => rfl
  | [_], _, _ => rfl
  | x :: y :: l, k, h => by
    have h0 := h 0 x y rfl rfl
    simp only [dupAt, h0, if_false]
    exact dupAt_none (l := y :: l) (fun j a b ha hb => h (j + 1) a b ha hb)
theorem keptTo_len (s : List Int) (m : Nat) : (keptTo s m).length ≤ m := by
  simp only [keptTo, List.length_map]
  refine Nat.le_trans (List.length_filter_le _ _) ?_
  rw [List.length_take]; omega
theorem keptTo_succ {s : List Int} {m : Nat} {a b : Int} (ha : s[m]? = some a) (hb : s[m + 1]? = some b) : keptTo s (m + 1) = keptTo s m ++ if b = a then [] else [b] := by
  have hz : (s.tail.zip s)[m]? = some (b, a) := by
    rw [List.getElem?_zip_eq_some]
    exact ⟨by rw [List.getElem?_tail]; exact hb, ha⟩
  simp only [keptTo, List.take_add_one, hz, List.filter_append, List.map_append, Option.toList_some]
  congr 1
  by_cases h : b = a <;> simp [h]
structure Cp (l : List Int) (K m : Nat) (cur : List Int) : Prop where
  le : K + m + 1 ≤ l.length
  len : cur.length = l.length
  tk : cur.take (K + (keptTo (l.drop K) m).length) = l.take K ++ keptTo (l.drop K) m
  dr : cur.drop (K + m) = l.drop (K + m)
theorem drop_get {l cur : List Int} {i j : Nat} (h : cur.drop i = l.drop i) (hj : i ≤ j) : cur[j]? = l[j]? := by
  have h1 : (cur.drop i)[j - i]? = (l.drop i)[j - i]? := by rw [h]
  rw [List.getElem?_drop, List.getElem?_drop] at h1
  rwa [show i + (j - i) = j by omega] at h1
theorem Cp.step {l : List Int} {K m : Nat} {cur : List Int} {a b : Int} (h : Cp l K m cur) (hlt : K + m + 1 < l.length) (ha : l[K + m]? = some a) (hb : l[K + m + 1]? = some b) :
    (b = a → Cp l K (m + 1) cur ∧ (keptTo (l.drop K) (m + 1)).length = (keptTo (l.drop K) m).length) ∧
    (b ≠ a → Cp l K (m + 1) (cur.set (K + (keptTo (l.drop K) m).length) b) ∧ (keptTo (l.drop K) (m + 1)).length = (keptTo (l.drop K) m).length + 1) := by
  have hk := keptTo_succ (s := l.drop K) (m := m) (a := a) (b := b) (by rw [List.getElem?_drop]; exact ha) (by rw [List.getElem?_drop]; exact hb)
  have h1 := keptTo_len (l.drop K) m
  have h2 := h.tk
  have h3 := h.len
  have h4 : cur.drop (K + (m + 1)) = l.drop (K + (m + 1)) := by
    have := congrArg (List.drop 1) h.dr
    simpa [List.drop_drop, Nat.add_assoc] using this
  generalize keptTo (l.drop K) m = f at *
  constructor
  · intro hba
    rw [if_pos hba, List.append_nil] at hk
    exact ⟨⟨by omega, h3, by rw [hk]; exact h2, h4⟩, by rw [hk]⟩
  · intro hba
    rw [if_neg hba] at hk
    refine ⟨⟨by omega, by simp [h3], ?_, ?_⟩, by rw [hk]; simp⟩
    · rw [hk]
      simp only [List.length_append, List.length_cons, List.length_nil, ← Nat.add_assoc]
      rw [List.take_add_one, List.take_set_of_le (Nat.le_refl _), h2, List.getElem?_set_self (by omega), List.append_assoc]
      rfl
    · rw [List.drop_set_of_lt (by omega)]
      exact h4
theorem Cp.fin {l : List Int} {K m : Nat} {cur : List Int} (h : Cp l K m cur) (hm : m + 1 = (l.drop K).length) (hd : dupAt l 0 = some K) : cur.take (K + (keptTo (l.drop K) m).length) = cpt l := by
  unfold cpt
  rw [hd, h.tk]
  dsimp only
  rw [← hm, Nat.add_sub_cancel]
theorem c117 (l : List Int) (hl : l.length ≤ 2 ^ 36) : DCall Try.prog 87 [.own 0] [(0, .row 1 (rowC (rows eI l)))] (.own 0) [(0, .row 1 (rowC (rows eI (cpt l))))] := by
  rcases Nat.lt_or_ge l.length 2 with hs | hs
  · have hc : cpt l = l := by
      cases l with
      | nil => rfl
      | cons a l => cases l with
        | nil => rfl
        | cons b l => simp at hs; omega
    have hd : decide ((l.length : Int) < 2) = true := by rw [decide_eq_true_eq]; omega
    refine DCall.of Try.func87 sf87 hb87 (Nat.le_of_ble_eq_true rfl) okRes_row ?_; simp only [s87, idxs, Nat.reduceAdd]
    repeat' (first
    | (with_reducible first | refine DW.seq ?_ | refine DW.block ?_ | refine DW.skip ?_ | refine DW.exit ?_ | refine DW.ret ?_ | refine DW.reg ?_)
    | (refine DW.dreg rfl (WF.of ?_) ?_; first | rfl | skip)
    | (simp (disch := omega) only [go_sem, simprocAttr, Blk.men, Blk.keysIn, hd])
    | (exact retS_of rfl rfl rfl)
    | (refine DW.cond_tt rfl ?_)
    | (refine DW.cond_ff rfl ?_)
    | (refine DW.cond rfl ?_ ?_ <;> intro hc <;> (try simp only [go_sem] at hc))
    | (refine g_split ?_ ?_ <;> intro hc <;> (try simp only [hc]) <;> (try simp only [go_sem] at hc)))
    rw [hc]
    exact retS_row rfl rfl (rowC_nb (rows_nb eI_nb l))
  have hd : decide ((l.length : Int) < 2) = false := by rw [decide_eq_false_iff_not]; omega
  refine DCall.of Try.func87 sf87 hb87 (Nat.le_of_ble_eq_true rfl) okRes_row ?_; simp only [s87, idxs, Nat.reduceAdd]
  repeat' (first
    | (with_reducible first | refine DW.seq ?_ | refine DW.block ?_ | refine DW.skip ?_ | refine DW.exit ?_ | refine DW.ret ?_ | refine DW.reg ?_)
    | (refine DW.dreg rfl (WF.of ?_) ?_; first | rfl | skip)
    | (simp (disch := omega) only [go_sem, simprocAttr, Blk.men, Blk.keysIn, hd])
    | (exact retS_of rfl rfl rfl)
    | (refine DW.cond_tt rfl ?_)
    | (refine DW.cond_ff rfl ?_)
    | (refine DW.cond rfl ?_ ?_ <;> intro hc <;> (try simp only [go_sem] at hc))
    | (refine g_split ?_ ?_ <;> intro hc <;> (try simp only [hc]) <;> (try simp only [go_sem] at hc)))
  refine DW.loop (ι := { k : Nat // k + 1 ≤ l.length ∧ ∀ j, j < k → ∀ a b, l[j]? = some a → l[j + 1]? = some b → b ≠ a }) (fun k => ⟨61, [(3, dI ((k.1 : Int) + 1)), (0, .own 0)], [(0, .row 1 (rowC (rows eI l)))]⟩) (fun k => l.length - k.1) ⟨0, by omega, fun j h => by omega⟩ ?_ ?_
  · refine Ent.to ?_ ?_ <;> simp (disch := omega) only [wkT_cons, wkX_cons, wkT_nil, wkX_nil, get, Nat.reduceEqDiff, ↓reduceIte, ex_some, wk_self, wk_top, wk_nil, wkB_self, and_self, dI, i64_in, and_true, true_and, Int.natCast_add, Int.natCast_one, Int.ofNat_zero, Int.natCast_zero, Int.zero_add]
  rintro ⟨k, hk, hno⟩
  obtain ⟨a, ha⟩ : ∃ a, l[k]? = some a := getE (by omega)
  have e1 : ((k : Int) + 1) - 1 = k := by omega
  rcases Nat.lt_or_ge (k + 1) l.length with hlt | hge
  · obtain ⟨b, hb⟩ : ∃ b, l[k + 1]? = some b := getE hlt
    have hd1 : decide ((k : Int) + 1 < (l.length : Int)) = true := by rw [decide_eq_true_eq]; omega
    have hk1 : k < l.length := by omega
    repeat' (first
    | (with_reducible first | refine DW.seq ?_ | refine DW.block ?_ | refine DW.skip ?_ | refine DW.exit ?_ | refine DW.ret ?_ | refine DW.reg ?_)
    | (refine DW.dreg rfl (WF.of ?_) ?_; first | rfl | skip)
    | (simp (disch := omega) only [go_sem, simprocAttr, Blk.men, Blk.keysIn, hd1, hb, ha, e1, hlt, hk1])
    | (exact retS_of rfl rfl rfl)
    | (refine DW.cond_tt rfl ?_)
    | (refine DW.cond_ff rfl ?_)
    | (refine DW.cond rfl ?_ ?_ <;> intro hc <;> (try simp only [go_sem] at hc))
    | (refine g_split ?_ ?_ <;> intro hc <;> (try simp only [hc]) <;> (try simp only [go_sem] at hc)))
    · have hba : b = a := by simpa using hc
      subst hba
      have hdup : dupAt l 0 = some (k + 1) := by
        have := dupAt_some (k := 0) (fun j a b h1 => hno j h1 a b) ha hb
        simpa using this
      have hsl : (l.drop (k + 1)).length = l.length - (k + 1) := List.length_drop
      refine DW.loop (ι := { s : Nat × List Int // Cp l (k + 1) s.1 s.2 }) (fun s => ⟨61, [(5, dI ((s.1.1 : Int) + 1)), (4, .win 0 1 (k + 1) l.length), (3, dI ((k + 1 + (keptTo (l.drop (k + 1)) s.1.1).length : Nat) : Int)), (0, .own 0)], [(0, .row 1 (rowC (rows eI s.1.2)))]⟩)
        (fun s => l.length - s.1.1) ⟨(0, l), ⟨by omega, rfl, by simp [keptTo], rfl⟩⟩ ?_ ?_
      · have h0 : (keptTo (l.drop (k + 1)) 0).length = 0 := rfl
        refine Ent.to ?_ ?_ <;> simp (disch := omega) only [wkT_cons, wkX_cons, wkT_nil, wkX_nil, get, Nat.reduceEqDiff, ↓reduceIte, ex_some, wk_self, wk_top, wk_nil, wkB_self, and_self, dI, i64_in, and_true, true_and, Int.natCast_add, Int.natCast_one, Int.ofNat_zero, Int.natCast_zero, h0, Int.zero_add, Int.add_zero, Nat.add_zero]
      rintro ⟨⟨m, cur⟩, hC⟩
      have hle : k + 1 + m + 1 ≤ l.length := hC.le
      have hclen : cur.length = l.length := hC.len
      have hkl := keptTo_len (l.drop (k + 1)) m
      rcases Nat.lt_or_ge (k + 1 + m + 1) l.length with hlt2 | hge2
      · obtain ⟨x, hx⟩ : ∃ x, l[k + 1 + m]? = some x := getE (by omega)
        obtain ⟨y, hy⟩ : ∃ y, l[k + 1 + m + 1]? = some y := getE (by omega)
        have hcx : cur[k + 1 + m]? = some x := (drop_get hC.dr (Nat.le_refl _)).trans hx
        have hcy : cur[k + 1 + (m + 1)]? = some y := (drop_get hC.dr (by omega)).trans hy
        obtain ⟨hs1, hs2⟩ := hC.step hlt2 hx hy
        generalize hf : (keptTo (l.drop (k + 1)) m).length = f at *
        have hd2 : decide ((m : Int) + 1 < ((l.length - (k + 1) : Nat) : Int)) = true := by rw [decide_eq_true_eq]; omega
        have em : ((m : Int) + 1) - 1 = m := by omega
        have hl1 : k + 1 + (m + 1) < l.length := by omega
        have hl2 : k + 1 + m < l.length := by omega
        have hl3 : k + 1 + f < l.length := by omega
        obtain ⟨u, hu⟩ : ∃ u, cur[k + 1 + f]? = some u := getE (by omega)
        repeat' (first
    | (with_reducible first | refine DW.seq ?_ | refine DW.block ?_ | refine DW.skip ?_ | refine DW.exit ?_ | refine DW.ret ?_ | refine DW.reg ?_)
    | (refine DW.dreg rfl (WF.of ?_) ?_; first | rfl | skip)
    | (simp (disch := omega) only [go_sem, simprocAttr, Blk.men, Blk.keysIn, hd2, hclen, em, hl1, hl2, hcx, hcy, Nat.le_refl, hl3, hu])
    | (exact retS_of rfl rfl rfl)
    | (refine DW.cond_tt rfl ?_)
    | (refine DW.cond_ff rfl ?_)
    | (refine DW.cond rfl ?_ ?_ <;> intro hc <;> (try simp only [go_sem] at hc))
    | (refine g_split ?_ ?_ <;> intro hc <;> (try simp only [hc]) <;> (try simp only [go_sem] at hc)))
        · have h2 := hs2 hc
          have ec : (((k + 1 + f : Nat) : Int) + 1) = ((k + 1 + (f + 1) : Nat) : Int) := by omega
          refine ⟨⟨(m + 1, cur.set (k + 1 + f) y), h2.1⟩, ?_, Ent.to ?_ ?_⟩ <;> first | (show _ < _; (try simp only); omega) | (simp (disch := omega) only [wkT_cons, wkX_cons, wkT_nil, wkX_nil, get, Nat.reduceEqDiff, ↓reduceIte, ex_some, wk_self, wk_top, wk_nil, wkB_self, and_self, dI, i64_in, and_true, true_and, Int.natCast_add, Int.natCast_one, Int.ofNat_zero, Int.natCast_zero,  h2.2, ec])
          rw [← Int.add_assoc]; exact .refl _
        · have h1 := hs1 hc
          refine ⟨⟨(m + 1, cur), h1.1⟩, ?_, Ent.to ?_ ?_⟩ <;> first | (show _ < _; (try simp only); omega) | (simp (disch := omega) only [wkT_cons, wkX_cons, wkT_nil, wkX_nil, get, Nat.reduceEqDiff, ↓reduceIte, ex_some, wk_self, wk_top, wk_nil, wkB_self, and_self, dI, i64_in, and_true, true_and, Int.natCast_add, Int.natCast_one, Int.ofNat_zero, Int.natCast_zero,  h1.2])
      · have hml : m + 1 = (l.drop (k + 1)).length := by omega
        have hfin := hC.fin hml hdup
        generalize hf : (keptTo (l.drop (k + 1)) m).length = f at *
        have hd2 : decide ((m : Int) + 1 < ((l.length - (k + 1) : Nat) : Int)) = false := by rw [decide_eq_false_iff_not]; omega
        have hfl : k + 1 + f ≤ l.length := by omega
        have hlenc : (cpt l).length = k + 1 + f := by rw [← hfin, List.length_take]; dsimp only; omega
        dsimp only at hfin
        repeat' (first
    | (with_reducible first | refine DW.seq ?_ | refine DW.block ?_ | refine DW.skip ?_ | refine DW.exit ?_ | refine DW.ret ?_ | refine DW.reg ?_)
    | (refine DW.dreg rfl (WF.of ?_) ?_; first | rfl | skip)
    | (simp (disch := omega) only [go_sem, simprocAttr, Blk.men, Blk.keysIn, hd2, hclen, hfl, Nat.le_refl, hfin, List.length_append, List.length_replicate, List.length_drop, hlenc])
    | (exact retS_of rfl rfl rfl)
    | (refine DW.cond_tt rfl ?_)
    | (refine DW.cond_ff rfl ?_)
    | (refine DW.cond rfl ?_ ?_ <;> intro hc <;> (try simp only [go_sem] at hc))
    | (refine g_split ?_ ?_ <;> intro hc <;> (try simp only [hc]) <;> (try simp only [go_sem] at hc)))
        refine retS_ent (by exact Ent.trunc 2 0 (k + 1 + f) rfl rfl (by simp [rowC, rows, hlenc])) ?_
        rw [List.append_assoc, ← hlenc, trunc_rows]
        exact retS_row rfl rfl (rowC_nb (rows_nb eI_nb _))
    · have hba : b ≠ a := by simpa using hc
      refine ⟨⟨k + 1, by omega, upto1 (p := fun j => ∀ a b, l[j]? = some a → l[j + 1]? = some b → b ≠ a) hno (fun x y hx hy => by
        rw [ha] at hx; rw [hb] at hy; cases hx; cases hy; exact hba)⟩, ?_, Ent.to ?_ ?_⟩ <;> first | (show _ < _; (try simp only); omega) | (simp (disch := omega) only [wkT_cons, wkX_cons, wkT_nil, wkX_nil, get, Nat.reduceEqDiff, ↓reduceIte, ex_some, wk_self, wk_top, wk_nil, wkB_self, and_self, dI, i64_in, and_true, true_and, Int.natCast_add, Int.natCast_one, Int.ofNat_zero, Int.natCast_zero])
  · have hd1 : decide ((k : Int) + 1 < (l.length : Int)) = false := by rw [decide_eq_false_iff_not]; omega
    repeat' (first
    | (with_reducible first | refine DW.seq ?_ | refine DW.block ?_ | refine DW.skip ?_ | refine DW.exit ?_ | refine DW.ret ?_ | refine DW.reg ?_)
    | (refine DW.dreg rfl (WF.of ?_) ?_; first | rfl | skip)
    | (simp (disch := omega) only [go_sem, simprocAttr, Blk.men, Blk.keysIn, hd1])
    | (exact retS_of rfl rfl rfl)
    | (refine DW.cond_tt rfl ?_)
    | (refine DW.cond_ff rfl ?_)
    | (refine DW.cond rfl ?_ ?_ <;> intro hc <;> (try simp only [go_sem] at hc))
    | (refine g_split ?_ ?_ <;> intro hc <;> (try simp only [hc]) <;> (try simp only [go_sem] at hc)))
    have hc : cpt l = l := by
      unfold cpt
      rw [dupAt_none (fun j a b h1 h2 => hno j (by
        rcases Nat.lt_or_ge (j + 1) l.length with h | h
        · omega
        · rw [List.getElem?_eq_none h] at h2; cases h2) a b h1 h2)]
    rw [hc]
    exact retS_row rfl rfl (rowC_nb (rows_nb eI_nb l))
end Go.Dw.Seat
end
