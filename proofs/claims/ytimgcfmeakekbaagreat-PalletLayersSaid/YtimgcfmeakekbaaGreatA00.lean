/- Helpers of a proof. -/
import Derived.Test.YtimgcfmeakekbaaGreatW45
import Derived.Test.YtimgcfmeakekbaaGreatProg
set_option linter.unusedVariables false
set_option linter.unusedSimpArgs false
section
namespace Go.Dw.Seat
open Go Go.Dw Go.Proofs
instance laysI : Lays := ⟨[]⟩
theorem laid0 (W : World) : LaidA (fun _ => False) W := fun _ hp => nomatch hp
theorem el0 : elemI Tryz.prog 0 = none := by kernel_rfl
theorem ty1 : tyI Tryz.prog 1 = some ⟨false, 1, [.nilFunc], 8⟩ := by kernel_rfl
theorem el1 : elemI Tryz.prog 1 = none := by kernel_rfl
theorem ty2 : tyI Tryz.prog 2 = some ⟨false, 1, [(.int .i64 0)], 8⟩ := by kernel_rfl
theorem el2 : elemI Tryz.prog 2 = none := by kernel_rfl
theorem it2 : intI Tryz.prog 2 = some .i64 := by kernel_rfl
theorem ty3 : tyI Tryz.prog 3 = some ⟨false, 1, [(.int .i64 0)], 8⟩ := by kernel_rfl
theorem el3 : elemI Tryz.prog 3 = none := by kernel_rfl
theorem it3 : intI Tryz.prog 3 = some .i64 := by kernel_rfl
theorem ty4 : tyI Tryz.prog 4 = some ⟨false, 1, [(.bool false)], 1⟩ := by kernel_rfl
theorem el4 : elemI Tryz.prog 4 = none := by kernel_rfl
theorem bl4 : blI Tryz.prog 4 = true := by kernel_rfl
theorem ty5 : tyI Tryz.prog 5 = some ⟨false, 1, [(.int .u8 0)], 1⟩ := by kernel_rfl
theorem el5 : elemI Tryz.prog 5 = none := by kernel_rfl
theorem it5 : intI Tryz.prog 5 = some .u8 := by kernel_rfl
theorem ty6 : tyI Tryz.prog 6 = some ⟨false, 1, [(.int .u8 0)], 1⟩ := by kernel_rfl
theorem el6 : elemI Tryz.prog 6 = none := by kernel_rfl
theorem it6 : intI Tryz.prog 6 = some .u8 := by kernel_rfl
theorem ty7 : tyI Tryz.prog 7 = some ⟨true, 4, [(.int .i64 0), (.int .i64 0), (.bool false), (.int .u8 0)], 24⟩ := by kernel_rfl
theorem el7 : elemI Tryz.prog 7 = none := by kernel_rfl
theorem eq7 : eqTy Tryz.prog 7 = some (.st [(0, 1, .it), (1, 1, .it), (2, 1, .bl), (3, 1, .it)]) := by kernel_rfl
theorem pl7 : placesI Tryz.prog 7 = some [(0, 1), (1, 1), (2, 1), (3, 1)] := by kernel_rfl
theorem fi7_0 : fieldI Tryz.prog 7 0 = some (0, 1, false) := by kernel_rfl
theorem fi7_1 : fieldI Tryz.prog 7 1 = some (1, 1, false) := by kernel_rfl
theorem fi7_2 : fieldI Tryz.prog 7 2 = some (2, 1, false) := by kernel_rfl
theorem fi7_3 : fieldI Tryz.prog 7 3 = some (3, 1, false) := by kernel_rfl
theorem ty8 : tyI Tryz.prog 8 = some ⟨true, 4, [(.int .i64 0), (.int .i64 0), (.bool false), (.int .u8 0)], 24⟩ := by kernel_rfl
theorem el8 : elemI Tryz.prog 8 = none := by kernel_rfl
theorem eq8 : eqTy Tryz.prog 8 = some (.st [(0, 1, .it), (1, 1, .it), (2, 1, .bl), (3, 1, .it)]) := by kernel_rfl
theorem pl8 : placesI Tryz.prog 8 = some [(0, 1), (1, 1), (2, 1), (3, 1)] := by kernel_rfl
theorem fi8_0 : fieldI Tryz.prog 8 0 = some (0, 1, false) := by kernel_rfl
theorem fi8_1 : fieldI Tryz.prog 8 1 = some (1, 1, false) := by kernel_rfl
theorem fi8_2 : fieldI Tryz.prog 8 2 = some (2, 1, false) := by kernel_rfl
theorem fi8_3 : fieldI Tryz.prog 8 3 = some (3, 1, false) := by kernel_rfl
theorem ty9 : tyI Tryz.prog 9 = some ⟨false, 1, [(.string ⟨#[]⟩)], 16⟩ := by kernel_rfl
theorem el9 : elemI Tryz.prog 9 = none := by kernel_rfl
theorem ty10 : tyI Tryz.prog 10 = some ⟨false, 1, [(.string ⟨#[]⟩)], 16⟩ := by kernel_rfl
theorem el10 : elemI Tryz.prog 10 = none := by kernel_rfl
theorem ty11 : tyI Tryz.prog 11 = some ⟨false, 1, [(.string ⟨#[]⟩)], 16⟩ := by kernel_rfl
theorem el11 : elemI Tryz.prog 11 = none := by kernel_rfl
theorem ty12 : tyI Tryz.prog 12 = some ⟨false, 1, [(.int .u64 0)], 8⟩ := by kernel_rfl
theorem el12 : elemI Tryz.prog 12 = none := by kernel_rfl
theorem it12 : intI Tryz.prog 12 = some .u64 := by kernel_rfl
theorem ty13 : tyI Tryz.prog 13 = some ⟨true, 2, [(.string ⟨#[]⟩), (.int .u64 0)], 24⟩ := by kernel_rfl
theorem el13 : elemI Tryz.prog 13 = none := by kernel_rfl
theorem pl13 : placesI Tryz.prog 13 = some [(0, 1), (1, 1)] := by kernel_rfl
theorem fi13_0 : fieldI Tryz.prog 13 0 = some (0, 1, false) := by kernel_rfl
theorem fi13_1 : fieldI Tryz.prog 13 1 = some (1, 1, false) := by kernel_rfl
theorem ty14 : tyI Tryz.prog 14 = some ⟨true, 2, [(.string ⟨#[]⟩), (.int .u64 0)], 24⟩ := by kernel_rfl
theorem el14 : elemI Tryz.prog 14 = none := by kernel_rfl
theorem pl14 : placesI Tryz.prog 14 = some [(0, 1), (1, 1)] := by kernel_rfl
theorem fi14_0 : fieldI Tryz.prog 14 0 = some (0, 1, false) := by kernel_rfl
theorem fi14_1 : fieldI Tryz.prog 14 1 = some (1, 1, false) := by kernel_rfl
theorem ty15 : tyI Tryz.prog 15 = some ⟨false, 1, [(.pointer none)], 8⟩ := by kernel_rfl
theorem el15 : elemI Tryz.prog 15 = none := by kernel_rfl
theorem ty16 : tyI Tryz.prog 16 = some ⟨false, 1, [(.pointer none)], 8⟩ := by kernel_rfl
theorem el16 : elemI Tryz.prog 16 = none := by kernel_rfl
theorem ty17 : tyI Tryz.prog 17 = some ⟨false, 1, [(.pointer none)], 8⟩ := by kernel_rfl
theorem el17 : elemI Tryz.prog 17 = none := by kernel_rfl
theorem ty18 : tyI Tryz.prog 18 = some ⟨true, 1, [(.pointer none)], 8⟩ := by kernel_rfl
theorem el18 : elemI Tryz.prog 18 = none := by kernel_rfl
theorem pl18 : placesI Tryz.prog 18 = some [(0, 1)] := by kernel_rfl
theorem fi18_0 : fieldI Tryz.prog 18 0 = some (0, 1, false) := by kernel_rfl
theorem ty19 : tyI Tryz.prog 19 = some ⟨true, 1, [(.pointer none)], 8⟩ := by kernel_rfl
theorem el19 : elemI Tryz.prog 19 = none := by kernel_rfl
theorem pl19 : placesI Tryz.prog 19 = some [(0, 1)] := by kernel_rfl
theorem fi19_0 : fieldI Tryz.prog 19 0 = some (0, 1, false) := by kernel_rfl
theorem ty20 : tyI Tryz.prog 20 = some ⟨false, 1, [.nilIface], 16⟩ := by kernel_rfl
theorem el20 : elemI Tryz.prog 20 = none := by kernel_rfl
theorem ty21 : tyI Tryz.prog 21 = some ⟨false, 1, [(.int .i32 0)], 4⟩ := by kernel_rfl
theorem el21 : elemI Tryz.prog 21 = none := by kernel_rfl
theorem it21 : intI Tryz.prog 21 = some .i32 := by kernel_rfl
theorem ty22 : tyI Tryz.prog 22 = some ⟨true, 6, [(.int .i64 0), (.int .i64 0), (.int .i64 0), (.int .i64 0), (.int .i64 0), (.int .i64 0)], 48⟩ := by kernel_rfl
theorem el22 : elemI Tryz.prog 22 = none := by kernel_rfl
theorem eq22 : eqTy Tryz.prog 22 = some (.st [(0, 1, .it), (1, 1, .it), (2, 1, .it), (3, 1, .it), (4, 1, .it), (5, 1, .it)]) := by kernel_rfl
theorem pl22 : placesI Tryz.prog 22 = some [(0, 1), (1, 1), (2, 1), (3, 1), (4, 1), (5, 1)] := by kernel_rfl
theorem fi22_0 : fieldI Tryz.prog 22 0 = some (0, 1, false) := by kernel_rfl
theorem fi22_1 : fieldI Tryz.prog 22 1 = some (1, 1, false) := by kernel_rfl
theorem fi22_2 : fieldI Tryz.prog 22 2 = some (2, 1, false) := by kernel_rfl
theorem fi22_3 : fieldI Tryz.prog 22 3 = some (3, 1, false) := by kernel_rfl
theorem fi22_4 : fieldI Tryz.prog 22 4 = some (4, 1, false) := by kernel_rfl
theorem fi22_5 : fieldI Tryz.prog 22 5 = some (5, 1, false) := by kernel_rfl
theorem ty23 : tyI Tryz.prog 23 = some ⟨true, 6, [(.int .i64 0), (.int .i64 0), (.int .i64 0), (.int .i64 0), (.int .i64 0), (.int .i64 0)], 48⟩ := by kernel_rfl
theorem el23 : elemI Tryz.prog 23 = none := by kernel_rfl
theorem eq23 : eqTy Tryz.prog 23 = some (.st [(0, 1, .it), (1, 1, .it), (2, 1, .it), (3, 1, .it), (4, 1, .it), (5, 1, .it)]) := by kernel_rfl
theorem pl23 : placesI Tryz.prog 23 = some [(0, 1), (1, 1), (2, 1), (3, 1), (4, 1), (5, 1)] := by kernel_rfl
theorem fi23_0 : fieldI Tryz.prog 23 0 = some (0, 1, false) := by kernel_rfl
theorem fi23_1 : fieldI Tryz.prog 23 1 = some (1, 1, false) := by kernel_rfl
theorem fi23_2 : fieldI Tryz.prog 23 2 = some (2, 1, false) := by kernel_rfl
theorem fi23_3 : fieldI Tryz.prog 23 3 = some (3, 1, false) := by kernel_rfl
theorem fi23_4 : fieldI Tryz.prog 23 4 = some (4, 1, false) := by kernel_rfl
theorem fi23_5 : fieldI Tryz.prog 23 5 = some (5, 1, false) := by kernel_rfl
theorem ty24 : tyI Tryz.prog 24 = some ⟨true, 2, [(.int .i64 0), (.int .i64 0)], 16⟩ := by kernel_rfl
theorem el24 : elemI Tryz.prog 24 = none := by kernel_rfl
theorem eq24 : eqTy Tryz.prog 24 = some (.st [(0, 1, .it), (1, 1, .it)]) := by kernel_rfl
theorem pl24 : placesI Tryz.prog 24 = some [(0, 1), (1, 1)] := by kernel_rfl
theorem fi24_0 : fieldI Tryz.prog 24 0 = some (0, 1, false) := by kernel_rfl
theorem fi24_1 : fieldI Tryz.prog 24 1 = some (1, 1, false) := by kernel_rfl
theorem ty25 : tyI Tryz.prog 25 = some ⟨true, 2, [(.int .i64 0), (.int .i64 0)], 16⟩ := by kernel_rfl
theorem el25 : elemI Tryz.prog 25 = none := by kernel_rfl
theorem eq25 : eqTy Tryz.prog 25 = some (.st [(0, 1, .it), (1, 1, .it)]) := by kernel_rfl
theorem pl25 : placesI Tryz.prog 25 = some [(0, 1), (1, 1)] := by kernel_rfl
theorem fi25_0 : fieldI Tryz.prog 25 0 = some (0, 1, false) := by kernel_rfl
theorem fi25_1 : fieldI Tryz.prog 25 1 = some (1, 1, false) := by kernel_rfl
theorem ty26 : tyI Tryz.prog 26 = some ⟨true, 7, [(.int .i64 0), (.int .i64 0), (.int .i64 0), (.int .i64 0), (.int .i64 0), (.int .i64 0), (.int .i64 0)], 56⟩ := by kernel_rfl
theorem el26 : elemI Tryz.prog 26 = none := by kernel_rfl
theorem eq26 : eqTy Tryz.prog 26 = some (.st [(0, 1, .it), (1, 1, .it), (2, 1, .it), (3, 2, (.st [(0, 1, .it), (1, 1, .it)])), (5, 2, (.st [(0, 1, .it), (1, 1, .it)]))]) := by kernel_rfl
theorem pl26 : placesI Tryz.prog 26 = some [(0, 1), (1, 1), (2, 1), (3, 2), (5, 2)] := by kernel_rfl
theorem fi26_0 : fieldI Tryz.prog 26 0 = some (0, 1, false) := by kernel_rfl
theorem fi26_1 : fieldI Tryz.prog 26 1 = some (1, 1, false) := by kernel_rfl
theorem fi26_2 : fieldI Tryz.prog 26 2 = some (2, 1, false) := by kernel_rfl
theorem fi26_3 : fieldI Tryz.prog 26 3 = some (3, 2, true) := by kernel_rfl
theorem fi26_4 : fieldI Tryz.prog 26 4 = some (5, 2, true) := by kernel_rfl
theorem ty27 : tyI Tryz.prog 27 = some ⟨true, 7, [(.int .i64 0), (.int .i64 0), (.int .i64 0), (.int .i64 0), (.int .i64 0), (.int .i64 0), (.int .i64 0)], 56⟩ := by kernel_rfl
theorem el27 : elemI Tryz.prog 27 = none := by kernel_rfl
theorem eq27 : eqTy Tryz.prog 27 = some (.st [(0, 1, .it), (1, 1, .it), (2, 1, .it), (3, 2, (.st [(0, 1, .it), (1, 1, .it)])), (5, 2, (.st [(0, 1, .it), (1, 1, .it)]))]) := by kernel_rfl
theorem pl27 : placesI Tryz.prog 27 = some [(0, 1), (1, 1), (2, 1), (3, 2), (5, 2)] := by kernel_rfl
theorem fi27_0 : fieldI Tryz.prog 27 0 = some (0, 1, false) := by kernel_rfl
theorem fi27_1 : fieldI Tryz.prog 27 1 = some (1, 1, false) := by kernel_rfl
theorem fi27_2 : fieldI Tryz.prog 27 2 = some (2, 1, false) := by kernel_rfl
theorem fi27_3 : fieldI Tryz.prog 27 3 = some (3, 2, true) := by kernel_rfl
theorem fi27_4 : fieldI Tryz.prog 27 4 = some (5, 2, true) := by kernel_rfl
theorem ty28 : tyI Tryz.prog 28 = some ⟨true, 13, [(.int .i64 0), (.int .i64 0), (.int .i64 0), (.int .i64 0), (.int .i64 0), (.int .i64 0), (.int .i64 0), (.int .i64 0), (.int .i64 0), (.int .i64 0), (.int .i64 0), (.int .i64 0), (.int .i64 0)], 104⟩ := by kernel_rfl
theorem el28 : elemI Tryz.prog 28 = none := by kernel_rfl
theorem eq28 : eqTy Tryz.prog 28 = some (.st [(0, 6, (.st [(0, 1, .it), (1, 1, .it), (2, 1, .it), (3, 1, .it), (4, 1, .it), (5, 1, .it)])), (6, 7, (.st [(0, 1, .it), (1, 1, .it), (2, 1, .it), (3, 2, (.st [(0, 1, .it), (1, 1, .it)])), (5, 2, (.st [(0, 1, .it), (1, 1, .it)]))]))]) := by kernel_rfl
theorem pl28 : placesI Tryz.prog 28 = some [(0, 6), (6, 7)] := by kernel_rfl
theorem fi28_0 : fieldI Tryz.prog 28 0 = some (0, 6, true) := by kernel_rfl
theorem fi28_1 : fieldI Tryz.prog 28 1 = some (6, 7, true) := by kernel_rfl
theorem ty29 : tyI Tryz.prog 29 = some ⟨true, 13, [(.int .i64 0), (.int .i64 0), (.int .i64 0), (.int .i64 0), (.int .i64 0), (.int .i64 0), (.int .i64 0), (.int .i64 0), (.int .i64 0), (.int .i64 0), (.int .i64 0), (.int .i64 0), (.int .i64 0)], 104⟩ := by kernel_rfl
theorem el29 : elemI Tryz.prog 29 = none := by kernel_rfl
theorem eq29 : eqTy Tryz.prog 29 = some (.st [(0, 6, (.st [(0, 1, .it), (1, 1, .it), (2, 1, .it), (3, 1, .it), (4, 1, .it), (5, 1, .it)])), (6, 7, (.st [(0, 1, .it), (1, 1, .it), (2, 1, .it), (3, 2, (.st [(0, 1, .it), (1, 1, .it)])), (5, 2, (.st [(0, 1, .it), (1, 1, .it)]))]))]) := by kernel_rfl
theorem pl29 : placesI Tryz.prog 29 = some [(0, 6), (6, 7)] := by kernel_rfl
theorem fi29_0 : fieldI Tryz.prog 29 0 = some (0, 6, true) := by kernel_rfl
theorem fi29_1 : fieldI Tryz.prog 29 1 = some (6, 7, true) := by kernel_rfl
theorem ty30 : tyI Tryz.prog 30 = some ⟨false, 1, [(.slice none 0 0)], 24⟩ := by kernel_rfl
theorem el30 : elemI Tryz.prog 30 = some 56 := by kernel_rfl
theorem ty31 : tyI Tryz.prog 31 = some ⟨false, 1, [(.slice none 0 0)], 24⟩ := by kernel_rfl
theorem el31 : elemI Tryz.prog 31 = some 97 := by kernel_rfl
theorem ty32 : tyI Tryz.prog 32 = some ⟨true, 2, [(.slice none 0 0), (.int .i64 0)], 32⟩ := by kernel_rfl
theorem el32 : elemI Tryz.prog 32 = none := by kernel_rfl
theorem pl32 : placesI Tryz.prog 32 = some [(0, 1), (1, 1)] := by kernel_rfl
theorem fi32_0 : fieldI Tryz.prog 32 0 = some (0, 1, false) := by kernel_rfl
theorem fi32_1 : fieldI Tryz.prog 32 1 = some (1, 1, false) := by kernel_rfl
theorem ty33 : tyI Tryz.prog 33 = some ⟨true, 2, [(.slice none 0 0), (.int .i64 0)], 32⟩ := by kernel_rfl
theorem el33 : elemI Tryz.prog 33 = none := by kernel_rfl
theorem pl33 : placesI Tryz.prog 33 = some [(0, 1), (1, 1)] := by kernel_rfl
theorem fi33_0 : fieldI Tryz.prog 33 0 = some (0, 1, false) := by kernel_rfl
theorem fi33_1 : fieldI Tryz.prog 33 1 = some (1, 1, false) := by kernel_rfl
theorem ty34 : tyI Tryz.prog 34 = some ⟨false, 1, [(.int .i64 0)], 8⟩ := by kernel_rfl
theorem el34 : elemI Tryz.prog 34 = none := by kernel_rfl
theorem it34 : intI Tryz.prog 34 = some .i64 := by kernel_rfl
theorem ty35 : tyI Tryz.prog 35 = some ⟨false, 1, [.nilFunc], 8⟩ := by kernel_rfl
theorem el35 : elemI Tryz.prog 35 = none := by kernel_rfl
theorem ty36 : tyI Tryz.prog 36 = some ⟨false, 1, [.nilFunc], 8⟩ := by kernel_rfl
theorem el36 : elemI Tryz.prog 36 = none := by kernel_rfl
theorem ty37 : tyI Tryz.prog 37 = some ⟨false, 1, [.nilFunc], 8⟩ := by kernel_rfl
theorem el37 : elemI Tryz.prog 37 = none := by kernel_rfl
theorem ty38 : tyI Tryz.prog 38 = some ⟨false, 1, [.nilFunc], 8⟩ := by kernel_rfl
theorem el38 : elemI Tryz.prog 38 = none := by kernel_rfl
theorem el39 : elemI Tryz.prog 39 = none := by kernel_rfl
theorem ty40 : tyI Tryz.prog 40 = some ⟨false, 1, [.nilFunc], 8⟩ := by kernel_rfl
theorem el40 : elemI Tryz.prog 40 = none := by kernel_rfl
theorem el41 : elemI Tryz.prog 41 = none := by kernel_rfl
theorem ty42 : tyI Tryz.prog 42 = some ⟨false, 1, [.nilFunc], 8⟩ := by kernel_rfl
theorem el42 : elemI Tryz.prog 42 = none := by kernel_rfl
theorem ty43 : tyI Tryz.prog 43 = some ⟨false, 1, [.nilFunc], 8⟩ := by kernel_rfl
theorem el43 : elemI Tryz.prog 43 = none := by kernel_rfl
theorem ty44 : tyI Tryz.prog 44 = some ⟨false, 1, [.nilFunc], 8⟩ := by kernel_rfl
theorem el44 : elemI Tryz.prog 44 = none := by kernel_rfl
theorem ty45 : tyI Tryz.prog 45 = some ⟨false, 1, [(.int .i64 0)], 8⟩ := by kernel_rfl
theorem el45 : elemI Tryz.prog 45 = none := by kernel_rfl
theorem it45 : intI Tryz.prog 45 = some .i64 := by kernel_rfl
theorem el46 : elemI Tryz.prog 46 = none := by kernel_rfl
theorem ty47 : tyI Tryz.prog 47 = some ⟨false, 1, [.nilFunc], 8⟩ := by kernel_rfl
theorem el47 : elemI Tryz.prog 47 = none := by kernel_rfl
theorem el48 : elemI Tryz.prog 48 = none := by kernel_rfl
theorem ty49 : tyI Tryz.prog 49 = some ⟨false, 1, [.nilFunc], 8⟩ := by kernel_rfl
theorem el49 : elemI Tryz.prog 49 = none := by kernel_rfl
theorem ty50 : tyI Tryz.prog 50 = some ⟨false, 1, [.nilFunc], 8⟩ := by kernel_rfl
theorem el50 : elemI Tryz.prog 50 = none := by kernel_rfl
theorem ty51 : tyI Tryz.prog 51 = some ⟨false, 1, [.nilFunc], 8⟩ := by kernel_rfl
theorem el51 : elemI Tryz.prog 51 = none := by kernel_rfl
theorem ty52 : tyI Tryz.prog 52 = some ⟨false, 1, [.nilFunc], 8⟩ := by kernel_rfl
theorem el52 : elemI Tryz.prog 52 = none := by kernel_rfl
theorem ty53 : tyI Tryz.prog 53 = some ⟨false, 1, [.nilFunc], 8⟩ := by kernel_rfl
theorem el53 : elemI Tryz.prog 53 = none := by kernel_rfl
theorem ty54 : tyI Tryz.prog 54 = some ⟨false, 1, [.nilFunc], 8⟩ := by kernel_rfl
theorem el54 : elemI Tryz.prog 54 = none := by kernel_rfl
theorem ty55 : tyI Tryz.prog 55 = some ⟨true, 3, [(.int .i64 0), (.int .i64 0), (.bool false)], 24⟩ := by kernel_rfl
theorem el55 : elemI Tryz.prog 55 = none := by kernel_rfl
theorem eq55 : eqTy Tryz.prog 55 = some (.st [(0, 1, .it), (1, 1, .it), (2, 1, .bl)]) := by kernel_rfl
theorem pl55 : placesI Tryz.prog 55 = some [(0, 1), (1, 1), (2, 1)] := by kernel_rfl
theorem fi55_0 : fieldI Tryz.prog 55 0 = some (0, 1, false) := by kernel_rfl
theorem fi55_1 : fieldI Tryz.prog 55 1 = some (1, 1, false) := by kernel_rfl
theorem fi55_2 : fieldI Tryz.prog 55 2 = some (2, 1, false) := by kernel_rfl
theorem ty56 : tyI Tryz.prog 56 = some ⟨true, 3, [(.int .i64 0), (.int .i64 0), (.bool false)], 24⟩ := by kernel_rfl
theorem el56 : elemI Tryz.prog 56 = none := by kernel_rfl
theorem eq56 : eqTy Tryz.prog 56 = some (.st [(0, 1, .it), (1, 1, .it), (2, 1, .bl)]) := by kernel_rfl
theorem pl56 : placesI Tryz.prog 56 = some [(0, 1), (1, 1), (2, 1)] := by kernel_rfl
theorem fi56_0 : fieldI Tryz.prog 56 0 = some (0, 1, false) := by kernel_rfl
theorem fi56_1 : fieldI Tryz.prog 56 1 = some (1, 1, false) := by kernel_rfl
theorem fi56_2 : fieldI Tryz.prog 56 2 = some (2, 1, false) := by kernel_rfl
theorem ty57 : tyI Tryz.prog 57 = some ⟨false, 1, [.nilFunc], 8⟩ := by kernel_rfl
theorem el57 : elemI Tryz.prog 57 = none := by kernel_rfl
theorem ty58 : tyI Tryz.prog 58 = some ⟨false, 1, [.nilFunc], 8⟩ := by kernel_rfl
theorem el58 : elemI Tryz.prog 58 = none := by kernel_rfl
theorem ty59 : tyI Tryz.prog 59 = some ⟨false, 1, [.nilFunc], 8⟩ := by kernel_rfl
theorem el59 : elemI Tryz.prog 59 = none := by kernel_rfl
theorem ty60 : tyI Tryz.prog 60 = some ⟨false, 1, [.nilFunc], 8⟩ := by kernel_rfl
theorem el60 : elemI Tryz.prog 60 = none := by kernel_rfl
theorem el61 : elemI Tryz.prog 61 = none := by kernel_rfl
theorem ty62 : tyI Tryz.prog 62 = some ⟨false, 1, [.nilFunc], 8⟩ := by kernel_rfl
theorem el62 : elemI Tryz.prog 62 = none := by kernel_rfl
theorem ty63 : tyI Tryz.prog 63 = some ⟨false, 1, [.nilFunc], 8⟩ := by kernel_rfl
theorem el63 : elemI Tryz.prog 63 = none := by kernel_rfl
theorem ty64 : tyI Tryz.prog 64 = some ⟨false, 1, [(.slice none 0 0)], 24⟩ := by kernel_rfl
theorem el64 : elemI Tryz.prog 64 = some 81 := by kernel_rfl
theorem el65 : elemI Tryz.prog 65 = none := by kernel_rfl
theorem ty66 : tyI Tryz.prog 66 = some ⟨false, 1, [.nilFunc], 8⟩ := by kernel_rfl
theorem el66 : elemI Tryz.prog 66 = none := by kernel_rfl
theorem ty67 : tyI Tryz.prog 67 = some ⟨false, 1, [.nilFunc], 8⟩ := by kernel_rfl
theorem el67 : elemI Tryz.prog 67 = none := by kernel_rfl
theorem el68 : elemI Tryz.prog 68 = none := by kernel_rfl
theorem ty69 : tyI Tryz.prog 69 = some ⟨false, 1, [.nilFunc], 8⟩ := by kernel_rfl
theorem el69 : elemI Tryz.prog 69 = none := by kernel_rfl
theorem ty70 : tyI Tryz.prog 70 = some ⟨true, 5, [(.int .i64 0), (.int .i64 0), (.int .i64 0), (.int .i64 0), (.int .i64 0)], 40⟩ := by kernel_rfl
theorem el70 : elemI Tryz.prog 70 = none := by kernel_rfl
theorem eq70 : eqTy Tryz.prog 70 = some (.st [(0, 1, .it), (1, 1, .it), (2, 1, .it), (3, 1, .it), (4, 1, .it)]) := by kernel_rfl
theorem pl70 : placesI Tryz.prog 70 = some [(0, 1), (1, 1), (2, 1), (3, 1), (4, 1)] := by kernel_rfl
theorem fi70_0 : fieldI Tryz.prog 70 0 = some (0, 1, false) := by kernel_rfl
theorem fi70_1 : fieldI Tryz.prog 70 1 = some (1, 1, false) := by kernel_rfl
theorem fi70_2 : fieldI Tryz.prog 70 2 = some (2, 1, false) := by kernel_rfl
theorem fi70_3 : fieldI Tryz.prog 70 3 = some (3, 1, false) := by kernel_rfl
theorem fi70_4 : fieldI Tryz.prog 70 4 = some (4, 1, false) := by kernel_rfl
theorem ty71 : tyI Tryz.prog 71 = some ⟨true, 5, [(.int .i64 0), (.int .i64 0), (.int .i64 0), (.int .i64 0), (.int .i64 0)], 40⟩ := by kernel_rfl
theorem el71 : elemI Tryz.prog 71 = none := by kernel_rfl
theorem eq71 : eqTy Tryz.prog 71 = some (.st [(0, 1, .it), (1, 1, .it), (2, 1, .it), (3, 1, .it), (4, 1, .it)]) := by kernel_rfl
theorem pl71 : placesI Tryz.prog 71 = some [(0, 1), (1, 1), (2, 1), (3, 1), (4, 1)] := by kernel_rfl
theorem fi71_0 : fieldI Tryz.prog 71 0 = some (0, 1, false) := by kernel_rfl
theorem fi71_1 : fieldI Tryz.prog 71 1 = some (1, 1, false) := by kernel_rfl
theorem fi71_2 : fieldI Tryz.prog 71 2 = some (2, 1, false) := by kernel_rfl
theorem fi71_3 : fieldI Tryz.prog 71 3 = some (3, 1, false) := by kernel_rfl
theorem fi71_4 : fieldI Tryz.prog 71 4 = some (4, 1, false) := by kernel_rfl
theorem ty72 : tyI Tryz.prog 72 = some ⟨false, 1, [.nilFunc], 8⟩ := by kernel_rfl
theorem el72 : elemI Tryz.prog 72 = none := by kernel_rfl
theorem ty73 : tyI Tryz.prog 73 = some ⟨false, 1, [.nilFunc], 8⟩ := by kernel_rfl
theorem el73 : elemI Tryz.prog 73 = none := by kernel_rfl
theorem ty74 : tyI Tryz.prog 74 = some ⟨true, 3, [(.int .i64 0), (.int .i64 0), (.int .i64 0)], 24⟩ := by kernel_rfl
theorem el74 : elemI Tryz.prog 74 = none := by kernel_rfl
theorem eq74 : eqTy Tryz.prog 74 = some (.st [(0, 1, .it), (1, 2, (.st [(0, 1, .it), (1, 1, .it)]))]) := by kernel_rfl
theorem pl74 : placesI Tryz.prog 74 = some [(0, 1), (1, 2)] := by kernel_rfl
theorem fi74_0 : fieldI Tryz.prog 74 0 = some (0, 1, false) := by kernel_rfl
theorem fi74_1 : fieldI Tryz.prog 74 1 = some (1, 2, true) := by kernel_rfl
theorem ty75 : tyI Tryz.prog 75 = some ⟨true, 3, [(.int .i64 0), (.int .i64 0), (.int .i64 0)], 24⟩ := by kernel_rfl
theorem el75 : elemI Tryz.prog 75 = none := by kernel_rfl
theorem eq75 : eqTy Tryz.prog 75 = some (.st [(0, 1, .it), (1, 2, (.st [(0, 1, .it), (1, 1, .it)]))]) := by kernel_rfl
theorem pl75 : placesI Tryz.prog 75 = some [(0, 1), (1, 2)] := by kernel_rfl
theorem fi75_0 : fieldI Tryz.prog 75 0 = some (0, 1, false) := by kernel_rfl
theorem fi75_1 : fieldI Tryz.prog 75 1 = some (1, 2, true) := by kernel_rfl
theorem ty76 : tyI Tryz.prog 76 = some ⟨false, 1, [(.slice none 0 0)], 24⟩ := by kernel_rfl
theorem el76 : elemI Tryz.prog 76 = some 75 := by kernel_rfl
theorem ty77 : tyI Tryz.prog 77 = some ⟨false, 1, [(.slice none 0 0)], 24⟩ := by kernel_rfl
theorem el77 : elemI Tryz.prog 77 = some 3 := by kernel_rfl
theorem el78 : elemI Tryz.prog 78 = none := by kernel_rfl
theorem ty79 : tyI Tryz.prog 79 = some ⟨false, 1, [.nilFunc], 8⟩ := by kernel_rfl
theorem el79 : elemI Tryz.prog 79 = none := by kernel_rfl
theorem ty80 : tyI Tryz.prog 80 = some ⟨true, 2, [(.slice none 0 0), (.int .i64 0)], 32⟩ := by kernel_rfl
theorem el80 : elemI Tryz.prog 80 = none := by kernel_rfl
theorem pl80 : placesI Tryz.prog 80 = some [(0, 1), (1, 1)] := by kernel_rfl
theorem fi80_0 : fieldI Tryz.prog 80 0 = some (0, 1, false) := by kernel_rfl
theorem fi80_1 : fieldI Tryz.prog 80 1 = some (1, 1, false) := by kernel_rfl
theorem ty81 : tyI Tryz.prog 81 = some ⟨true, 2, [(.slice none 0 0), (.int .i64 0)], 32⟩ := by kernel_rfl
theorem el81 : elemI Tryz.prog 81 = none := by kernel_rfl
theorem pl81 : placesI Tryz.prog 81 = some [(0, 1), (1, 1)] := by kernel_rfl
theorem fi81_0 : fieldI Tryz.prog 81 0 = some (0, 1, false) := by kernel_rfl
theorem fi81_1 : fieldI Tryz.prog 81 1 = some (1, 1, false) := by kernel_rfl
theorem ty82 : tyI Tryz.prog 82 = some ⟨false, 1, [.nilFunc], 8⟩ := by kernel_rfl
theorem el82 : elemI Tryz.prog 82 = none := by kernel_rfl
theorem ty83 : tyI Tryz.prog 83 = some ⟨true, 13, [(.int .i64 0), (.int .i64 0), (.int .i64 0), (.int .i64 0), (.int .i64 0), (.int .i64 0), (.int .i64 0), (.int .i64 0), (.int .i64 0), (.int .i64 0), (.int .i64 0), (.int .i64 0), (.int .i64 0)], 104⟩ := by kernel_rfl
theorem el83 : elemI Tryz.prog 83 = none := by kernel_rfl
theorem eq83 : eqTy Tryz.prog 83 = some (.st [(0, 6, (.st [(0, 1, .it), (1, 1, .it), (2, 1, .it), (3, 1, .it), (4, 1, .it), (5, 1, .it)])), (6, 7, (.st [(0, 1, .it), (1, 1, .it), (2, 1, .it), (3, 2, (.st [(0, 1, .it), (1, 1, .it)])), (5, 2, (.st [(0, 1, .it), (1, 1, .it)]))]))]) := by kernel_rfl
theorem pl83 : placesI Tryz.prog 83 = some [(0, 6), (6, 7)] := by kernel_rfl
theorem fi83_0 : fieldI Tryz.prog 83 0 = some (0, 6, true) := by kernel_rfl
theorem fi83_1 : fieldI Tryz.prog 83 1 = some (6, 7, true) := by kernel_rfl
theorem ty84 : tyI Tryz.prog 84 = some ⟨true, 13, [(.int .i64 0), (.int .i64 0), (.int .i64 0), (.int .i64 0), (.int .i64 0), (.int .i64 0), (.int .i64 0), (.int .i64 0), (.int .i64 0), (.int .i64 0), (.int .i64 0), (.int .i64 0), (.int .i64 0)], 104⟩ := by kernel_rfl
theorem el84 : elemI Tryz.prog 84 = none := by kernel_rfl
theorem eq84 : eqTy Tryz.prog 84 = some (.st [(0, 6, (.st [(0, 1, .it), (1, 1, .it), (2, 1, .it), (3, 1, .it), (4, 1, .it), (5, 1, .it)])), (6, 7, (.st [(0, 1, .it), (1, 1, .it), (2, 1, .it), (3, 2, (.st [(0, 1, .it), (1, 1, .it)])), (5, 2, (.st [(0, 1, .it), (1, 1, .it)]))]))]) := by kernel_rfl
theorem pl84 : placesI Tryz.prog 84 = some [(0, 6), (6, 7)] := by kernel_rfl
theorem fi84_0 : fieldI Tryz.prog 84 0 = some (0, 6, true) := by kernel_rfl
theorem fi84_1 : fieldI Tryz.prog 84 1 = some (6, 7, true) := by kernel_rfl
theorem el85 : elemI Tryz.prog 85 = none := by kernel_rfl
theorem ty86 : tyI Tryz.prog 86 = some ⟨false, 1, [.nilFunc], 8⟩ := by kernel_rfl
theorem el86 : elemI Tryz.prog 86 = none := by kernel_rfl
theorem ty87 : tyI Tryz.prog 87 = some ⟨false, 1, [(.slice none 0 0)], 24⟩ := by kernel_rfl
theorem el87 : elemI Tryz.prog 87 = some 133 := by kernel_rfl
theorem ty88 : tyI Tryz.prog 88 = some ⟨false, 1, [.nilFunc], 8⟩ := by kernel_rfl
theorem el88 : elemI Tryz.prog 88 = none := by kernel_rfl
theorem ty89 : tyI Tryz.prog 89 = some ⟨false, 1, [.nilFunc], 8⟩ := by kernel_rfl
theorem el89 : elemI Tryz.prog 89 = none := by kernel_rfl
theorem ty90 : tyI Tryz.prog 90 = some ⟨false, 1, [.nilFunc], 8⟩ := by kernel_rfl
theorem el90 : elemI Tryz.prog 90 = none := by kernel_rfl
theorem ty91 : tyI Tryz.prog 91 = some ⟨false, 1, [.nilFunc], 8⟩ := by kernel_rfl
theorem el91 : elemI Tryz.prog 91 = none := by kernel_rfl
theorem ty92 : tyI Tryz.prog 92 = some ⟨false, 1, [.nilFunc], 8⟩ := by kernel_rfl
theorem el92 : elemI Tryz.prog 92 = none := by kernel_rfl
theorem ty93 : tyI Tryz.prog 93 = some ⟨false, 1, [.nilFunc], 8⟩ := by kernel_rfl
theorem el93 : elemI Tryz.prog 93 = none := by kernel_rfl
theorem ty94 : tyI Tryz.prog 94 = some ⟨true, 4, [(.int .i64 0), (.int .i64 0), (.int .i64 0), (.int .i64 0)], 32⟩ := by kernel_rfl
theorem el94 : elemI Tryz.prog 94 = none := by kernel_rfl
theorem eq94 : eqTy Tryz.prog 94 = some (.st [(0, 2, (.st [(0, 1, .it), (1, 1, .it)])), (2, 2, (.st [(0, 1, .it), (1, 1, .it)]))]) := by kernel_rfl
theorem pl94 : placesI Tryz.prog 94 = some [(0, 2), (2, 2)] := by kernel_rfl
theorem fi94_0 : fieldI Tryz.prog 94 0 = some (0, 2, true) := by kernel_rfl
theorem fi94_1 : fieldI Tryz.prog 94 1 = some (2, 2, true) := by kernel_rfl
theorem ty95 : tyI Tryz.prog 95 = some ⟨true, 4, [(.int .i64 0), (.int .i64 0), (.int .i64 0), (.int .i64 0)], 32⟩ := by kernel_rfl
theorem el95 : elemI Tryz.prog 95 = none := by kernel_rfl
theorem eq95 : eqTy Tryz.prog 95 = some (.st [(0, 2, (.st [(0, 1, .it), (1, 1, .it)])), (2, 2, (.st [(0, 1, .it), (1, 1, .it)]))]) := by kernel_rfl
theorem pl95 : placesI Tryz.prog 95 = some [(0, 2), (2, 2)] := by kernel_rfl
theorem fi95_0 : fieldI Tryz.prog 95 0 = some (0, 2, true) := by kernel_rfl
theorem fi95_1 : fieldI Tryz.prog 95 1 = some (2, 2, true) := by kernel_rfl
theorem ty96 : tyI Tryz.prog 96 = some ⟨true, 2, [(.int .i64 0), (.int .i64 0)], 16⟩ := by kernel_rfl
theorem el96 : elemI Tryz.prog 96 = none := by kernel_rfl
theorem eq96 : eqTy Tryz.prog 96 = some (.st [(0, 1, .it), (1, 1, .it)]) := by kernel_rfl
theorem pl96 : placesI Tryz.prog 96 = some [(0, 1), (1, 1)] := by kernel_rfl
theorem fi96_0 : fieldI Tryz.prog 96 0 = some (0, 1, false) := by kernel_rfl
theorem fi96_1 : fieldI Tryz.prog 96 1 = some (1, 1, false) := by kernel_rfl
theorem ty97 : tyI Tryz.prog 97 = some ⟨true, 2, [(.int .i64 0), (.int .i64 0)], 16⟩ := by kernel_rfl
theorem el97 : elemI Tryz.prog 97 = none := by kernel_rfl
theorem eq97 : eqTy Tryz.prog 97 = some (.st [(0, 1, .it), (1, 1, .it)]) := by kernel_rfl
theorem pl97 : placesI Tryz.prog 97 = some [(0, 1), (1, 1)] := by kernel_rfl
theorem fi97_0 : fieldI Tryz.prog 97 0 = some (0, 1, false) := by kernel_rfl
theorem fi97_1 : fieldI Tryz.prog 97 1 = some (1, 1, false) := by kernel_rfl
theorem ty98 : tyI Tryz.prog 98 = some ⟨false, 1, [.nilFunc], 8⟩ := by kernel_rfl
theorem el98 : elemI Tryz.prog 98 = none := by kernel_rfl
theorem ty99 : tyI Tryz.prog 99 = some ⟨false, 1, [.nilFunc], 8⟩ := by kernel_rfl
theorem el99 : elemI Tryz.prog 99 = none := by kernel_rfl
theorem ty100 : tyI Tryz.prog 100 = some ⟨false, 1, [.nilFunc], 8⟩ := by kernel_rfl
theorem el100 : elemI Tryz.prog 100 = none := by kernel_rfl
theorem ty101 : tyI Tryz.prog 101 = some ⟨false, 1, [.nilFunc], 8⟩ := by kernel_rfl
theorem el101 : elemI Tryz.prog 101 = none := by kernel_rfl
theorem ty102 : tyI Tryz.prog 102 = some ⟨false, 1, [.nilFunc], 8⟩ := by kernel_rfl
theorem el102 : elemI Tryz.prog 102 = none := by kernel_rfl
theorem ty103 : tyI Tryz.prog 103 = some ⟨false, 1, [.nilFunc], 8⟩ := by kernel_rfl
theorem el103 : elemI Tryz.prog 103 = none := by kernel_rfl
theorem ty104 : tyI Tryz.prog 104 = some ⟨false, 1, [.nilFunc], 8⟩ := by kernel_rfl
theorem el104 : elemI Tryz.prog 104 = none := by kernel_rfl
theorem ty105 : tyI Tryz.prog 105 = some ⟨false, 1, [.nilFunc], 8⟩ := by kernel_rfl
theorem el105 : elemI Tryz.prog 105 = none := by kernel_rfl
theorem ty106 : tyI Tryz.prog 106 = some ⟨false, 1, [.nilFunc], 8⟩ := by kernel_rfl
theorem el106 : elemI Tryz.prog 106 = none := by kernel_rfl
theorem ty107 : tyI Tryz.prog 107 = some ⟨true, 2, [(.int .i64 0), (.int .i64 0)], 16⟩ := by kernel_rfl
theorem el107 : elemI Tryz.prog 107 = none := by kernel_rfl
theorem ar107 : arrI Tryz.prog 107 = some (2, 3) := by kernel_rfl
theorem pl107 : placesI Tryz.prog 107 = some [(0, 1), (1, 1)] := by kernel_rfl
theorem ty108 : tyI Tryz.prog 108 = some ⟨true, 2, [(.int .i64 0), (.int .i64 0)], 16⟩ := by kernel_rfl
theorem el108 : elemI Tryz.prog 108 = none := by kernel_rfl
theorem ar108 : arrI Tryz.prog 108 = some (2, 3) := by kernel_rfl
theorem pl108 : placesI Tryz.prog 108 = some [(0, 1), (1, 1)] := by kernel_rfl
theorem ty109 : tyI Tryz.prog 109 = some ⟨false, 1, [.nilFunc], 8⟩ := by kernel_rfl
theorem el109 : elemI Tryz.prog 109 = none := by kernel_rfl
theorem ty110 : tyI Tryz.prog 110 = some ⟨false, 1, [.nilFunc], 8⟩ := by kernel_rfl
theorem el110 : elemI Tryz.prog 110 = none := by kernel_rfl
theorem ty111 : tyI Tryz.prog 111 = some ⟨true, 2, [(.int .i64 0), (.int .i64 0)], 16⟩ := by kernel_rfl
theorem el111 : elemI Tryz.prog 111 = none := by kernel_rfl
theorem eq111 : eqTy Tryz.prog 111 = some (.st [(0, 1, .it), (1, 1, .it)]) := by kernel_rfl
theorem pl111 : placesI Tryz.prog 111 = some [(0, 1), (1, 1)] := by kernel_rfl
theorem fi111_0 : fieldI Tryz.prog 111 0 = some (0, 1, false) := by kernel_rfl
theorem fi111_1 : fieldI Tryz.prog 111 1 = some (1, 1, false) := by kernel_rfl
theorem ty112 : tyI Tryz.prog 112 = some ⟨true, 2, [(.int .i64 0), (.int .i64 0)], 16⟩ := by kernel_rfl
theorem el112 : elemI Tryz.prog 112 = none := by kernel_rfl
theorem eq112 : eqTy Tryz.prog 112 = some (.st [(0, 1, .it), (1, 1, .it)]) := by kernel_rfl
theorem pl112 : placesI Tryz.prog 112 = some [(0, 1), (1, 1)] := by kernel_rfl
theorem fi112_0 : fieldI Tryz.prog 112 0 = some (0, 1, false) := by kernel_rfl
theorem fi112_1 : fieldI Tryz.prog 112 1 = some (1, 1, false) := by kernel_rfl
theorem ty113 : tyI Tryz.prog 113 = some ⟨true, 3, [(.int .i64 0), (.int .i64 0), (.int .i64 0)], 24⟩ := by kernel_rfl
theorem el113 : elemI Tryz.prog 113 = none := by kernel_rfl
theorem eq113 : eqTy Tryz.prog 113 = some (.st [(0, 1, .it), (1, 2, (.st [(0, 1, .it), (1, 1, .it)]))]) := by kernel_rfl
theorem pl113 : placesI Tryz.prog 113 = some [(0, 1), (1, 2)] := by kernel_rfl
theorem fi113_0 : fieldI Tryz.prog 113 0 = some (0, 1, false) := by kernel_rfl
theorem fi113_1 : fieldI Tryz.prog 113 1 = some (1, 2, true) := by kernel_rfl
theorem ty114 : tyI Tryz.prog 114 = some ⟨true, 3, [(.int .i64 0), (.int .i64 0), (.int .i64 0)], 24⟩ := by kernel_rfl
theorem el114 : elemI Tryz.prog 114 = none := by kernel_rfl
theorem eq114 : eqTy Tryz.prog 114 = some (.st [(0, 1, .it), (1, 2, (.st [(0, 1, .it), (1, 1, .it)]))]) := by kernel_rfl
theorem pl114 : placesI Tryz.prog 114 = some [(0, 1), (1, 2)] := by kernel_rfl
theorem fi114_0 : fieldI Tryz.prog 114 0 = some (0, 1, false) := by kernel_rfl
theorem fi114_1 : fieldI Tryz.prog 114 1 = some (1, 2, true) := by kernel_rfl
theorem ty115 : tyI Tryz.prog 115 = some ⟨false, 1, [(.pointer none)], 8⟩ := by kernel_rfl
theorem el115 : elemI Tryz.prog 115 = none := by kernel_rfl
theorem ty116 : tyI Tryz.prog 116 = some ⟨false, 1, [.nilFunc], 8⟩ := by kernel_rfl
theorem el116 : elemI Tryz.prog 116 = none := by kernel_rfl
theorem ty117 : tyI Tryz.prog 117 = some ⟨false, 1, [.nilFunc], 8⟩ := by kernel_rfl
theorem el117 : elemI Tryz.prog 117 = none := by kernel_rfl
theorem ty118 : tyI Tryz.prog 118 = some ⟨false, 1, [.nilFunc], 8⟩ := by kernel_rfl
theorem el118 : elemI Tryz.prog 118 = none := by kernel_rfl
theorem ty119 : tyI Tryz.prog 119 = some ⟨false, 1, [.nilFunc], 8⟩ := by kernel_rfl
theorem el119 : elemI Tryz.prog 119 = none := by kernel_rfl
theorem ty120 : tyI Tryz.prog 120 = some ⟨false, 1, [.nilFunc], 8⟩ := by kernel_rfl
theorem el120 : elemI Tryz.prog 120 = none := by kernel_rfl
theorem ty121 : tyI Tryz.prog 121 = some ⟨false, 1, [.nilFunc], 8⟩ := by kernel_rfl
theorem el121 : elemI Tryz.prog 121 = none := by kernel_rfl
theorem ty122 : tyI Tryz.prog 122 = some ⟨true, 6, [(.int .i64 0), (.int .i64 0), (.int .i64 0), (.int .i64 0), (.int .i64 0), (.slice none 0 0)], 64⟩ := by kernel_rfl
theorem el122 : elemI Tryz.prog 122 = none := by kernel_rfl
theorem pl122 : placesI Tryz.prog 122 = some [(0, 5), (5, 1)] := by kernel_rfl
theorem fi122_0 : fieldI Tryz.prog 122 0 = some (0, 5, true) := by kernel_rfl
theorem fi122_1 : fieldI Tryz.prog 122 1 = some (5, 1, false) := by kernel_rfl
theorem ty123 : tyI Tryz.prog 123 = some ⟨true, 6, [(.int .i64 0), (.int .i64 0), (.int .i64 0), (.int .i64 0), (.int .i64 0), (.slice none 0 0)], 64⟩ := by kernel_rfl
theorem el123 : elemI Tryz.prog 123 = none := by kernel_rfl
theorem pl123 : placesI Tryz.prog 123 = some [(0, 5), (5, 1)] := by kernel_rfl
theorem fi123_0 : fieldI Tryz.prog 123 0 = some (0, 5, true) := by kernel_rfl
theorem fi123_1 : fieldI Tryz.prog 123 1 = some (5, 1, false) := by kernel_rfl
theorem el124 : elemI Tryz.prog 124 = none := by kernel_rfl
theorem ty125 : tyI Tryz.prog 125 = some ⟨false, 1, [.nilFunc], 8⟩ := by kernel_rfl
theorem el125 : elemI Tryz.prog 125 = none := by kernel_rfl
theorem ty126 : tyI Tryz.prog 126 = some ⟨false, 1, [.nilFunc], 8⟩ := by kernel_rfl
theorem el126 : elemI Tryz.prog 126 = none := by kernel_rfl
theorem ty127 : tyI Tryz.prog 127 = some ⟨false, 1, [.nilFunc], 8⟩ := by kernel_rfl
theorem el127 : elemI Tryz.prog 127 = none := by kernel_rfl
theorem ty128 : tyI Tryz.prog 128 = some ⟨false, 1, [.nilFunc], 8⟩ := by kernel_rfl
theorem el128 : elemI Tryz.prog 128 = none := by kernel_rfl
theorem ty129 : tyI Tryz.prog 129 = some ⟨false, 1, [.nilFunc], 8⟩ := by kernel_rfl
theorem el129 : elemI Tryz.prog 129 = none := by kernel_rfl
theorem ty130 : tyI Tryz.prog 130 = some ⟨false, 1, [.nilFunc], 8⟩ := by kernel_rfl
theorem el130 : elemI Tryz.prog 130 = none := by kernel_rfl
theorem ty131 : tyI Tryz.prog 131 = some ⟨false, 1, [(.slice none 0 0)], 24⟩ := by kernel_rfl
theorem el131 : elemI Tryz.prog 131 = some 30 := by kernel_rfl
theorem ty132 : tyI Tryz.prog 132 = some ⟨false, 1, [.nilFunc], 8⟩ := by kernel_rfl
theorem el132 : elemI Tryz.prog 132 = none := by kernel_rfl
theorem ty133 : tyI Tryz.prog 133 = some ⟨true, 2, [(.bool false), (.bool false)], 2⟩ := by kernel_rfl
theorem el133 : elemI Tryz.prog 133 = none := by kernel_rfl
theorem ar133 : arrI Tryz.prog 133 = some (2, 4) := by kernel_rfl
theorem pl133 : placesI Tryz.prog 133 = some [(0, 1), (1, 1)] := by kernel_rfl
theorem ty134 : tyI Tryz.prog 134 = some ⟨false, 1, [.nilFunc], 8⟩ := by kernel_rfl
theorem el134 : elemI Tryz.prog 134 = none := by kernel_rfl
theorem ty135 : tyI Tryz.prog 135 = some ⟨true, 4, [(.int .i64 0), (.int .i64 0), (.int .i64 0), (.int .i64 0)], 32⟩ := by kernel_rfl
theorem el135 : elemI Tryz.prog 135 = none := by kernel_rfl
theorem pl135 : placesI Tryz.prog 135 = some [(0, 2), (2, 2)] := by kernel_rfl
theorem fi135_0 : fieldI Tryz.prog 135 0 = some (0, 2, true) := by kernel_rfl
theorem fi135_1 : fieldI Tryz.prog 135 1 = some (2, 2, true) := by kernel_rfl
theorem ty136 : tyI Tryz.prog 136 = some ⟨true, 4, [(.int .i64 0), (.int .i64 0), (.int .i64 0), (.int .i64 0)], 32⟩ := by kernel_rfl
theorem el136 : elemI Tryz.prog 136 = none := by kernel_rfl
theorem pl136 : placesI Tryz.prog 136 = some [(0, 2), (2, 2)] := by kernel_rfl
theorem fi136_0 : fieldI Tryz.prog 136 0 = some (0, 2, true) := by kernel_rfl
theorem fi136_1 : fieldI Tryz.prog 136 1 = some (2, 2, true) := by kernel_rfl
theorem ty137 : tyI Tryz.prog 137 = some ⟨false, 1, [.nilFunc], 8⟩ := by kernel_rfl
theorem el137 : elemI Tryz.prog 137 = none := by kernel_rfl
theorem ty138 : tyI Tryz.prog 138 = some ⟨false, 1, [.nilFunc], 8⟩ := by kernel_rfl
theorem el138 : elemI Tryz.prog 138 = none := by kernel_rfl
theorem ty139 : tyI Tryz.prog 139 = some ⟨false, 1, [.nilFunc], 8⟩ := by kernel_rfl
theorem el139 : elemI Tryz.prog 139 = none := by kernel_rfl
theorem ty140 : tyI Tryz.prog 140 = some ⟨false, 1, [(.slice none 0 0)], 24⟩ := by kernel_rfl
theorem el140 : elemI Tryz.prog 140 = some 95 := by kernel_rfl
theorem ty141 : tyI Tryz.prog 141 = some ⟨true, 2, [(.slice none 0 0), (.int .i64 0)], 32⟩ := by kernel_rfl
theorem el141 : elemI Tryz.prog 141 = none := by kernel_rfl
theorem pl141 : placesI Tryz.prog 141 = some [(0, 1), (1, 1)] := by kernel_rfl
theorem fi141_0 : fieldI Tryz.prog 141 0 = some (0, 1, false) := by kernel_rfl
theorem fi141_1 : fieldI Tryz.prog 141 1 = some (1, 1, false) := by kernel_rfl
theorem ty142 : tyI Tryz.prog 142 = some ⟨true, 2, [(.slice none 0 0), (.int .i64 0)], 32⟩ := by kernel_rfl
theorem el142 : elemI Tryz.prog 142 = none := by kernel_rfl
theorem pl142 : placesI Tryz.prog 142 = some [(0, 1), (1, 1)] := by kernel_rfl
theorem fi142_0 : fieldI Tryz.prog 142 0 = some (0, 1, false) := by kernel_rfl
theorem fi142_1 : fieldI Tryz.prog 142 1 = some (1, 1, false) := by kernel_rfl
theorem el143 : elemI Tryz.prog 143 = none := by kernel_rfl
theorem ty144 : tyI Tryz.prog 144 = some ⟨false, 1, [.nilFunc], 8⟩ := by kernel_rfl
theorem el144 : elemI Tryz.prog 144 = none := by kernel_rfl
theorem ty145 : tyI Tryz.prog 145 = some ⟨false, 1, [.nilFunc], 8⟩ := by kernel_rfl
theorem el145 : elemI Tryz.prog 145 = none := by kernel_rfl
theorem ty146 : tyI Tryz.prog 146 = some ⟨false, 1, [.nilFunc], 8⟩ := by kernel_rfl
theorem el146 : elemI Tryz.prog 146 = none := by kernel_rfl
theorem ty147 : tyI Tryz.prog 147 = some ⟨false, 1, [.nilFunc], 8⟩ := by kernel_rfl
theorem el147 : elemI Tryz.prog 147 = none := by kernel_rfl
theorem ty148 : tyI Tryz.prog 148 = some ⟨false, 1, [.nilFunc], 8⟩ := by kernel_rfl
theorem el148 : elemI Tryz.prog 148 = none := by kernel_rfl
theorem ty149 : tyI Tryz.prog 149 = some ⟨false, 1, [(.slice none 0 0)], 24⟩ := by kernel_rfl
theorem el149 : elemI Tryz.prog 149 = some 4 := by kernel_rfl
theorem ty150 : tyI Tryz.prog 150 = some ⟨false, 1, [.nilFunc], 8⟩ := by kernel_rfl
theorem el150 : elemI Tryz.prog 150 = none := by kernel_rfl
theorem ty151 : tyI Tryz.prog 151 = some ⟨false, 1, [(.map none)], 8⟩ := by kernel_rfl
theorem el151 : elemI Tryz.prog 151 = none := by kernel_rfl
theorem mp151 : mapI Tryz.prog 151 = some ((.agg [.c (.v (.int .i64 0)), .c (.v (.int .i64 0)), .c (.v (.int .i64 0))]), (.arr .i64 2)) := by kernel_rfl
theorem ty152 : tyI Tryz.prog 152 = some ⟨true, 2, [(.slice none 0 0), (.slice none 0 0)], 48⟩ := by kernel_rfl
theorem el152 : elemI Tryz.prog 152 = none := by kernel_rfl
theorem ar152 : arrI Tryz.prog 152 = some (2, 77) := by kernel_rfl
theorem pl152 : placesI Tryz.prog 152 = some [(0, 1), (1, 1)] := by kernel_rfl
theorem ty153 : tyI Tryz.prog 153 = some ⟨true, 16, [(.int .i64 0), (.int .i64 0), (.int .i64 0), (.int .i64 0), (.int .i64 0), (.int .i64 0), (.int .i64 0), (.int .i64 0), (.int .i64 0), (.int .i64 0), (.int .i64 0), (.int .i64 0), (.int .i64 0), (.slice none 0 0), (.slice none 0 0), (.map none)], 160⟩ := by kernel_rfl
theorem el153 : elemI Tryz.prog 153 = none := by kernel_rfl
theorem pl153 : placesI Tryz.prog 153 = some [(0, 13), (13, 2), (15, 1)] := by kernel_rfl
theorem fi153_0 : fieldI Tryz.prog 153 0 = some (0, 13, true) := by kernel_rfl
theorem fi153_1 : fieldI Tryz.prog 153 1 = some (13, 2, true) := by kernel_rfl
theorem fi153_2 : fieldI Tryz.prog 153 2 = some (15, 1, false) := by kernel_rfl
theorem ty154 : tyI Tryz.prog 154 = some ⟨true, 16, [(.int .i64 0), (.int .i64 0), (.int .i64 0), (.int .i64 0), (.int .i64 0), (.int .i64 0), (.int .i64 0), (.int .i64 0), (.int .i64 0), (.int .i64 0), (.int .i64 0), (.int .i64 0), (.int .i64 0), (.slice none 0 0), (.slice none 0 0), (.map none)], 160⟩ := by kernel_rfl
theorem el154 : elemI Tryz.prog 154 = none := by kernel_rfl
theorem pl154 : placesI Tryz.prog 154 = some [(0, 13), (13, 2), (15, 1)] := by kernel_rfl
theorem fi154_0 : fieldI Tryz.prog 154 0 = some (0, 13, true) := by kernel_rfl
theorem fi154_1 : fieldI Tryz.prog 154 1 = some (13, 2, true) := by kernel_rfl
theorem fi154_2 : fieldI Tryz.prog 154 2 = some (15, 1, false) := by kernel_rfl
theorem el155 : elemI Tryz.prog 155 = none := by kernel_rfl
theorem el156 : elemI Tryz.prog 156 = none := by kernel_rfl
theorem ty157 : tyI Tryz.prog 157 = some ⟨false, 1, [.nilFunc], 8⟩ := by kernel_rfl
theorem el157 : elemI Tryz.prog 157 = none := by kernel_rfl
theorem ty158 : tyI Tryz.prog 158 = some ⟨false, 1, [.nilFunc], 8⟩ := by kernel_rfl
theorem el158 : elemI Tryz.prog 158 = none := by kernel_rfl
theorem ty159 : tyI Tryz.prog 159 = some ⟨false, 1, [.nilFunc], 8⟩ := by kernel_rfl
theorem el159 : elemI Tryz.prog 159 = none := by kernel_rfl
theorem el160 : elemI Tryz.prog 160 = none := by kernel_rfl
theorem ty161 : tyI Tryz.prog 161 = some ⟨false, 1, [.nilFunc], 8⟩ := by kernel_rfl
theorem el161 : elemI Tryz.prog 161 = none := by kernel_rfl
theorem ty162 : tyI Tryz.prog 162 = some ⟨false, 1, [.nilFunc], 8⟩ := by kernel_rfl
theorem el162 : elemI Tryz.prog 162 = none := by kernel_rfl
theorem ty163 : tyI Tryz.prog 163 = some ⟨false, 1, [.nilFunc], 8⟩ := by kernel_rfl
theorem el163 : elemI Tryz.prog 163 = none := by kernel_rfl
theorem ty164 : tyI Tryz.prog 164 = some ⟨false, 1, [.nilFunc], 8⟩ := by kernel_rfl
theorem el164 : elemI Tryz.prog 164 = none := by kernel_rfl
theorem ty165 : tyI Tryz.prog 165 = some ⟨false, 1, [.nilFunc], 8⟩ := by kernel_rfl
theorem el165 : elemI Tryz.prog 165 = none := by kernel_rfl
theorem ty166 : tyI Tryz.prog 166 = some ⟨false, 1, [.nilFunc], 8⟩ := by kernel_rfl
theorem el166 : elemI Tryz.prog 166 = none := by kernel_rfl
theorem ty167 : tyI Tryz.prog 167 = some ⟨false, 1, [.nilFunc], 8⟩ := by kernel_rfl
theorem el167 : elemI Tryz.prog 167 = none := by kernel_rfl
theorem ty168 : tyI Tryz.prog 168 = some ⟨false, 1, [.nilFunc], 8⟩ := by kernel_rfl
theorem el168 : elemI Tryz.prog 168 = none := by kernel_rfl
theorem ty169 : tyI Tryz.prog 169 = some ⟨false, 1, [.nilFunc], 8⟩ := by kernel_rfl
theorem el169 : elemI Tryz.prog 169 = none := by kernel_rfl
theorem ty170 : tyI Tryz.prog 170 = some ⟨false, 1, [.nilFunc], 8⟩ := by kernel_rfl
theorem el170 : elemI Tryz.prog 170 = none := by kernel_rfl
theorem ty171 : tyI Tryz.prog 171 = some ⟨false, 1, [.nilFunc], 8⟩ := by kernel_rfl
theorem el171 : elemI Tryz.prog 171 = none := by kernel_rfl
theorem ty172 : tyI Tryz.prog 172 = some ⟨false, 1, [(.slice none 0 0)], 24⟩ := by kernel_rfl
theorem el172 : elemI Tryz.prog 172 = some 136 := by kernel_rfl
theorem ty173 : tyI Tryz.prog 173 = some ⟨false, 1, [.nilFunc], 8⟩ := by kernel_rfl
theorem el173 : elemI Tryz.prog 173 = none := by kernel_rfl
theorem ty174 : tyI Tryz.prog 174 = some ⟨false, 1, [.nilFunc], 8⟩ := by kernel_rfl
theorem el174 : elemI Tryz.prog 174 = none := by kernel_rfl
theorem ty175 : tyI Tryz.prog 175 = some ⟨false, 1, [(.map none)], 8⟩ := by kernel_rfl
theorem el175 : elemI Tryz.prog 175 = none := by kernel_rfl
theorem mp175 : mapI Tryz.prog 175 = some ((.agg [.c (.v (.int .i64 0)), .c (.v (.int .i64 0))]), .bool) := by kernel_rfl
theorem ty176 : tyI Tryz.prog 176 = some ⟨false, 1, [.nilFunc], 8⟩ := by kernel_rfl
theorem el176 : elemI Tryz.prog 176 = none := by kernel_rfl
theorem ty177 : tyI Tryz.prog 177 = some ⟨false, 1, [.nilFunc], 8⟩ := by kernel_rfl
theorem el177 : elemI Tryz.prog 177 = none := by kernel_rfl
theorem ty178 : tyI Tryz.prog 178 = some ⟨false, 1, [.nilFunc], 8⟩ := by kernel_rfl
theorem el178 : elemI Tryz.prog 178 = none := by kernel_rfl
theorem el179 : elemI Tryz.prog 179 = none := by kernel_rfl
theorem ty180 : tyI Tryz.prog 180 = some ⟨false, 1, [.nilFunc], 8⟩ := by kernel_rfl
theorem el180 : elemI Tryz.prog 180 = none := by kernel_rfl
theorem ty181 : tyI Tryz.prog 181 = some ⟨false, 1, [.nilFunc], 8⟩ := by kernel_rfl
theorem el181 : elemI Tryz.prog 181 = none := by kernel_rfl
theorem ty182 : tyI Tryz.prog 182 = some ⟨false, 1, [.nilFunc], 8⟩ := by kernel_rfl
theorem el182 : elemI Tryz.prog 182 = none := by kernel_rfl
theorem ty183 : tyI Tryz.prog 183 = some ⟨false, 1, [.nilFunc], 8⟩ := by kernel_rfl
theorem el183 : elemI Tryz.prog 183 = none := by kernel_rfl
theorem ty184 : tyI Tryz.prog 184 = some ⟨false, 1, [.nilFunc], 8⟩ := by kernel_rfl
theorem el184 : elemI Tryz.prog 184 = none := by kernel_rfl
theorem ty185 : tyI Tryz.prog 185 = some ⟨false, 1, [.nilFunc], 8⟩ := by kernel_rfl
theorem el185 : elemI Tryz.prog 185 = none := by kernel_rfl
theorem ty186 : tyI Tryz.prog 186 = some ⟨false, 1, [.nilFunc], 8⟩ := by kernel_rfl
theorem el186 : elemI Tryz.prog 186 = none := by kernel_rfl
theorem ty187 : tyI Tryz.prog 187 = some ⟨false, 1, [.nilFunc], 8⟩ := by kernel_rfl
theorem el187 : elemI Tryz.prog 187 = none := by kernel_rfl
theorem ty188 : tyI Tryz.prog 188 = some ⟨false, 1, [.nilFunc], 8⟩ := by kernel_rfl
theorem el188 : elemI Tryz.prog 188 = none := by kernel_rfl
theorem ty189 : tyI Tryz.prog 189 = some ⟨false, 1, [.nilFunc], 8⟩ := by kernel_rfl
theorem el189 : elemI Tryz.prog 189 = none := by kernel_rfl
theorem ty190 : tyI Tryz.prog 190 = some ⟨false, 1, [.nilFunc], 8⟩ := by kernel_rfl
theorem el190 : elemI Tryz.prog 190 = none := by kernel_rfl
theorem ty191 : tyI Tryz.prog 191 = some ⟨false, 1, [.nilFunc], 8⟩ := by kernel_rfl
theorem el191 : elemI Tryz.prog 191 = none := by kernel_rfl
theorem ty192 : tyI Tryz.prog 192 = some ⟨false, 1, [.nilFunc], 8⟩ := by kernel_rfl
theorem el192 : elemI Tryz.prog 192 = none := by kernel_rfl
theorem ty193 : tyI Tryz.prog 193 = some ⟨true, 4, [(.pointer none), (.pointer none), (.pointer none), (.string ⟨#[]⟩)], 40⟩ := by kernel_rfl
theorem el193 : elemI Tryz.prog 193 = none := by kernel_rfl
theorem pl193 : placesI Tryz.prog 193 = some [(0, 1), (1, 1), (2, 1), (3, 1)] := by kernel_rfl
theorem fi193_0 : fieldI Tryz.prog 193 0 = some (0, 1, false) := by kernel_rfl
theorem fi193_1 : fieldI Tryz.prog 193 1 = some (1, 1, false) := by kernel_rfl
theorem fi193_2 : fieldI Tryz.prog 193 2 = some (2, 1, false) := by kernel_rfl
theorem fi193_3 : fieldI Tryz.prog 193 3 = some (3, 1, false) := by kernel_rfl
theorem ty194 : tyI Tryz.prog 194 = some ⟨true, 4, [(.pointer none), (.pointer none), (.pointer none), (.string ⟨#[]⟩)], 40⟩ := by kernel_rfl
theorem el194 : elemI Tryz.prog 194 = none := by kernel_rfl
theorem pl194 : placesI Tryz.prog 194 = some [(0, 1), (1, 1), (2, 1), (3, 1)] := by kernel_rfl
theorem fi194_0 : fieldI Tryz.prog 194 0 = some (0, 1, false) := by kernel_rfl
theorem fi194_1 : fieldI Tryz.prog 194 1 = some (1, 1, false) := by kernel_rfl
theorem fi194_2 : fieldI Tryz.prog 194 2 = some (2, 1, false) := by kernel_rfl
theorem fi194_3 : fieldI Tryz.prog 194 3 = some (3, 1, false) := by kernel_rfl
theorem ty195 : tyI Tryz.prog 195 = some ⟨true, 0, [], 0⟩ := by kernel_rfl
theorem el195 : elemI Tryz.prog 195 = none := by kernel_rfl
theorem ar195 : arrI Tryz.prog 195 = some (0, 16) := by kernel_rfl
theorem pl195 : placesI Tryz.prog 195 = some [] := by kernel_rfl
theorem ty196 : tyI Tryz.prog 196 = some ⟨true, 0, [], 0⟩ := by kernel_rfl
theorem el196 : elemI Tryz.prog 196 = none := by kernel_rfl
theorem pl196 : placesI Tryz.prog 196 = some [(0, 0)] := by kernel_rfl
theorem ty197 : tyI Tryz.prog 197 = some ⟨true, 0, [], 0⟩ := by kernel_rfl
theorem el197 : elemI Tryz.prog 197 = none := by kernel_rfl
theorem pl197 : placesI Tryz.prog 197 = some [(0, 0)] := by kernel_rfl
theorem ty198 : tyI Tryz.prog 198 = some ⟨false, 1, [(.int .u32 0)], 4⟩ := by kernel_rfl
theorem el198 : elemI Tryz.prog 198 = none := by kernel_rfl
theorem it198 : intI Tryz.prog 198 = some .u32 := by kernel_rfl
theorem ty199 : tyI Tryz.prog 199 = some ⟨false, 1, [(.int .u8 0)], 1⟩ := by kernel_rfl
theorem el199 : elemI Tryz.prog 199 = none := by kernel_rfl
theorem it199 : intI Tryz.prog 199 = some .u8 := by kernel_rfl
theorem ty200 : tyI Tryz.prog 200 = some ⟨false, 1, [(.int .u8 0)], 1⟩ := by kernel_rfl
theorem el200 : elemI Tryz.prog 200 = none := by kernel_rfl
theorem it200 : intI Tryz.prog 200 = some .u8 := by kernel_rfl
theorem ty201 : tyI Tryz.prog 201 = some ⟨false, 1, [.nilFunc], 8⟩ := by kernel_rfl
theorem el201 : elemI Tryz.prog 201 = none := by kernel_rfl
theorem ty202 : tyI Tryz.prog 202 = some ⟨false, 1, [(.pointer none)], 8⟩ := by kernel_rfl
theorem el202 : elemI Tryz.prog 202 = none := by kernel_rfl
theorem ty203 : tyI Tryz.prog 203 = some ⟨false, 1, [(.int .i32 0)], 4⟩ := by kernel_rfl
theorem el203 : elemI Tryz.prog 203 = none := by kernel_rfl
theorem it203 : intI Tryz.prog 203 = some .i32 := by kernel_rfl
theorem ty204 : tyI Tryz.prog 204 = some ⟨false, 1, [(.int .i32 0)], 4⟩ := by kernel_rfl
theorem el204 : elemI Tryz.prog 204 = none := by kernel_rfl
theorem it204 : intI Tryz.prog 204 = some .i32 := by kernel_rfl
theorem ty205 : tyI Tryz.prog 205 = some ⟨true, 11, [(.int .u64 0), (.int .u64 0), (.int .u32 0), (.int .u8 0), (.int .u8 0), (.int .u8 0), (.int .u8 0), .nilFunc, (.pointer none), (.int .i32 0), (.int .i32 0)], 48⟩ := by kernel_rfl
theorem el205 : elemI Tryz.prog 205 = none := by kernel_rfl
theorem pl205 : placesI Tryz.prog 205 = some [(0, 1), (1, 1), (2, 1), (3, 1), (4, 1), (5, 1), (6, 1), (7, 1), (8, 1), (9, 1), (10, 1)] := by kernel_rfl
theorem fi205_0 : fieldI Tryz.prog 205 0 = some (0, 1, false) := by kernel_rfl
theorem fi205_1 : fieldI Tryz.prog 205 1 = some (1, 1, false) := by kernel_rfl
theorem fi205_2 : fieldI Tryz.prog 205 2 = some (2, 1, false) := by kernel_rfl
theorem fi205_3 : fieldI Tryz.prog 205 3 = some (3, 1, false) := by kernel_rfl
theorem fi205_4 : fieldI Tryz.prog 205 4 = some (4, 1, false) := by kernel_rfl
theorem fi205_5 : fieldI Tryz.prog 205 5 = some (5, 1, false) := by kernel_rfl
theorem fi205_6 : fieldI Tryz.prog 205 6 = some (6, 1, false) := by kernel_rfl
theorem fi205_7 : fieldI Tryz.prog 205 7 = some (7, 1, false) := by kernel_rfl
theorem fi205_8 : fieldI Tryz.prog 205 8 = some (8, 1, false) := by kernel_rfl
theorem fi205_9 : fieldI Tryz.prog 205 9 = some (9, 1, false) := by kernel_rfl
theorem fi205_10 : fieldI Tryz.prog 205 10 = some (10, 1, false) := by kernel_rfl
theorem ty206 : tyI Tryz.prog 206 = some ⟨true, 11, [(.int .u64 0), (.int .u64 0), (.int .u32 0), (.int .u8 0), (.int .u8 0), (.int .u8 0), (.int .u8 0), .nilFunc, (.pointer none), (.int .i32 0), (.int .i32 0)], 48⟩ := by kernel_rfl
theorem el206 : elemI Tryz.prog 206 = none := by kernel_rfl
theorem pl206 : placesI Tryz.prog 206 = some [(0, 1), (1, 1), (2, 1), (3, 1), (4, 1), (5, 1), (6, 1), (7, 1), (8, 1), (9, 1), (10, 1)] := by kernel_rfl
theorem fi206_0 : fieldI Tryz.prog 206 0 = some (0, 1, false) := by kernel_rfl
theorem fi206_1 : fieldI Tryz.prog 206 1 = some (1, 1, false) := by kernel_rfl
theorem fi206_2 : fieldI Tryz.prog 206 2 = some (2, 1, false) := by kernel_rfl
theorem fi206_3 : fieldI Tryz.prog 206 3 = some (3, 1, false) := by kernel_rfl
theorem fi206_4 : fieldI Tryz.prog 206 4 = some (4, 1, false) := by kernel_rfl
theorem fi206_5 : fieldI Tryz.prog 206 5 = some (5, 1, false) := by kernel_rfl
theorem fi206_6 : fieldI Tryz.prog 206 6 = some (6, 1, false) := by kernel_rfl
theorem fi206_7 : fieldI Tryz.prog 206 7 = some (7, 1, false) := by kernel_rfl
theorem fi206_8 : fieldI Tryz.prog 206 8 = some (8, 1, false) := by kernel_rfl
theorem fi206_9 : fieldI Tryz.prog 206 9 = some (9, 1, false) := by kernel_rfl
theorem fi206_10 : fieldI Tryz.prog 206 10 = some (10, 1, false) := by kernel_rfl
theorem ty207 : tyI Tryz.prog 207 = some ⟨false, 1, [(.pointer none)], 8⟩ := by kernel_rfl
theorem el207 : elemI Tryz.prog 207 = none := by kernel_rfl
attribute [go_sem] el0 ty1 el1 ty2 el2 it2 ty3 el3 it3 ty4 el4 bl4 ty5 el5 it5 ty6 el6 it6 ty7 el7 eq7 pl7 fi7_0 fi7_1 fi7_2 fi7_3 ty8 el8 eq8 pl8 fi8_0 fi8_1 fi8_2 fi8_3 ty9 el9 ty10 el10 ty11 el11 ty12 el12 it12 ty13 el13 pl13 fi13_0 fi13_1 ty14 el14 pl14 fi14_0 fi14_1 ty15 el15 ty16 el16 ty17 el17 ty18 el18 pl18 fi18_0 ty19 el19 pl19 fi19_0 ty20 el20 ty21 el21 it21 ty22 el22 eq22 pl22 fi22_0 fi22_1 fi22_2 fi22_3 fi22_4 fi22_5 ty23 el23 eq23 pl23 fi23_0 fi23_1 fi23_2 fi23_3 fi23_4 fi23_5 ty24 el24 eq24 pl24 fi24_0 fi24_1 ty25 el25 eq25 pl25 fi25_0 fi25_1 ty26 el26 eq26 pl26 fi26_0 fi26_1 fi26_2 fi26_3 fi26_4 ty27 el27 eq27 pl27 fi27_0 fi27_1 fi27_2 fi27_3 fi27_4 ty28 el28 eq28 pl28 fi28_0 fi28_1 ty29 el29 eq29 pl29 fi29_0 fi29_1 ty30 el30 ty31 el31 ty32 el32 pl32 fi32_0 fi32_1 ty33 el33 pl33 fi33_0 fi33_1 ty34 el34 it34 ty35 el35 ty36 el36 ty37 el37 ty38 el38 el39 ty40 el40 el41 ty42 el42 ty43 el43 ty44 el44 ty45 el45 it45 el46 ty47 el47 el48 ty49 el49 ty50 el50 ty51 el51 ty52 el52 ty53 el53 ty54 el54 ty55 el55 eq55 pl55 fi55_0 fi55_1 fi55_2 ty56 el56 eq56 pl56 fi56_0 fi56_1 fi56_2 ty57 el57 ty58 el58 ty59 el59 ty60 el60 el61 ty62 el62 ty63 el63 ty64 el64 el65 ty66 el66 ty67 el67 el68 ty69 el69 ty70 el70 eq70 pl70 fi70_0 fi70_1 fi70_2 fi70_3 fi70_4 ty71 el71 eq71 pl71 fi71_0 fi71_1 fi71_2 fi71_3 fi71_4 ty72 el72 ty73 el73 ty74 el74 eq74 pl74 fi74_0 fi74_1 ty75 el75 eq75 pl75 fi75_0 fi75_1 ty76 el76 ty77 el77 el78 ty79 el79 ty80 el80 pl80 fi80_0 fi80_1 ty81 el81 pl81 fi81_0 fi81_1 ty82 el82 ty83 el83 eq83 pl83 fi83_0 fi83_1 ty84 el84 eq84 pl84 fi84_0 fi84_1 el85 ty86 el86 ty87 el87 ty88 el88 ty89 el89 ty90 el90 ty91 el91 ty92 el92 ty93 el93 ty94 el94 eq94 pl94 fi94_0 fi94_1 ty95 el95 eq95 pl95 fi95_0 fi95_1 ty96 el96 eq96 pl96 fi96_0 fi96_1 ty97 el97 eq97 pl97 fi97_0 fi97_1 ty98 el98 ty99 el99 ty100 el100 ty101 el101 ty102 el102 ty103 el103 ty104 el104 ty105 el105 ty106 el106 ty107 el107 ar107 pl107 ty108 el108 ar108 pl108 ty109 el109 ty110 el110 ty111 el111 eq111 pl111 fi111_0 fi111_1 ty112 el112 eq112 pl112 fi112_0 fi112_1 ty113 el113 eq113 pl113 fi113_0 fi113_1 ty114 el114 eq114 pl114 fi114_0 fi114_1 ty115 el115 ty116 el116 ty117 el117 ty118 el118 ty119 el119 ty120 el120 ty121 el121 ty122 el122 pl122 fi122_0 fi122_1 ty123 el123 pl123 fi123_0 fi123_1 el124 ty125 el125 ty126 el126 ty127 el127 ty128 el128 ty129 el129 ty130 el130 ty131 el131 ty132 el132 ty133 el133 ar133 pl133 ty134 el134 ty135 el135 pl135 fi135_0 fi135_1 ty136 el136 pl136 fi136_0 fi136_1 ty137 el137 ty138 el138 ty139 el139 ty140 el140 ty141 el141 pl141 fi141_0 fi141_1 ty142 el142 pl142 fi142_0 fi142_1 el143 ty144 el144 ty145 el145 ty146 el146 ty147 el147 ty148 el148 ty149 el149 ty150 el150 ty151 el151 mp151 ty152 el152 ar152 pl152 ty153 el153 pl153 fi153_0 fi153_1 fi153_2 ty154 el154 pl154 fi154_0 fi154_1 fi154_2 el155 el156 ty157 el157 ty158 el158 ty159 el159 el160 ty161 el161 ty162 el162 ty163 el163 ty164 el164 ty165 el165 ty166 el166 ty167 el167 ty168 el168 ty169 el169 ty170 el170 ty171 el171 ty172 el172 ty173 el173 ty174 el174 ty175 el175 mp175 ty176 el176 ty177 el177 ty178 el178 el179 ty180 el180 ty181 el181 ty182 el182 ty183 el183 ty184 el184 ty185 el185 ty186 el186 ty187 el187 ty188 el188 ty189 el189 ty190 el190 ty191 el191 ty192 el192 ty193 el193 pl193 fi193_0 fi193_1 fi193_2 fi193_3 ty194 el194 pl194 fi194_0 fi194_1 fi194_2 fi194_3 ty195 el195 ar195 pl195 ty196 el196 pl196 ty197 el197 pl197 ty198 el198 it198 ty199 el199 it199 ty200 el200 it200 ty201 el201 ty202 el202 ty203 el203 it203 ty204 el204 it204 ty205 el205 pl205 fi205_0 fi205_1 fi205_2 fi205_3 fi205_4 fi205_5 fi205_6 fi205_7 fi205_8 fi205_9 fi205_10 ty206 el206 pl206 fi206_0 fi206_1 fi206_2 fi206_3 fi206_4 fi206_5 fi206_6 fi206_7 fi206_8 fi206_9 fi206_10 ty207 el207
end Go.Dw.Seat
end
section
namespace Go.Dw.Seat
open Go Go.Dw
def Tm (n : Nat) : Operand := .tmp n
def Kn (n : Int) : Operand := .const (.int .i64 n)
def Kb (b : Bool) : Operand := .const (.bool b)
def Mv (a c : Nat) : SO := ⟨some a, .move (.tmp c), none⟩
def Sg (a c : Nat) : SO := ⟨some a, .assign (.tmp c), none⟩
def Sk (a : Nat) (c : Operand) : SO := ⟨some a, .assign c, none⟩
def Ld (a b c : Nat) : SO := ⟨some a, .load b (.tmp c), none⟩
def Fa (a b c d : Nat) : SO := ⟨some a, .fieldAddr b (.tmp c) d, none⟩
def Xt (a c d : Nat) : SO := ⟨some a, .extract (.tmp c) d, none⟩
def Ix (a b c d : Nat) : SO := ⟨some a, .indexAddr b (.tmp c) (.tmp d), none⟩
def Lq (a c t : Nat) : SO := ⟨some a, .call { callee := .builtin .len, args := #[.tmp c], argTypes := #[t] }, none⟩
def Cl (a f : Nat) (x : Array Operand) (y : Array TypeId) : SO := ⟨some a, .call { callee := .value (.func f), args := x, argTypes := y }, none⟩
def Bo (a : Nat) (o : BinOp) (t : Nat) (x y : Operand) (u : Nat) : SO := ⟨some a, .binOp o t x y u, none⟩
def Pk (a x : Nat) (y z : Operand) : SO := ⟨some a, .pick (.tmp x) y z, none⟩
def Sr (t : Nat) (x y : Operand) : SO := ⟨none, .store t x y, none⟩
def Nk (a c : Nat) : SO := ⟨some a, .nilCheck (.tmp c), none⟩
def Oo (a : Nat) (o : Op) : SO := ⟨some a, o, none⟩
def Gm (a c g : Nat) (b : Bool) : SO := ⟨some a, .move (.tmp c), some (g, b)⟩
def Gl (a t c g : Nat) (b : Bool) : SO := ⟨some a, .load t (.tmp c), some (g, b)⟩
def Gf (a t c d g : Nat) (b : Bool) : SO := ⟨some a, .fieldAddr t (.tmp c) d, some (g, b)⟩
def Gx (a t c d g : Nat) (b : Bool) : SO := ⟨some a, .indexAddr t (.tmp c) (.tmp d), some (g, b)⟩
def Gc (a f : Nat) (x : Array Operand) (y : Array TypeId) (g : Nat) (b : Bool) : SO := ⟨some a, .call { callee := .value (.func f), args := x, argTypes := y }, some (g, b)⟩
def Gb (a : Nat) (o : BinOp) (t : Nat) (x y : Operand) (u g : Nat) (b : Bool) : SO := ⟨some a, .binOp o t x y u, some (g, b)⟩
def Og (a : Nat) (o : Op) (g : Nat) (b : Bool) : SO := ⟨some a, o, some (g, b)⟩
abbrev R0 (l : List SO) : SC := .reg false l
abbrev R1 (l : List SO) : SC := .reg true l
attribute [go_sem] Tm Kn Kb Mv Sg Sk Ld Fa Xt Ix Lq Cl Bo Pk Sr Nk Oo Gm Gl Gf Gx Gc Gb Og
end Go.Dw.Seat
namespace Go.Dw.Seat
open Go Go.Dw Go.Proofs
def s3 : SF := ⟨183, [.tmp 6], (.seq (R0 [Oo 3 (.box 29 (Tm 0)), Oo 5 (.box 33 (Tm 2)), Sk 6 (Kb false)]) (.seq (R0 [Fa 19 29 3 0, Ld 20 23 19, Fa 21 29 3 1, Ld 22 27 21, Mv 23 1, Cl 24 4 #[Tm 20, Tm 22, Tm 23] #[23, 27, 30], Sg 7 24]) (.seq (.seq (R0 [Mv 25 1, Lq 26 25 30, Bo 27 .gtr 3 (Tm 26) (Kn 220) 3, Mv 28 27, Gf 29 33 5 0 28 false, Gl 30 31 29 28 false, Og 31 (.call { callee := .builtin .len, args := #[Tm 30], argTypes := #[31] }) 28 false, Gb 32 .gtr 3 (Tm 31) (Kn 15) 3 28 false, Pk 33 28 (Kb true) (Tm 32), Mv 34 33, Gm 35 7 34 false, Gb 36 .eql 34 (Tm 35) (Kn 0) 34 34 false, Gm 37 36 34 false, Gm 38 1 37 true, Og 39 (.call { callee := .builtin .len, args := #[Tm 38], argTypes := #[30] }) 37 true, Gb 40 .gtr 3 (Tm 39) (Kn 60) 3 37 true, Og 41 (.pick (Tm 37) (Tm 40) (Kb false)) 34 false, Pk 42 34 (Kb true) (Tm 41)]) (.cond (Tm 42) (.seq (R0 [Cl 43 5 #[] #[], Sg 6 43]) .ret) .skip)) (.seq (R1 [Mv 44 1, Cl 45 6 #[Tm 44] #[30], Fa 46 33 5 0, Ld 47 31 46, Cl 48 7 #[Tm 47] #[31], Sg 8 45, Sg 9 48]) (.seq (R0 [Fa 50 29 3 0, Ld 51 23 50, Fa 52 29 3 1, Ld 53 27 52, Mv 54 8, Cl 55 8 #[Tm 51, Tm 53, Tm 54] #[23, 27, 30], Mv 49 55, Xt 56 49 0, Xt 57 49 1, Xt 58 49 2, Sg 10 56, Sg 11 57, Sg 12 58]) (.seq (R0 [Fa 60 29 3 0, Ld 61 23 60, Fa 62 29 3 1, Ld 63 27 62, Mv 64 8, Mv 65 9, Fa 66 33 5 1, Ld 67 3 66, Cl 68 9 #[Tm 61, Tm 63, Tm 64, Tm 65, Tm 67] #[23, 27, 30, 31, 3], Mv 59 68, Xt 69 59 0, Xt 70 59 1, Sg 13 69, Sg 14 70]) (.seq (.seq (R0 [Mv 71 8, Mv 72 1, Cl 73 10 #[Tm 71, Tm 72] #[30, 30], Oo 74 (.unOp .not 4 (Tm 73)), Mv 75 74, Gm 76 9 75 false, Gf 77 33 5 0 75 false, Gl 78 31 77 75 false, Gc 79 11 #[Tm 76, Tm 78] #[31, 31] 75 false, Og 80 (.unOp .not 4 (Tm 79)) 75 false, Pk 81 75 (Kb true) (Tm 80)]) (.cond (Tm 81) (.seq (R0 [Sk 6 (Kb false)]) .ret) .skip)) (.seq (.seq (R0 [Mv 82 7, Bo 83 .eql 34 (Tm 82) (Kn 0) 34]) (.cond (Tm 83) (.seq (R0 [Fa 85 29 3 0, Ld 86 23 85, Fa 87 29 3 1, Ld 88 27 87, Mv 89 1, Cl 90 12 #[Tm 86, Tm 88, Tm 89] #[23, 27, 30], Mv 84 90, Xt 91 84 0, Xt 92 84 1, Sg 15 91, Sg 16 92]) (.seq (R0 [Mv 93 16, Bo 94 .neq 45 (Tm 93) (Kn 0) 45]) (.cond (Tm 94) (R0 [Sk 7 (Kn 9)]) .skip))) .skip)) (.seq (.seq (R0 [Mv 95 7, Bo 96 .neq 34 (Tm 95) (Kn 0) 34]) (.cond (Tm 96) (.seq (R0 [Mv 97 12, Mv 98 7, Bo 99 .eql 34 (Tm 97) (Tm 98) 34, Mv 100 99, Gm 101 14 100 true, Gm 102 7 100 true, Gb 103 .eql 34 (Tm 101) (Tm 102) 34 100 true, Pk 104 100 (Tm 103) (Kb false), Mv 105 104, Gm 106 10 105 true, Gb 107 .eql 3 (Tm 106) (Kn 0) 3 105 true, Pk 108 105 (Tm 107) (Kb false), Mv 109 108, Gm 110 11 109 true, Gb 111 .eql 3 (Tm 110) (Kn 0) 3 109 true, Pk 112 109 (Tm 111) (Kb false), Mv 113 112, Gm 114 13 113 true, Gb 115 .eql 3 (Tm 114) (Kn 0) 3 113 true, Pk 116 113 (Tm 115) (Kb false), Mv 117 116, Gc 118 5 #[] #[] 117 true, Pk 119 117 (Tm 118) (Kb false), Sg 6 119]) .ret) .skip)) (.seq (R0 [Fa 121 29 3 0, Ld 122 23 121, Fa 123 29 3 1, Ld 124 27 123, Mv 125 1, Cl 126 13 #[Tm 122, Tm 124, Tm 125] #[23, 27, 30], Mv 120 126, Xt 127 120 0, Xt 128 120 1, Sg 17 127, Sg 18 128]) (.seq (.seq (R0 [Mv 129 12, Bo 130 .neq 34 (Tm 129) (Kn 0) 34, Mv 131 130, Gm 132 10 131 false, Gm 133 17 131 false, Gb 134 .neq 3 (Tm 132) (Tm 133) 3 131 false, Pk 135 131 (Kb true) (Tm 134), Mv 136 135, Gm 137 11 136 false, Gm 138 18 136 false, Gb 139 .neq 3 (Tm 137) (Tm 138) 3 136 false, Pk 140 136 (Kb true) (Tm 139)]) (.cond (Tm 140) (.seq (R0 [Sk 6 (Kb false)]) .ret) .skip)) (.seq (.seq (R0 [Mv 141 1, Lq 142 141 30, Bo 143 .eql 3 (Tm 142) (Kn 0) 3]) (.cond (Tm 143) (R0 [Sk 7 (Kn 7)]) .skip)) (.seq (.seq (R0 [Mv 144 7, Bo 145 .eql 34 (Tm 144) (Kn 0) 34]) (.cond (Tm 145) (R0 [Fa 146 33 5 0, Ld 147 31 146, Fa 148 33 5 1, Ld 149 3 148, Cl 150 14 #[Tm 147, Tm 149] #[31, 3], Sg 7 150]) .skip)) (.seq (.seq (R0 [Mv 151 7, Bo 152 .neq 34 (Tm 151) (Kn 0) 34]) (.cond (Tm 152) (.seq (R0 [Mv 153 14, Mv 154 7, Bo 155 .eql 34 (Tm 153) (Tm 154) 34, Mv 156 155, Gm 157 13 156 true, Gb 158 .eql 3 (Tm 157) (Kn 0) 3 156 true, Pk 159 156 (Tm 158) (Kb false), Mv 160 159, Gc 161 5 #[] #[] 160 true, Pk 162 160 (Tm 161) (Kb false), Sg 6 162]) .ret) .skip)) (.seq (R0 [Mv 163 14, Bo 164 .eql 34 (Tm 163) (Kn 0) 34, Mv 165 164, Gm 166 13 165 true, Gf 167 29 3 0 165 true, Gl 168 23 167 165 true, Gf 169 29 3 1 165 true, Gl 170 27 169 165 true, Gm 171 1 165 true, Og 172 (.call { callee := .builtin .len, args := #[Tm 171], argTypes := #[30] }) 165 true, Gf 173 33 5 0 165 true, Gl 174 31 173 165 true, Gf 175 33 5 1 165 true, Gl 176 3 175 165 true, Gc 177 15 #[Tm 168, Tm 170, Tm 172, Tm 174, Tm 176] #[23, 27, 3, 31, 3] 165 true, Gb 178 .eql 3 (Tm 166) (Tm 177) 3 165 true, Pk 179 165 (Tm 178) (Kb false), Mv 180 179, Gc 181 5 #[] #[] 180 true, Pk 182 180 (Tm 181) (Kb false), Sg 6 182]) .ret)))))))))))))))⟩
theorem sf3 : sfOf Tryz.f3 = some s3 := by kernel_rfl
theorem hb3 : hasBody Tryz.prog 3 = true := by kernel_rfl
def s4 : SF := ⟨16, [.tmp 6], (.seq (R0 [Oo 3 (.box 23 (Tm 0)), Oo 4 (.box 27 (Tm 1)), Sk 6 (Kn 0)]) (.seq (.seq (R0 [Ld 8 23 3, Ld 9 27 4, Cl 10 16 #[Tm 8, Tm 9] #[23, 27], Sg 7 10]) (.seq (R0 [Mv 11 7, Bo 12 .neq 34 (Tm 11) (Kn 0) 34]) (.cond (Tm 12) (.seq (R0 [Mv 13 7, Sg 6 13]) .ret) .skip))) (.seq (R0 [Mv 14 2, Cl 15 17 #[Tm 14] #[30], Sg 6 15]) .ret)))⟩
theorem sf4 : sfOf Tryz.f4 = some s4 := by kernel_rfl
theorem hb4 : hasBody Tryz.prog 4 = true := by kernel_rfl
def s5 : SF := ⟨241, [.tmp 0], (.seq (R0 [Sk 0 (Kb false)]) (.seq (R0 [Cl 26 18 #[Kn 0, Kn 0] #[3, 3], Cl 27 18 #[Kn 40, Kn 0] #[3, 3], Cl 28 18 #[Kn 0, Kn 30] #[3, 3], Oo 29 (.buildSlice 30 3 #[(0, (Tm 26)), (1, (Tm 27)), (2, (Tm 28))]), Oo 30 (.buildSlice 30 0 #[]), Sg 1 29, Sg 2 30]) (.seq (.seq (R0 [Sk 3 (Kn 0)]) (.block 0 (.loop (.seq (.seq (R0 [Mv 31 3, Bo 32 .lss 3 (Tm 31) (Kn 8) 3]) (.cond (Tm 32) .skip (.exit 0))) (.seq (.block 1 (R0 [Mv 35 2, Mv 36 3, Bo 37 .rem 3 (Tm 36) (Kn 4) 3, Bo 38 .mul 3 (Kn 30) (Tm 37) 3, Mv 39 3, Bo 40 .quo 3 (Tm 39) (Kn 4) 3, Bo 41 .mul 3 (Kn 40) (Tm 40) 3, Oo 42 (.build 56 #[(0, (Tm 38)), (1, (Tm 41)), (2, (Kb true))]), Oo 43 (.buildSlice 30 1 #[(0, (Tm 42))]), Oo 44 (.call { callee := .builtin .append, args := #[Tm 35, Tm 43], argTypes := #[30, 30] }), Sg 2 44])) (R0 [Mv 33 3, Bo 34 .add 3 (Tm 33) (Kn 1) 3, Sg 3 34])))))) (.seq (R0 [Cl 46 20 #[Kn 0] #[3], Cl 47 21 #[] #[], Cl 48 19 #[Tm 46, Tm 47] #[23, 27], Mv 45 48, Xt 49 45 0, Xt 50 45 1, Sg 4 49, Sg 5 50]) (.seq (R0 [Cl 52 20 #[Kn 5] #[3], Cl 53 21 #[] #[], Cl 54 19 #[Tm 52, Tm 53] #[23, 27], Mv 51 54, Xt 55 51 0, Xt 56 51 1, Sg 6 55, Sg 7 56]) (.seq (R0 [Cl 58 20 #[Kn 5] #[3], Cl 59 21 #[] #[], Cl 60 22 #[Tm 58, Tm 59] #[23, 27], Mv 57 60, Xt 61 57 0, Xt 62 57 1, Sg 8 61, Sg 9 62]) (.seq (R0 [Cl 64 20 #[Kn 0] #[3], Cl 65 21 #[] #[], Cl 66 23 #[Tm 64, Tm 65] #[23, 27], Mv 63 66, Xt 67 63 0, Xt 68 63 1, Sg 10 67, Sg 11 68]) (.seq (R0 [Cl 70 20 #[Kn 0] #[3], Cl 71 21 #[] #[], Mv 72 1, Cl 73 6 #[Tm 72] #[30], Cl 74 24 #[Tm 70, Tm 71, Tm 73, Kn 2] #[23, 27, 30, 3], Mv 69 74, Xt 75 69 0, Xt 76 69 1, Sg 12 75, Sg 13 76]) (.seq (R0 [Cl 78 20 #[Kn 0] #[3], Cl 79 21 #[] #[], Mv 80 1, Cl 81 6 #[Tm 80] #[30], Mv 82 12, Cl 83 6 #[Tm 82] #[30], Cl 84 25 #[Tm 78, Tm 79, Tm 81, Tm 83] #[23, 27, 30, 30], Mv 77 84, Xt 85 77 0, Xt 86 77 1, Sg 14 85, Sg 15 86]) (.seq (R0 [Cl 88 20 #[Kn 0] #[3], Cl 89 21 #[] #[], Mv 90 2, Cl 91 6 #[Tm 90] #[30], Cl 92 8 #[Tm 88, Tm 89, Tm 91] #[23, 27, 30], Mv 87 92, Xt 93 87 0, Xt 94 87 1, Xt 95 87 2, Sg 16 93, Sg 17 94, Sg 18 95]) (.seq (R0 [Cl 97 20 #[Kn 0] #[3], Cl 98 21 #[] #[], Mv 99 2, Cl 100 6 #[Tm 99] #[30], Cl 101 26 #[] #[], Cl 102 9 #[Tm 97, Tm 98, Tm 100, Tm 101, Kn 0] #[23, 27, 30, 31, 3], Mv 96 102, Xt 103 96 0, Xt 104 96 1, Sg 19 103, Sg 20 104]) (.seq (R0 [Cl 106 28 #[] #[], Cl 107 29 #[Kn 1000000, Kn 1000000] #[3, 3], Oo 108 (.build 75 #[(0, (Kn 120)), (1, (Tm 107))]), Cl 109 29 #[Kn 800000, Kn 900000] #[3, 3], Oo 110 (.build 75 #[(0, (Kn 120)), (1, (Tm 109))]), Oo 111 (.buildSlice 76 2 #[(0, (Tm 108)), (1, (Tm 110))]), Cl 112 27 #[Tm 106, Tm 111] #[71, 76], Mv 105 112, Xt 113 105 0, Xt 114 105 1, Xt 115 105 2, Oo 21 (.alloc 25), Oo 22 (.alloc 25), Sr 25 (Tm 21) (Tm 113), Sr 25 (Tm 22) (Tm 114), Sg 23 115]) (.seq (R0 [Cl 117 28 #[] #[], Cl 118 29 #[Kn 1000000, Kn 1000000] #[3, 3], Oo 119 (.build 75 #[(0, (Kn 120)), (1, (Tm 118))]), Cl 120 29 #[Kn 800000, Kn 900000] #[3, 3], Oo 121 (.build 75 #[(0, (Kn 120)), (1, (Tm 120))]), Oo 122 (.buildSlice 76 2 #[(0, (Tm 119)), (1, (Tm 121))]), Cl 123 30 #[Tm 117, Tm 122] #[71, 76], Mv 116 123, Xt 124 116 0, Xt 125 116 1, Sg 24 124, Sg 25 125]) (.seq (.seq (R0 [Mv 126 5, Bo 127 .neq 34 (Tm 126) (Kn 0) 34, Mv 128 127, Gm 129 7 128 false, Gb 130 .neq 34 (Tm 129) (Kn 0) 34 128 false, Pk 131 128 (Kb true) (Tm 130), Mv 132 131, Gm 133 9 132 false, Gb 134 .neq 34 (Tm 133) (Kn 0) 34 132 false, Pk 135 132 (Kb true) (Tm 134), Mv 136 135, Gm 137 11 136 false, Gb 138 .neq 34 (Tm 137) (Kn 0) 34 136 false, Pk 139 136 (Kb true) (Tm 138), Mv 140 139, Gm 141 13 140 false, Gb 142 .neq 34 (Tm 141) (Kn 0) 34 140 false, Pk 143 140 (Kb true) (Tm 142), Mv 144 143, Gm 145 15 144 false, Gb 146 .neq 34 (Tm 145) (Kn 0) 34 144 false, Pk 147 144 (Kb true) (Tm 146), Mv 148 147, Gm 149 18 148 false, Gb 150 .neq 34 (Tm 149) (Kn 0) 34 148 false, Pk 151 148 (Kb true) (Tm 150), Mv 152 151, Gm 153 20 152 false, Gb 154 .neq 34 (Tm 153) (Kn 0) 34 152 false, Pk 155 152 (Kb true) (Tm 154), Mv 156 155, Gm 157 23 156 false, Gb 158 .neq 34 (Tm 157) (Kn 0) 34 156 false, Pk 159 156 (Kb true) (Tm 158), Mv 160 159, Gm 161 25 160 false, Gb 162 .neq 34 (Tm 161) (Kn 0) 34 160 false, Pk 163 160 (Kb true) (Tm 162), Mv 164 163, Gm 165 14 164 false, Og 166 (.call { callee := .builtin .len, args := #[Tm 165], argTypes := #[64] }) 164 false, Gb 167 .neq 3 (Tm 166) (Kn 3) 3 164 false, Pk 168 164 (Kb true) (Tm 167)]) (.cond (Tm 168) (.seq (R0 [Sk 0 (Kb false)]) .ret) .skip)) (.seq (R1 [Mv 169 4, Bo 170 .eql 3 (Tm 169) (Kn 8) 3, Mv 171 170, Gm 172 6 171 true, Gb 173 .eql 3 (Tm 172) (Kn 9) 3 171 true, Pk 174 171 (Tm 173) (Kb false), Mv 175 174, Gm 176 8 175 true, Gb 177 .eql 3 (Tm 176) (Kn 9) 3 175 true, Pk 178 175 (Tm 177) (Kb false), Mv 179 178, Gm 180 10 179 true, Og 181 (.call { callee := .builtin .len, args := #[Tm 180], argTypes := #[30] }) 179 true, Gb 182 .eql 3 (Tm 181) (Kn 8) 3 179 true, Pk 183 179 (Tm 182) (Kb false), Mv 184 183, Gm 185 12 184 true, Gc 186 18 #[Kn 80, Kn 0] #[3, 3] 184 true, Gc 187 18 #[Kn 40, Kn 0] #[3, 3] 184 true, Gc 188 18 #[Kn 80, Kn 30] #[3, 3] 184 true, Og 189 (.buildSlice 30 3 #[(0, (Tm 186)), (1, (Tm 187)), (2, (Tm 188))]) 184 true, Gc 190 10 #[Tm 185, Tm 189] #[30, 30] 184 true, Pk 191 184 (Tm 190) (Kb false), Mv 192 191, Gm 193 14 192 true, Og 194 (.indexAddr 64 (Tm 193) (Kn 0)) 192 true, Gf 195 81 194 1 192 true, Gl 196 3 195 192 true, Gb 197 .eql 3 (Tm 196) (Kn 0) 3 192 true, Pk 198 192 (Tm 197) (Kb false), Mv 199 198, Gm 200 14 199 true, Og 201 (.indexAddr 64 (Tm 200) (Kn 1)) 199 true, Gf 202 81 201 1 199 true, Gl 203 3 202 199 true, Gb 204 .eql 3 (Tm 203) (Kn 1000) 3 199 true, Pk 205 199 (Tm 204) (Kb false), Mv 206 205, Gm 207 14 206 true, Og 208 (.indexAddr 64 (Tm 207) (Kn 1)) 206 true, Gf 209 81 208 0 206 true, Gl 210 77 209 206 true, Og 211 (.buildSlice 77 1 #[(0, (Kn 1))]) 206 true, Gc 212 31 #[Tm 210, Tm 211] #[77, 77] 206 true, Pk 213 206 (Tm 212) (Kb false), Mv 214 213, Gm 215 16 214 true, Gb 216 .eql 3 (Tm 215) (Kn 0) 3 214 true, Pk 217 214 (Tm 216) (Kb false), Mv 218 217, Gm 219 17 218 true, Gb 220 .eql 3 (Tm 219) (Kn 0) 3 218 true, Pk 221 218 (Tm 220) (Kb false), Mv 222 221, Gm 223 19 222 true, Gb 224 .eql 3 (Tm 223) (Kn 6) 3 222 true, Pk 225 222 (Tm 224) (Kb false), Mv 226 225, Gl 227 25 21 226 true, Gc 228 29 #[Kn 1740000, Kn 1820000] #[3, 3] 226 true, Gb 229 .eql 25 (Tm 227) (Tm 228) 25 226 true, Pk 230 226 (Tm 229) (Kb false), Mv 231 230, Gl 232 25 22 231 true, Gc 233 29 #[Kn 60000, Kn 80000] #[3, 3] 231 true, Gb 234 .eql 25 (Tm 232) (Tm 233) 25 231 true, Pk 235 231 (Tm 234) (Kb false), Mv 236 235, Gm 237 24 236 true, Og 238 (.buildSlice 77 2 #[(0, (Kn 0)), (1, (Kn 1))]) 236 true, Gc 239 31 #[Tm 237, Tm 238] #[77, 77] 236 true, Pk 240 236 (Tm 239) (Kb false), Sg 0 240]) .ret)))))))))))))))⟩
theorem sf5 : sfOf Tryz.f5 = some s5 := by kernel_rfl
theorem hb5 : hasBody Tryz.prog 5 = true := by kernel_rfl
def s6 : SF := ⟨6, [.tmp 2], (.seq (R0 [Oo 2 (.assign (.const (.slice none 0 0)))]) (.seq (R0 [Oo 3 (.buildSlice 30 0 #[]), Mv 4 0, Oo 5 (.call { callee := .builtin .append, args := #[Tm 3, Tm 4], argTypes := #[30, 30] }), Sg 2 5]) .ret))⟩
theorem sf6 : sfOf Tryz.f6 = some s6 := by kernel_rfl
theorem hb6 : hasBody Tryz.prog 6 = true := by kernel_rfl
def s7 : SF := ⟨6, [.tmp 2], (.seq (R0 [Oo 2 (.assign (.const (.slice none 0 0)))]) (.seq (R0 [Oo 3 (.buildSlice 31 0 #[]), Mv 4 0, Oo 5 (.call { callee := .builtin .append, args := #[Tm 3, Tm 4], argTypes := #[31, 31] }), Sg 2 5]) .ret))⟩
theorem sf7 : sfOf Tryz.f7 = some s7 := by kernel_rfl
theorem hb7 : hasBody Tryz.prog 7 = true := by kernel_rfl
def s8 : SF := ⟨51, [.tmp 6, .tmp 7, .tmp 8], (.seq (R0 [Oo 3 (.box 23 (Tm 0)), Oo 4 (.box 27 (Tm 1)), Sk 6 (Kn 0), Sk 7 (Kn 0), Sk 8 (Kn 0)]) (.seq (R0 [Ld 14 23 3, Ld 15 27 4, Mv 16 2, Oo 17 (.buildSlice 131 1 #[(0, (Tm 16))]), Cl 18 32 #[Tm 14, Tm 15, Tm 17] #[23, 27, 131], Mv 13 18, Xt 19 13 0, Xt 20 13 1, Oo 9 (.alloc 84), Sr 84 (Tm 9) (Tm 19), Sg 8 20]) (.seq (.seq (R0 [Mv 21 8, Bo 22 .neq 34 (Tm 21) (Kn 0) 34]) (.cond (Tm 22) (.seq (R0 [Mv 23 8, Sk 6 (Kn 0), Sk 7 (Kn 0), Sg 8 23]) .ret) .skip)) (.seq (.seq (R0 [Cl 24 33 #[] #[], Lq 25 24 87, Oo 26 (.move (Kn 0))]) (.block 0 (.loop (.seq (R0 [Bo 27 .lss 3 (Tm 26) (Tm 25) 3]) (.seq (.cond (Tm 27) .skip (.exit 0)) (.seq (.block 1 (.seq (R0 [Mv 28 26, Sg 10 28]) (.seq (R0 [Oo 11 (.alloc 3), Sr 3 (Tm 11) (Kn 0)]) (.seq (.seq (R1 [Ld 29 84 9, Mv 30 2, Ld 31 84 9, Mv 32 2, Mv 33 10, Cl 34 35 #[Tm 31, Tm 32, Tm 33] #[84, 30, 3], Cl 35 34 #[Tm 29, Tm 30, Tm 34] #[84, 30, 30]]) (.block 2 (.rng (Tm 35) [36] (R0 [Oo 12 (.alloc 81), Sr 81 (Tm 12) (Tm 36)]) (.block 3 (.seq (R0 [Fa 37 81 12 0, Ld 38 77 37, Lq 39 38 77, Bo 40 .geq 3 (Tm 39) (Kn 2) 3]) (.cond (Tm 40) (R0 [Ld 41 3 11, Bo 42 .add 3 (Tm 41) (Kn 1) 3, Sr 3 (Tm 11) (Tm 42)]) .skip)))))) (.seq (R0 [Ld 43 3 11, Mv 44 7, Bo 45 .gtr 3 (Tm 43) (Tm 44) 3]) (.cond (Tm 45) (R1 [Mv 46 10, Ld 47 3 11, Sg 6 46, Sg 7 47]) .skip)))))) (R0 [Bo 48 .add 3 (Tm 26) (Kn 1) 3, Mv 26 48]))))))) (.seq (R0 [Mv 49 6, Mv 50 7, Sg 6 49, Sg 7 50, Sk 8 (Kn 0)]) .ret)))))⟩
theorem sf8 : sfOf Tryz.f8 = some s8 := by kernel_rfl
theorem hb8 : hasBody Tryz.prog 8 = true := by kernel_rfl
def s9 : SF := ⟨79, [.tmp 10, .tmp 11], (.seq (R0 [Oo 5 (.box 23 (Tm 0)), Oo 6 (.box 27 (Tm 1)), Sk 10 (Kn 0), Sk 11 (Kn 0)]) (.seq (.seq (R0 [Ld 19 23 5, Ld 20 27 6, Mv 21 2, Oo 22 (.buildSlice 131 1 #[(0, (Tm 21))]), Cl 23 32 #[Tm 19, Tm 20, Tm 22] #[23, 27, 131], Mv 18 23, Xt 24 18 0, Xt 25 18 1, Oo 12 (.alloc 84), Sr 84 (Tm 12) (Tm 24), Sg 13 25]) (.seq (R0 [Mv 26 13, Bo 27 .neq 34 (Tm 26) (Kn 0) 34]) (.cond (Tm 27) (.seq (R0 [Mv 28 13, Sk 10 (Kn 0), Sg 11 28]) .ret) .skip))) (.seq (.seq (R0 [Mv 29 2, Lq 30 29 30, Bo 31 .eql 3 (Tm 30) (Kn 0) 3]) (.cond (Tm 31) (.seq (R0 [Sk 10 (Kn 0), Sk 11 (Kn 7)]) .ret) .skip)) (.seq (R1 [Fa 33 27 6 4, Ld 34 25 33, Fa 35 27 6 3, Fa 36 25 35 0, Ld 37 3 36, Cl 38 37 #[Tm 37] #[3], Fa 39 27 6 3, Fa 40 25 39 1, Ld 41 3 40, Cl 42 37 #[Tm 41] #[3], Oo 43 (.build 25 #[(0, (Tm 38)), (1, (Tm 42))]), Oo 44 (.build 95 #[(0, (Tm 34)), (1, (Tm 43))]), Mv 45 3, Mv 46 4, Cl 47 36 #[Tm 44, Tm 45, Tm 46] #[95, 31, 3], Mv 32 47, Xt 48 32 0, Xt 49 32 1, Sg 14 48, Sg 15 49]) (.seq (.seq (R0 [Mv 50 15, Bo 51 .neq 34 (Tm 50) (Kn 0) 34]) (.cond (Tm 51) (.seq (R0 [Mv 52 15, Sk 10 (Kn 0), Sg 11 52]) .ret) .skip)) (.seq (R0 [Mv 53 14, Fa 54 23 5 4, Ld 55 3 54, Fa 56 23 5 2, Ld 57 3 56, Bo 58 .sub 3 (Tm 55) (Tm 57) 3, Oo 59 (.call { callee := .builtin .max, args := #[Kn 0, Tm 58], argTypes := #[3, 3] }), Fa 60 27 6 2, Ld 61 3 60, Bo 62 .quo 3 (Tm 59) (Tm 61) 3, Oo 63 (.call { callee := .builtin .min, args := #[Kn 30, Tm 53, Tm 62], argTypes := #[3, 3, 3] }), Sg 16 63]) (.seq (.seq (R0 [Mv 64 2, Lq 65 64 30, Fa 66 27 6 3, Fa 67 25 66 1, Ld 68 3 67, Bo 69 .mul 3 (Tm 65) (Tm 68) 3, Sg 17 69]) (.seq (R0 [Mv 70 17, Bo 71 .gtr 3 (Tm 70) (Kn 0) 3]) (.cond (Tm 71) (R0 [Mv 72 16, Fa 73 23 5 5, Ld 74 3 73, Mv 75 17, Bo 76 .quo 3 (Tm 74) (Tm 75) 3, Oo 77 (.call { callee := .builtin .min, args := #[Tm 72, Tm 76], argTypes := #[3, 3] }), Sg 16 77]) .skip))) (.seq (R0 [Mv 78 16, Sg 10 78, Sk 11 (Kn 0)]) .ret))))))))⟩
theorem sf9 : sfOf Tryz.f9 = some s9 := by kernel_rfl
theorem hb9 : hasBody Tryz.prog 9 = true := by kernel_rfl
def s10 : SF := ⟨26, [.tmp 4], (.seq (R0 [Sk 4 (Kb false)]) (.seq (.seq (R0 [Mv 6 0, Lq 7 6 30, Mv 8 1, Lq 9 8 30, Bo 10 .neq 3 (Tm 7) (Tm 9) 3]) (.cond (Tm 10) (.seq (R0 [Sk 4 (Kb false)]) .ret) .skip)) (.seq (.seq (R0 [Sk 5 (Kn 0)]) (.block 0 (.loop (.seq (.seq (R0 [Mv 11 5, Mv 12 0, Lq 13 12 30, Bo 14 .lss 3 (Tm 11) (Tm 13) 3]) (.cond (Tm 14) .skip (.exit 0))) (.seq (.block 1 (.seq (R1 [Mv 17 0, Mv 18 5, Ix 19 30 17 18, Ld 20 56 19, Mv 21 1, Mv 22 5, Ix 23 30 21 22, Ld 24 56 23, Bo 25 .neq 56 (Tm 20) (Tm 24) 56]) (.cond (Tm 25) (.seq (R0 [Sk 4 (Kb false)]) .ret) .skip))) (R0 [Mv 15 5, Bo 16 .add 3 (Tm 15) (Kn 1) 3, Sg 5 16])))))) (.seq (R0 [Sk 4 (Kb true)]) .ret))))⟩
theorem sf10 : sfOf Tryz.f10 = some s10 := by kernel_rfl
theorem hb10 : hasBody Tryz.prog 10 = true := by kernel_rfl
def s11 : SF := ⟨26, [.tmp 4], (.seq (R0 [Sk 4 (Kb false)]) (.seq (.seq (R0 [Mv 6 0, Lq 7 6 31, Mv 8 1, Lq 9 8 31, Bo 10 .neq 3 (Tm 7) (Tm 9) 3]) (.cond (Tm 10) (.seq (R0 [Sk 4 (Kb false)]) .ret) .skip)) (.seq (.seq (R0 [Sk 5 (Kn 0)]) (.block 0 (.loop (.seq (.seq (R0 [Mv 11 5, Mv 12 0, Lq 13 12 31, Bo 14 .lss 3 (Tm 11) (Tm 13) 3]) (.cond (Tm 14) .skip (.exit 0))) (.seq (.block 1 (.seq (R1 [Mv 17 0, Mv 18 5, Ix 19 31 17 18, Ld 20 97 19, Mv 21 1, Mv 22 5, Ix 23 31 21 22, Ld 24 97 23, Bo 25 .neq 97 (Tm 20) (Tm 24) 97]) (.cond (Tm 25) (.seq (R0 [Sk 4 (Kb false)]) .ret) .skip))) (R0 [Mv 15 5, Bo 16 .add 3 (Tm 15) (Kn 1) 3, Sg 5 16])))))) (.seq (R0 [Sk 4 (Kb true)]) .ret))))⟩
theorem sf11 : sfOf Tryz.f11 = some s11 := by kernel_rfl
theorem hb11 : hasBody Tryz.prog 11 = true := by kernel_rfl
def s12 : SF := ⟨72, [.tmp 6, .tmp 7], (.seq (R0 [Oo 3 (.box 23 (Tm 0)), Oo 4 (.box 27 (Tm 1)), Sk 6 (Kn 0), Sk 7 (Kn 0)]) (.seq (R0 [Ld 15 23 3, Cl 16 38 #[Tm 15] #[23], Mv 14 16, Xt 17 14 0, Xt 18 14 1, Sg 8 17, Sg 9 18]) (.seq (.seq (R0 [Sk 10 (Kn 0)]) (.block 0 (.loop (.seq (.seq (R0 [Mv 19 10, Mv 20 2, Lq 21 20 30, Bo 22 .lss 3 (Tm 19) (Tm 21) 3]) (.cond (Tm 22) .skip (.exit 0))) (.seq (.block 1 (.seq (R1 [Ld 26 27 4, Mv 27 2, Mv 28 10, Ix 29 30 27 28, Ld 30 56 29, Cl 31 39 #[Tm 26, Tm 30] #[27, 56], Mv 25 31, Xt 32 25 0, Xt 33 25 1, Sg 11 32, Sg 12 33]) (.seq (.seq (R0 [Mv 34 2, Mv 35 10, Ix 36 30 34 35, Fa 37 56 36 0, Ld 38 3 37, Mv 39 11, Bo 40 .add 3 (Tm 38) (Tm 39) 3, Mv 41 8, Bo 42 .gtr 3 (Tm 40) (Tm 41) 3, Mv 43 42, Gm 44 2 43 false, Gm 45 10 43 false, Gx 46 30 44 45 43 false, Gf 47 56 46 1 43 false, Gl 48 3 47 43 false, Gm 49 12 43 false, Gb 50 .add 3 (Tm 48) (Tm 49) 3 43 false, Gm 51 9 43 false, Gb 52 .gtr 3 (Tm 50) (Tm 51) 3 43 false, Pk 53 43 (Kb true) (Tm 52)]) (.cond (Tm 53) (.seq (R0 [Mv 54 10, Sg 6 54, Sk 7 (Kn 1)]) .ret) .skip)) (.seq (R0 [Sk 13 (Kn 0)]) (.block 2 (.loop (.seq (.seq (R0 [Mv 55 13, Mv 56 10, Bo 57 .lss 3 (Tm 55) (Tm 56) 3]) (.cond (Tm 57) .skip (.exit 2))) (.seq (.block 3 (.seq (R1 [Ld 60 27 4, Mv 61 2, Mv 62 10, Ix 63 30 61 62, Ld 64 56 63, Mv 65 2, Mv 66 13, Ix 67 30 65 66, Ld 68 56 67, Cl 69 40 #[Tm 60, Tm 64, Tm 68] #[27, 56, 56], Bo 70 .gtr 3 (Tm 69) (Kn 0) 3]) (.cond (Tm 70) (.seq (R0 [Mv 71 10, Sg 6 71, Sk 7 (Kn 2)]) .ret) .skip))) (R0 [Mv 58 13, Bo 59 .add 3 (Tm 58) (Kn 1) 3, Sg 13 59]))))))))) (R0 [Mv 23 10, Bo 24 .add 3 (Tm 23) (Kn 1) 3, Sg 10 24])))))) (.seq (R0 [Sk 6 (Kn 0), Sk 7 (Kn 0)]) .ret))))⟩
theorem sf12 : sfOf Tryz.f12 = some s12 := by kernel_rfl
theorem hb12 : hasBody Tryz.prog 12 = true := by kernel_rfl
def s13 : SF := ⟨28, [.tmp 6, .tmp 7], (.seq (R0 [Oo 3 (.box 23 (Tm 0)), Oo 4 (.box 27 (Tm 1)), Sk 6 (Kn 0), Sk 7 (Kn 0)]) (.seq (R0 [Sk 8 (Kn 0), Sk 9 (Kn (-1))]) (.seq (.seq (R0 [Sk 10 (Kn 0)]) (.block 0 (.loop (.seq (.seq (R0 [Mv 12 10, Bo 13 .leq 3 (Tm 12) (Kn 3) 3]) (.cond (Tm 13) .skip (.exit 0))) (.seq (.block 1 (.seq (R0 [Ld 16 23 3, Ld 17 27 4, Mv 18 2, Mv 19 10, Cl 20 41 #[Tm 16, Tm 17, Tm 18, Tm 19] #[23, 27, 30, 3], Sg 11 20]) (.seq (R0 [Mv 21 11, Mv 22 9, Bo 23 .gtr 3 (Tm 21) (Tm 22) 3]) (.cond (Tm 23) (R0 [Mv 24 10, Mv 25 11, Sg 8 24, Sg 9 25]) .skip)))) (R0 [Mv 14 10, Bo 15 .add 3 (Tm 14) (Kn 1) 3, Sg 10 15])))))) (.seq (R0 [Mv 26 8, Mv 27 9, Sg 6 26, Sg 7 27]) .ret))))⟩
theorem sf13 : sfOf Tryz.f13 = some s13 := by kernel_rfl
theorem hb13 : hasBody Tryz.prog 13 = true := by kernel_rfl
def s14 : SF := ⟨11, [.tmp 4], (.seq (R0 [Sk 4 (Kn 0)]) (.seq (.seq (R0 [Mv 5 0, Cl 6 42 #[Tm 5] #[31], Oo 7 (.unOp .not 4 (Tm 6))]) (.cond (Tm 7) (.seq (R0 [Sk 4 (Kn 4)]) .ret) .skip)) (.seq (.seq (R0 [Mv 8 1, Cl 9 43 #[Tm 8, Kn 0, Kn 10000] #[3, 3, 3], Oo 10 (.unOp .not 4 (Tm 9))]) (.cond (Tm 10) (.seq (R0 [Sk 4 (Kn 3)]) .ret) .skip)) (.seq (R0 [Sk 4 (Kn 0)]) .ret))))⟩
theorem sf14 : sfOf Tryz.f14 = some s14 := by kernel_rfl
theorem hb14 : hasBody Tryz.prog 14 = true := by kernel_rfl
def s15 : SF := ⟨52, [.tmp 10], (.seq (R0 [Oo 5 (.box 23 (Tm 0)), Oo 6 (.box 27 (Tm 1)), Sk 10 (Kn 0)]) (.seq (R0 [Ld 14 27 6, Cl 15 45 #[Tm 14] #[27], Mv 16 3, Mv 17 4, Cl 18 44 #[Tm 15, Tm 16, Tm 17] #[95, 31, 3], Sk 11 (Kn 0), Sg 12 18]) (.seq (.seq (R0 [Sk 13 (Kn 1)]) (.block 0 (.loop (.seq (.seq (R0 [Mv 19 13, Bo 20 .leq 3 (Tm 19) (Kn 30) 3]) (.cond (Tm 20) .skip (.exit 0))) (.seq (.block 1 (.seq (R0 [Fa 23 23 5 2, Ld 24 3 23, Mv 25 13, Fa 26 27 6 2, Ld 27 3 26, Bo 28 .mul 3 (Tm 25) (Tm 27) 3, Bo 29 .add 3 (Tm 24) (Tm 28) 3, Fa 30 23 5 4, Ld 31 3 30, Bo 32 .leq 3 (Tm 29) (Tm 31) 3, Mv 33 32, Gm 34 13 33 true, Gm 35 2 33 true, Gb 36 .mul 3 (Tm 34) (Tm 35) 3 33 true, Gf 37 27 6 3 33 true, Gf 38 25 37 1 33 true, Gl 39 3 38 33 true, Gb 40 .mul 3 (Tm 36) (Tm 39) 3 33 true, Gf 41 23 5 5 33 true, Gl 42 3 41 33 true, Gb 43 .leq 3 (Tm 40) (Tm 42) 3 33 true, Pk 44 33 (Tm 43) (Kb false), Mv 45 44, Gm 46 13 45 true, Gm 47 12 45 true, Gb 48 .leq 3 (Tm 46) (Tm 47) 3 45 true, Pk 49 45 (Tm 48) (Kb false)]) (.cond (Tm 49) (R0 [Mv 50 13, Sg 11 50]) .skip))) (R0 [Mv 21 13, Bo 22 .add 3 (Tm 21) (Kn 1) 3, Sg 13 22])))))) (.seq (R0 [Mv 51 11, Sg 10 51]) .ret))))⟩
theorem sf15 : sfOf Tryz.f15 = some s15 := by kernel_rfl
theorem hb15 : hasBody Tryz.prog 15 = true := by kernel_rfl
def s16 : SF := ⟨64, [.tmp 4], (.seq (R0 [Oo 2 (.box 23 (Tm 0)), Oo 3 (.box 27 (Tm 1)), Sk 4 (Kn 0)]) (.seq (R0 [Fa 7 23 2 0, Ld 8 3 7, Cl 9 46 #[Tm 8, Kn 1, Kn 120] #[3, 3, 3], Mv 10 9, Gf 11 23 2 1 10 true, Gl 12 3 11 10 true, Gc 13 46 #[Tm 12, Kn 1, Kn 120] #[3, 3, 3] 10 true, Pk 14 10 (Tm 13) (Kb false), Mv 15 14, Gf 16 23 2 2 15 true, Gl 17 3 16 15 true, Gc 18 46 #[Tm 17, Kn 0, Kn 400] #[3, 3, 3] 15 true, Pk 19 15 (Tm 18) (Kb false), Mv 20 19, Gf 21 23 2 3 20 true, Gl 22 3 21 20 true, Gc 23 46 #[Tm 22, Kn 0, Kn 10] #[3, 3, 3] 20 true, Pk 24 20 (Tm 23) (Kb false), Mv 25 24, Gf 26 23 2 4 25 true, Gl 27 3 26 25 true, Gc 28 46 #[Tm 27, Kn 0, Kn 400] #[3, 3, 3] 25 true, Pk 29 25 (Tm 28) (Kb false), Mv 30 29, Gf 31 23 2 5 30 true, Gl 32 3 31 30 true, Gc 33 46 #[Tm 32, Kn 0, Kn 5000000] #[3, 3, 3] 30 true, Pk 34 30 (Tm 33) (Kb false), Sg 5 34]) (.seq (R0 [Fa 35 27 3 0, Ld 36 3 35, Cl 37 46 #[Tm 36, Kn 10, Kn 100] #[3, 3, 3], Mv 38 37, Gf 39 27 3 1 38 true, Gl 40 3 39 38 true, Gc 41 46 #[Tm 40, Kn 10, Kn 100] #[3, 3, 3] 38 true, Pk 42 38 (Tm 41) (Kb false), Mv 43 42, Gf 44 27 3 2 43 true, Gl 45 3 44 43 true, Gc 46 46 #[Tm 45, Kn 10, Kn 100] #[3, 3, 3] 43 true, Pk 47 43 (Tm 46) (Kb false), Mv 48 47, Gf 49 27 3 3 48 true, Gl 50 25 49 48 true, Gc 51 47 #[Tm 50, Kn 0, Kn 5000000] #[25, 3, 3] 48 true, Pk 52 48 (Tm 51) (Kb false), Mv 53 52, Gf 54 27 3 4 53 true, Gl 55 25 54 53 true, Gc 56 47 #[Tm 55, Kn 0, Kn 20000000] #[25, 3, 3] 53 true, Pk 57 53 (Tm 56) (Kb false), Sg 6 57]) (.seq (.seq (R0 [Mv 58 5, Oo 59 (.unOp .not 4 (Tm 58)), Mv 60 59, Gm 61 6 60 false, Og 62 (.unOp .not 4 (Tm 61)) 60 false, Pk 63 60 (Kb true) (Tm 62)]) (.cond (Tm 63) (.seq (R0 [Sk 4 (Kn 2)]) .ret) .skip)) (.seq (R0 [Sk 4 (Kn 0)]) .ret)))))⟩
theorem sf16 : sfOf Tryz.f16 = some s16 := by kernel_rfl
theorem hb16 : hasBody Tryz.prog 16 = true := by kernel_rfl
def s17 : SF := ⟨29, [.tmp 2], (.seq (R0 [Sk 2 (Kn 0)]) (.seq (.seq (R0 [Mv 4 0, Lq 5 4 30, Bo 6 .gtr 3 (Tm 5) (Kn 200) 3]) (.cond (Tm 6) (.seq (R0 [Sk 2 (Kn 5)]) .ret) .skip)) (.seq (.seq (R0 [Sk 3 (Kn 0)]) (.block 0 (.loop (.seq (.seq (R0 [Mv 7 3, Mv 8 0, Lq 9 8 30, Bo 10 .lss 3 (Tm 7) (Tm 9) 3]) (.cond (Tm 10) .skip (.exit 0))) (.seq (.block 1 (.seq (R0 [Mv 13 0, Mv 14 3, Ix 15 30 13 14, Fa 16 56 15 0, Ld 17 3 16, Cl 18 46 #[Tm 17, Kn 0, Kn 140] #[3, 3, 3], Oo 19 (.unOp .not 4 (Tm 18)), Mv 20 19, Gm 21 0 20 false, Gm 22 3 20 false, Gx 23 30 21 22 20 false, Gf 24 56 23 1 20 false, Gl 25 3 24 20 false, Gc 26 46 #[Tm 25, Kn 0, Kn 140] #[3, 3, 3] 20 false, Og 27 (.unOp .not 4 (Tm 26)) 20 false, Pk 28 20 (Kb true) (Tm 27)]) (.cond (Tm 28) (.seq (R0 [Sk 2 (Kn 4)]) .ret) .skip))) (R0 [Mv 11 3, Bo 12 .add 3 (Tm 11) (Kn 1) 3, Sg 3 12])))))) (.seq (R0 [Sk 2 (Kn 0)]) .ret))))⟩
theorem sf17 : sfOf Tryz.f17 = some s17 := by kernel_rfl
theorem hb17 : hasBody Tryz.prog 17 = true := by kernel_rfl
def s18 : SF := ⟨8, [.cell 4 56], (.seq (R0 [Oo 4 (.alloc 56)]) (.seq (R0 [Mv 5 0, Mv 6 1, Oo 7 (.build 56 #[(0, (Tm 5)), (1, (Tm 6))]), Sr 56 (Tm 4) (Tm 7)]) .ret))⟩
theorem sf18 : sfOf Tryz.f18 = some s18 := by kernel_rfl
theorem hb18 : hasBody Tryz.prog 18 = true := by kernel_rfl
def s19 : SF := ⟨41, [.tmp 4, .tmp 5], (.seq (R0 [Oo 2 (.box 23 (Tm 0)), Oo 3 (.box 27 (Tm 1)), Sk 4 (Kn 0), Sk 5 (Kn 0)]) (.seq (.seq (R0 [Ld 8 23 2, Ld 9 27 3, Cl 10 48 #[Tm 8, Tm 9] #[23, 27], Sg 6 10]) (.seq (R0 [Mv 11 6, Bo 12 .neq 34 (Tm 11) (Kn 0) 34]) (.cond (Tm 12) (.seq (R0 [Mv 13 6, Sk 4 (Kn 0), Sg 5 13]) .ret) .skip))) (.seq (R0 [Ld 14 23 2, Ld 15 27 3, Oo 16 (.build 84 #[(0, (Tm 14)), (1, (Tm 15))]), Cl 17 49 #[Tm 16] #[84], Oo 7 (.alloc 108), Sr 108 (Tm 7) (Tm 17)]) (.seq (R1 [Ld 18 27 3, Oo 19 (.indexAddr 108 (Tm 7) (Kn 0)), Ld 20 3 19, Cl 21 50 #[Tm 18, Tm 20] #[27, 3], Oo 22 (.indexAddr 108 (Tm 7) (Kn 0)), Ld 23 3 22, Ix 24 77 21 23, Ld 25 3 24, Ld 26 27 3, Oo 27 (.indexAddr 108 (Tm 7) (Kn 1)), Ld 28 3 27, Cl 29 50 #[Tm 26, Tm 28] #[27, 3], Oo 30 (.indexAddr 108 (Tm 7) (Kn 1)), Ld 31 3 30, Ix 32 77 29 31, Ld 33 3 32, Bo 34 .mul 3 (Tm 25) (Tm 33) 3, Fa 35 27 3 0, Ld 36 3 35, Fa 37 27 3 1, Ld 38 3 37, Bo 39 .mul 3 (Tm 36) (Tm 38) 3, Bo 40 .quo 3 (Tm 34) (Tm 39) 3, Sg 4 40, Sk 5 (Kn 0)]) .ret))))⟩
theorem sf19 : sfOf Tryz.f19 = some s19 := by kernel_rfl
theorem hb19 : hasBody Tryz.prog 19 = true := by kernel_rfl
def s20 : SF := ⟨5, [.cell 2 23], (.seq (R0 [Oo 2 (.alloc 23)]) (.seq (R0 [Mv 3 0, Oo 4 (.build 23 #[(0, (Kn 120)), (1, (Kn 80)), (2, (Kn 15)), (3, (Tm 3)), (4, (Kn 180)), (5, (Kn 500000))]), Sr 23 (Tm 2) (Tm 4)]) .ret))⟩
theorem sf20 : sfOf Tryz.f20 = some s20 := by kernel_rfl
theorem hb20 : hasBody Tryz.prog 20 = true := by kernel_rfl
def s21 : SF := ⟨4, [.cell 0 27], (.seq (R0 [Oo 0 (.alloc 27)]) (.seq (R0 [Cl 1 29 #[Kn 5000, Kn 6000] #[3, 3], Cl 2 29 #[Kn 900, Kn 1000] #[3, 3], Oo 3 (.build 27 #[(0, (Kn 40)), (1, (Kn 30)), (2, (Kn 25)), (3, (Tm 1)), (4, (Tm 2))]), Sr 27 (Tm 0) (Tm 3)]) .ret))⟩
theorem sf21 : sfOf Tryz.f21 = some s21 := by kernel_rfl
theorem hb21 : hasBody Tryz.prog 21 = true := by kernel_rfl
def o22_0 : SO := (Ld 17 84 7)
def o22_1 : SO := (Ld 19 84 7)
def o22_2 : SO := (Cl 20 49 #[Tm 19] #[84])
def o22_3 : SO := (Oo 22 (.field 114 (Tm 21) 0))
def o22_4 : SO := (Sg 4 22)
def o22_5 : SO := (Sk 5 (Kn 0))
def s22 : SF := ⟨23, [.tmp 4, .tmp 5], (.seq (R0 [Oo 2 (.box 23 (Tm 0)), Oo 3 (.box 27 (Tm 1)), Sk 4 (Kn 0), Sk 5 (Kn 0)]) (.seq (.seq (R0 [Ld 8 23 2, Ld 9 27 3, Cl 10 48 #[Tm 8, Tm 9] #[23, 27], Sg 6 10]) (.seq (R0 [Mv 11 6, Bo 12 .neq 34 (Tm 11) (Kn 0) 34]) (.cond (Tm 12) (.seq (R0 [Mv 13 6, Sk 4 (Kn 0), Sg 5 13]) .ret) .skip))) (.seq (R0 [Ld 14 23 2, Ld 15 27 3, Oo 16 (.build 84 #[(0, (Tm 14)), (1, (Tm 15))]), Oo 7 (.alloc 84), Sr 84 (Tm 7) (Tm 16)]) (.seq (.ord (.op o22_0 (.alt (.lop (Cl 18 51 #[Tm 17] #[84]) (.op o22_1 (.op o22_2 (.lop (Cl 21 52 #[Tm 18, Tm 20] #[115, 108]) (.op o22_3 (.op o22_4 (.op o22_5 .done))))))) (.op o22_1 (.lop (Cl 18 51 #[Tm 17] #[84]) (.op o22_2 (.lop (Cl 21 52 #[Tm 18, Tm 20] #[115, 108]) (.op o22_3 (.op o22_4 (.op o22_5 .done)))))))))) .ret))))⟩
theorem sf22 : sfOf Tryz.f22 = some s22 := by kernel_rfl
theorem hb22 : hasBody Tryz.prog 22 = true := by kernel_rfl
def o23_0 : SO := (Ld 17 84 7)
def o23_1 : SO := (Oo 19 (.build 108 #[]))
def o23_2 : SO := (Ld 20 84 7)
def o23_3 : SO := (Cl 21 49 #[Tm 20] #[84])
def o23_4 : SO := (Sg 4 22)
def o23_5 : SO := (Sk 5 (Kn 0))
def s23 : SF := ⟨23, [.tmp 4, .tmp 5], (.seq (R0 [Oo 2 (.box 23 (Tm 0)), Oo 3 (.box 27 (Tm 1)), Oo 4 (.assign (.const (.slice none 0 0))), Sk 5 (Kn 0)]) (.seq (.seq (R0 [Ld 8 23 2, Ld 9 27 3, Cl 10 48 #[Tm 8, Tm 9] #[23, 27], Sg 6 10]) (.seq (R0 [Mv 11 6, Bo 12 .neq 34 (Tm 11) (Kn 0) 34]) (.cond (Tm 12) (.seq (R0 [Mv 13 6, Oo 4 (.assign (.const (.slice none 0 0))), Sg 5 13]) .ret) .skip))) (.seq (R0 [Ld 14 23 2, Ld 15 27 3, Oo 16 (.build 84 #[(0, (Tm 14)), (1, (Tm 15))]), Oo 7 (.alloc 84), Sr 84 (Tm 7) (Tm 16)]) (.seq (.ord (.op o23_0 (.alt (.lop (Cl 18 51 #[Tm 17] #[84]) (.op o23_1 (.op o23_2 (.op o23_3 (.lop (Cl 22 53 #[Tm 18, Tm 19, Tm 21] #[115, 108, 108]) (.op o23_4 (.op o23_5 .done))))))) (.alt (.op o23_1 (.alt (.lop (Cl 18 51 #[Tm 17] #[84]) (.op o23_2 (.op o23_3 (.lop (Cl 22 53 #[Tm 18, Tm 19, Tm 21] #[115, 108, 108]) (.op o23_4 (.op o23_5 .done)))))) (.op o23_2 (.lop (Cl 18 51 #[Tm 17] #[84]) (.op o23_3 (.lop (Cl 22 53 #[Tm 18, Tm 19, Tm 21] #[115, 108, 108]) (.op o23_4 (.op o23_5 .done)))))))) (.op o23_2 (.alt (.lop (Cl 18 51 #[Tm 17] #[84]) (.op o23_1 (.op o23_3 (.lop (Cl 22 53 #[Tm 18, Tm 19, Tm 21] #[115, 108, 108]) (.op o23_4 (.op o23_5 .done)))))) (.op o23_1 (.lop (Cl 18 51 #[Tm 17] #[84]) (.op o23_3 (.lop (Cl 22 53 #[Tm 18, Tm 19, Tm 21] #[115, 108, 108]) (.op o23_4 (.op o23_5 .done)))))))))))) .ret))))⟩
theorem sf23 : sfOf Tryz.f23 = some s23 := by kernel_rfl
theorem hb23 : hasBody Tryz.prog 23 = true := by kernel_rfl
def s24 : SF := ⟨47, [.tmp 8, .tmp 9], (.seq (R0 [Oo 4 (.box 23 (Tm 0)), Oo 5 (.box 27 (Tm 1)), Oo 8 (.assign (.const (.slice none 0 0))), Sk 9 (Kn 0)]) (.seq (.seq (R0 [Ld 15 23 4, Ld 16 27 5, Mv 17 2, Oo 18 (.buildSlice 131 1 #[(0, (Tm 17))]), Cl 19 54 #[Tm 15, Tm 16, Tm 18] #[23, 27, 131], Mv 14 19, Xt 20 14 0, Xt 21 14 1, Oo 10 (.alloc 84), Sr 84 (Tm 10) (Tm 20), Sg 11 21]) (.seq (R0 [Mv 22 11, Bo 23 .neq 34 (Tm 22) (Kn 0) 34]) (.cond (Tm 23) (.seq (R0 [Mv 24 11, Oo 8 (.assign (.const (.slice none 0 0))), Sg 9 24]) .ret) .skip))) (.seq (.seq (R0 [Cl 25 33 #[] #[], Lq 26 25 87, Bo 27 .sub 3 (Tm 26) (Kn 1) 3, Mv 28 3, Oo 29 (.buildSlice 77 1 #[(0, (Tm 28))]), Cl 30 55 #[Kn 0, Tm 27, Tm 29] #[3, 3, 77], Oo 31 (.unOp .not 4 (Tm 30))]) (.cond (Tm 31) (.seq (R0 [Oo 8 (.assign (.const (.slice none 0 0))), Sk 9 (Kn 3)]) .ret) .skip)) (.seq (R0 [Ld 33 23 4, Ld 34 27 5, Mv 35 2, Oo 36 (.buildSlice 131 1 #[(0, (Tm 35))]), Cl 37 32 #[Tm 33, Tm 34, Tm 36] #[23, 27, 131], Mv 32 37, Xt 38 32 0, Xt 39 32 1, Oo 12 (.alloc 84), Sr 84 (Tm 12) (Tm 38), Sg 13 39]) (.seq (.seq (R0 [Mv 40 13, Bo 41 .neq 34 (Tm 40) (Kn 0) 34]) (.cond (Tm 41) (.seq (R0 [Mv 42 13, Oo 8 (.assign (.const (.slice none 0 0))), Sg 9 42]) .ret) .skip)) (.seq (R0 [Ld 43 84 12, Mv 44 2, Mv 45 3, Cl 46 35 #[Tm 43, Tm 44, Tm 45] #[84, 30, 3], Sg 8 46, Sk 9 (Kn 0)]) .ret))))))⟩
theorem sf24 : sfOf Tryz.f24 = some s24 := by kernel_rfl
theorem hb24 : hasBody Tryz.prog 24 = true := by kernel_rfl
def s25 : SF := ⟨42, [.tmp 8, .tmp 9], (.seq (R0 [Oo 4 (.box 23 (Tm 0)), Oo 5 (.box 27 (Tm 1)), Oo 8 (.assign (.const (.slice none 0 0))), Sk 9 (Kn 0)]) (.seq (.seq (R0 [Ld 14 23 4, Ld 15 27 5, Mv 16 2, Mv 17 3, Oo 18 (.buildSlice 131 2 #[(0, (Tm 16)), (1, (Tm 17))]), Cl 19 54 #[Tm 14, Tm 15, Tm 18] #[23, 27, 131], Mv 13 19, Xt 20 13 0, Xt 21 13 1, Oo 10 (.alloc 84), Sr 84 (Tm 10) (Tm 20), Sg 11 21]) (.seq (R0 [Mv 22 11, Bo 23 .neq 34 (Tm 22) (Kn 0) 34]) (.cond (Tm 23) (.seq (R0 [Mv 24 11, Oo 8 (.assign (.const (.slice none 0 0))), Sg 9 24]) .ret) .skip))) (.seq (R0 [Ld 26 23 4, Ld 27 27 5, Mv 28 2, Mv 29 3, Oo 30 (.buildSlice 131 2 #[(0, (Tm 28)), (1, (Tm 29))]), Cl 31 32 #[Tm 26, Tm 27, Tm 30] #[23, 27, 131], Mv 25 31, Xt 32 25 0, Xt 33 25 1, Oo 12 (.alloc 84), Sr 84 (Tm 12) (Tm 32), Sg 9 33]) (.seq (.seq (R0 [Mv 34 9, Bo 35 .neq 34 (Tm 34) (Kn 0) 34]) (.cond (Tm 35) (.seq (R0 [Mv 36 9, Oo 8 (.assign (.const (.slice none 0 0))), Sg 9 36]) .ret) .skip)) (.seq (R0 [Ld 37 84 12, Mv 38 2, Mv 39 3, Cl 40 34 #[Tm 37, Tm 38, Tm 39] #[84, 30, 30], Cl 41 56 #[Tm 40] #[165], Sg 8 41, Sk 9 (Kn 0)]) .ret)))))⟩
theorem sf25 : sfOf Tryz.f25 = some s25 := by kernel_rfl
theorem hb25 : hasBody Tryz.prog 25 = true := by kernel_rfl
def s26 : SF := ⟨3, [.tmp 0], (.seq (R0 [Oo 0 (.assign (.const (.slice none 0 0)))]) (.seq (R0 [Oo 1 (.build 97 #[(1, (Kn 1000))]), Oo 2 (.buildSlice 31 1 #[(0, (Tm 1))]), Sg 0 2]) .ret))⟩
theorem sf26 : sfOf Tryz.f26 = some s26 := by kernel_rfl
theorem hb26 : hasBody Tryz.prog 26 = true := by kernel_rfl
def o27_0 : SO := (Ld 14 25 4)
def o27_1 : SO := (Ld 15 25 5)
def o27_2 : SO := (Mv 16 7)
def o27_3 : SO := (Sr 25 (Tm 4) (Tm 14))
def o27_4 : SO := (Sr 25 (Tm 5) (Tm 15))
def o27_5 : SO := (Sg 6 16)
def s27 : SF := ⟨33, [.cell 4 25, .cell 5 25, .tmp 6], (.seq (R0 [Oo 2 (.box 71 (Tm 0)), Oo 4 (.alloc 25), Oo 5 (.alloc 25), Sk 6 (Kn 0)]) (.seq (.seq (R0 [Ld 9 71 2, Mv 10 1, Cl 11 57 #[Tm 9, Tm 10] #[71, 76], Sg 7 11]) (.seq (R0 [Mv 12 7, Bo 13 .neq 34 (Tm 12) (Kn 0) 34]) (.cond (Tm 13) (.seq (.ord (.op o27_0 (.alt (.op o27_1 (.alt (.op o27_2 (.op o27_3 (.op o27_4 (.op o27_5 .done)))) (.op o27_3 (.alt (.op o27_2 (.op o27_4 (.op o27_5 .done))) (.op o27_4 (.op o27_2 (.op o27_5 .done))))))) (.alt (.op o27_2 (.alt (.op o27_1 (.op o27_3 (.op o27_4 (.op o27_5 .done)))) (.op o27_3 (.op o27_1 (.op o27_4 (.op o27_5 .done)))))) (.op o27_3 (.op o27_1 (.alt (.op o27_2 (.op o27_4 (.op o27_5 .done))) (.op o27_4 (.op o27_2 (.op o27_5 .done)))))))))) .ret) .skip))) (.seq (R0 [Ld 17 71 2, Mv 18 1, Oo 19 (.build 123 #[(0, (Tm 17)), (1, (Tm 18))]), Oo 8 (.alloc 123), Sr 123 (Tm 8) (Tm 19)]) (.seq (R0 [Ld 21 123 8, Cl 22 58 #[Tm 21] #[123], Mv 20 22, Xt 23 20 0, Xt 24 20 1, Sr 25 (Tm 4) (Tm 23), Sr 25 (Tm 5) (Tm 24)]) (.seq (R1 [Ld 25 25 4, Ld 26 123 8, Cl 27 60 #[Tm 26] #[123], Cl 28 59 #[Tm 25, Tm 27] #[25, 3], Ld 29 25 5, Ld 30 123 8, Cl 31 60 #[Tm 30] #[123], Cl 32 59 #[Tm 29, Tm 31] #[25, 3], Sr 25 (Tm 4) (Tm 28), Sr 25 (Tm 5) (Tm 32), Sk 6 (Kn 0)]) .ret)))))⟩
theorem sf27 : sfOf Tryz.f27 = some s27 := by kernel_rfl
theorem hb27 : hasBody Tryz.prog 27 = true := by kernel_rfl
def s28 : SF := ⟨2, [.cell 0 71], (.seq (R0 [Oo 0 (.alloc 71)]) (.seq (R0 [Oo 1 (.build 71 #[(0, (Kn 600)), (1, (Kn 100)), (2, (Kn 500)), (3, (Kn 3000000)), (4, (Kn 3000000))]), Sr 71 (Tm 0) (Tm 1)]) .ret))⟩
theorem sf28 : sfOf Tryz.f28 = some s28 := by kernel_rfl
theorem hb28 : hasBody Tryz.prog 28 = true := by kernel_rfl
def s29 : SF := ⟨8, [.cell 4 25], (.seq (R0 [Oo 4 (.alloc 25)]) (.seq (R0 [Mv 5 0, Mv 6 1, Oo 7 (.build 25 #[(0, (Tm 5)), (1, (Tm 6))]), Sr 25 (Tm 4) (Tm 7)]) .ret))⟩
theorem sf29 : sfOf Tryz.f29 = some s29 := by kernel_rfl
theorem hb29 : hasBody Tryz.prog 29 = true := by kernel_rfl
def s30 : SF := ⟨43, [.cell 4 77, .cell 5 34], (.seq (R0 [Oo 2 (.box 71 (Tm 0)), Oo 3 (.box 76 (Tm 1)), Oo 4 (.alloc 77), Oo 5 (.alloc 34)]) (.seq (.seq (R0 [Ld 11 71 2, Ld 12 76 3, Cl 13 57 #[Tm 11, Tm 12] #[71, 76], Sg 6 13]) (.seq (R0 [Mv 14 6, Bo 15 .neq 34 (Tm 14) (Kn 0) 34]) (.cond (Tm 15) (.seq (R0 [Mv 16 6, Sr 77 (Tm 4) (.const (.slice none 0 0)), Sr 34 (Tm 5) (Tm 16)]) .ret) .skip))) (.seq (.seq (R0 [Ld 17 76 3, Lq 18 17 76, Cl 19 61 #[Tm 18] #[3]]) (.block 0 (.rng (Tm 19) [20] (R0 [Sg 7 20]) (.block 1 (.seq (R0 [Ld 21 71 2, Oo 22 (.build 123 #[(0, (Tm 21))]), Oo 8 (.alloc 123), Sr 123 (Tm 8) (Tm 22)]) (.seq (.seq (R0 [Mv 23 7, Lq 24 23 77, Oo 25 (.move (Kn 0))]) (.block 2 (.loop (.seq (R0 [Bo 26 .lss 3 (Tm 25) (Tm 24) 3]) (.seq (.cond (Tm 26) .skip (.exit 2)) (.seq (.block 3 (.seq (R0 [Ix 27 77 23 25, Ld 28 3 27, Sg 10 28]) (R1 [Fa 29 123 8 1, Ld 30 76 29, Ld 31 76 3, Mv 32 10, Ix 33 76 31 32, Ld 34 75 33, Oo 35 (.buildSlice 76 1 #[(0, (Tm 34))]), Oo 36 (.call { callee := .builtin .append, args := #[Tm 30, Tm 35], argTypes := #[76, 76] }), Fa 37 123 8 1, Sr 76 (Tm 37) (Tm 36)]))) (R0 [Bo 38 .add 3 (Tm 25) (Kn 1) 3, Mv 25 38]))))))) (.seq (R0 [Ld 39 123 8, Cl 40 62 #[Tm 39] #[123]]) (.cond (Tm 40) (.seq (R0 [Mv 41 7, Cl 42 63 #[Tm 41] #[77], Sr 77 (Tm 4) (Tm 42), Sr 34 (Tm 5) (Kn 0)]) .ret) .skip)))))))) (.seq (R0 [Sr 77 (Tm 4) (.const (.slice none 0 0)), Sr 34 (Tm 5) (Kn 9)]) .ret))))⟩
theorem sf30 : sfOf Tryz.f30 = some s30 := by kernel_rfl
theorem hb30 : hasBody Tryz.prog 30 = true := by kernel_rfl
def s31 : SF := ⟨26, [.tmp 4], (.seq (R0 [Sk 4 (Kb false)]) (.seq (.seq (R0 [Mv 6 0, Lq 7 6 77, Mv 8 1, Lq 9 8 77, Bo 10 .neq 3 (Tm 7) (Tm 9) 3]) (.cond (Tm 10) (.seq (R0 [Sk 4 (Kb false)]) .ret) .skip)) (.seq (.seq (R0 [Sk 5 (Kn 0)]) (.block 0 (.loop (.seq (.seq (R0 [Mv 11 5, Mv 12 0, Lq 13 12 77, Bo 14 .lss 3 (Tm 11) (Tm 13) 3]) (.cond (Tm 14) .skip (.exit 0))) (.seq (.block 1 (.seq (R1 [Mv 17 0, Mv 18 5, Ix 19 77 17 18, Ld 20 3 19, Mv 21 1, Mv 22 5, Ix 23 77 21 22, Ld 24 3 23, Bo 25 .neq 3 (Tm 20) (Tm 24) 3]) (.cond (Tm 25) (.seq (R0 [Sk 4 (Kb false)]) .ret) .skip))) (R0 [Mv 15 5, Bo 16 .add 3 (Tm 15) (Kn 1) 3, Sg 5 16])))))) (.seq (R0 [Sk 4 (Kb true)]) .ret))))⟩
theorem sf31 : sfOf Tryz.f31 = some s31 := by kernel_rfl
theorem hb31 : hasBody Tryz.prog 31 = true := by kernel_rfl
def s32 : SF := ⟨42, [.cell 6 84, .tmp 7], (.seq (R0 [Oo 3 (.box 23 (Tm 0)), Oo 4 (.box 27 (Tm 1)), Oo 6 (.alloc 84), Sk 7 (Kn 0)]) (.seq (R0 [Ld 15 23 3, Ld 16 27 4, Mv 17 2, Cl 18 54 #[Tm 15, Tm 16, Tm 17] #[23, 27, 131], Mv 14 18, Xt 19 14 0, Xt 20 14 1, Oo 8 (.alloc 84), Sr 84 (Tm 8) (Tm 19), Sg 9 20]) (.seq (.seq (R0 [Mv 21 2, Lq 22 21 131, Oo 23 (.move (Kn 0))]) (.block 0 (.loop (.seq (R0 [Bo 24 .lss 3 (Tm 23) (Tm 22) 3]) (.seq (.cond (Tm 24) .skip (.exit 0)) (.seq (.block 1 (.seq (R0 [Ix 25 131 21 23, Ld 26 30 25, Sg 11 26]) (.seq (.seq (R0 [Mv 27 9, Bo 28 .neq 34 (Tm 27) (Kn 0) 34]) (.cond (Tm 28) (.seq (R0 [Ld 29 84 8, Mv 30 9, Sr 84 (Tm 6) (Tm 29), Sg 7 30]) .ret) .skip)) (.seq (R0 [Ld 32 84 8, Mv 33 11, Cl 34 64 #[Tm 32, Tm 33] #[84, 30], Mv 31 34, Xt 35 31 0, Xt 36 31 1, Sg 12 35, Sg 13 36]) (.seq (R0 [Mv 37 13, Bo 38 .neq 45 (Tm 37) (Kn 0) 45]) (.cond (Tm 38) (R0 [Sk 9 (Kn 9)]) .skip)))))) (R0 [Bo 39 .add 3 (Tm 23) (Kn 1) 3, Mv 23 39]))))))) (.seq (R0 [Ld 40 84 8, Mv 41 9, Sr 84 (Tm 6) (Tm 40), Sg 7 41]) .ret))))⟩
theorem sf32 : sfOf Tryz.f32 = some s32 := by kernel_rfl
theorem hb32 : hasBody Tryz.prog 32 = true := by kernel_rfl
def s33 : SF := ⟨6, [.tmp 0], (.seq (R0 [Oo 0 (.assign (.const (.slice none 0 0)))]) (.seq (R0 [Oo 1 (.build 133 #[(0, (Kb false)), (1, (Kb false))]), Oo 2 (.build 133 #[(0, (Kb true)), (1, (Kb true))]), Oo 3 (.build 133 #[(0, (Kb true)), (1, (Kb false))]), Oo 4 (.build 133 #[(0, (Kb false)), (1, (Kb true))]), Oo 5 (.buildSlice 87 4 #[(0, (Tm 1)), (1, (Tm 2)), (2, (Tm 3)), (3, (Tm 4))]), Sg 0 5]) .ret))⟩
theorem sf33 : sfOf Tryz.f33 = some s33 := by kernel_rfl
theorem hb33 : hasBody Tryz.prog 33 = true := by kernel_rfl
def s34 : SF := ⟨8, [.tmp 6], (.seq (R0 [Oo 3 (.box 84 (Tm 0)), Oo 4 (.box 30 (Tm 1)), Oo 5 (.box 30 (Tm 2)), Oo 6 (.assign (.const .nilFunc))]) (.seq (R0 [Oo 7 (.makeFunc (.func 65) #[] #[Tm 5, Tm 4, Tm 3]), Sg 6 7]) .ret))⟩
theorem sf34 : sfOf Tryz.f34 = some s34 := by kernel_rfl
theorem hb34 : hasBody Tryz.prog 34 = true := by kernel_rfl
def o35_0 : SO := (Ld 12 84 3)
def o35_1 : SO := (Cl 13 49 #[Tm 12] #[84])
def o35_2 : SO := (Cl 14 33 #[] #[])
def o35_3 : SO := (Oo 7 (.alloc 108))
def o35_4 : SO := (Oo 8 (.alloc 133))
def o35_5 : SO := (Mv 15 2)
def o35_6 : SO := (Ix 16 87 14 15)
def o35_7 : SO := (Ld 17 133 16)
def o35_8 : SO := (Sr 108 (Tm 7) (Tm 13))
def o35_9 : SO := (Sr 133 (Tm 8) (Tm 17))
def s35 : SF := ⟨51, [.tmp 6], (.seq (R0 [Oo 3 (.box 84 (Tm 0)), Oo 6 (.assign (.const (.slice none 0 0)))]) (.seq (.ord (.op o35_0 (.op o35_1 (.op o35_2 (.op o35_3 (.op o35_4 (.alt (.op o35_5 (.alt (.op o35_6 (.alt (.op o35_7 (.op o35_8 (.op o35_9 .done))) (.op o35_8 (.op o35_7 (.op o35_9 .done))))) (.op o35_8 (.op o35_6 (.op o35_7 (.op o35_9 .done)))))) (.op o35_8 (.op o35_5 (.op o35_6 (.op o35_7 (.op o35_9 .done)))))))))))) (.seq (.seq (R0 [Mv 18 1, Lq 19 18 30, Oo 20 (.move (Kn 0))]) (.block 0 (.loop (.seq (R0 [Bo 21 .lss 3 (Tm 20) (Tm 19) 3]) (.seq (.cond (Tm 21) .skip (.exit 0)) (.seq (.block 1 (.seq (R0 [Ix 22 30 18 20, Ld 23 56 22, Oo 10 (.alloc 56), Sr 56 (Tm 10) (Tm 23)]) (.seq (R0 [Ld 24 84 3, Ld 25 56 10, Cl 26 66 #[Tm 24, Tm 25] #[84, 56], Oo 11 (.alloc 136), Sr 136 (Tm 11) (Tm 26)]) (.seq (.seq (R0 [Oo 27 (.indexAddr 133 (Tm 8) (Kn 0)), Ld 28 4 27]) (.cond (Tm 28) (R0 [Oo 29 (.indexAddr 108 (Tm 7) (Kn 0)), Ld 30 3 29, Fa 31 136 11 1, Oo 32 (.indexAddr 108 (Tm 31) (Kn 0)), Ld 33 3 32, Bo 34 .sub 3 (Tm 30) (Tm 33) 3, Fa 35 56 10 0, Sr 3 (Tm 35) (Tm 34)]) .skip)) (.seq (.seq (R0 [Oo 36 (.indexAddr 133 (Tm 8) (Kn 1)), Ld 37 4 36]) (.cond (Tm 37) (R0 [Oo 38 (.indexAddr 108 (Tm 7) (Kn 1)), Ld 39 3 38, Fa 40 136 11 1, Oo 41 (.indexAddr 108 (Tm 40) (Kn 1)), Ld 42 3 41, Bo 43 .sub 3 (Tm 39) (Tm 42) 3, Fa 44 56 10 1, Sr 3 (Tm 44) (Tm 43)]) .skip)) (R0 [Mv 45 6, Ld 46 56 10, Oo 47 (.buildSlice 30 1 #[(0, (Tm 46))]), Oo 48 (.call { callee := .builtin .append, args := #[Tm 45, Tm 47], argTypes := #[30, 30] }), Sg 6 48])))))) (R0 [Bo 49 .add 3 (Tm 20) (Kn 1) 3, Mv 20 49]))))))) (.seq (R0 [Mv 50 6, Sg 6 50]) .ret))))⟩
theorem sf35 : sfOf Tryz.f35 = some s35 := by kernel_rfl
theorem hb35 : hasBody Tryz.prog 35 = true := by kernel_rfl
def s36 : SF := ⟨42, [.tmp 6, .tmp 7], (.seq (R0 [Oo 3 (.box 95 (Tm 0)), Sk 6 (Kn 0), Sk 7 (Kn 0)]) (.seq (.seq (R0 [Ld 11 95 3, Oo 12 (.buildSlice 140 1 #[(0, (Tm 11))]), Cl 13 68 #[Tm 12, Kn 1] #[140, 3], Sg 8 13]) (.seq (R0 [Mv 14 8, Bo 15 .neq 34 (Tm 14) (Kn 0) 34]) (.cond (Tm 15) (.seq (R0 [Mv 16 8, Sk 6 (Kn 0), Sg 7 16]) .ret) .skip))) (.seq (R0 [Mv 18 1, Mv 19 2, Cl 20 69 #[Tm 18, Tm 19] #[31, 3], Mv 17 20, Xt 21 17 0, Xt 22 17 1, Oo 9 (.alloc 142), Sr 142 (Tm 9) (Tm 21), Sg 10 22]) (.seq (.block 0 (.seq (R0 [Mv 24 10, Bo 25 .neq 34 (Tm 24) (Kn 0) 34, Sg 23 25]) (.cond (Tm 23) (.seq (R0 [Mv 26 10, Sk 6 (Kn 0), Sg 7 26]) .ret) (.seq (R0 [Fa 28 95 3 1, Fa 29 25 28 1, Ld 30 3 29, Bo 31 .eql 3 (Tm 30) (Kn 0) 3, Sg 27 31]) (.cond (Tm 27) (.seq (R0 [Sk 6 (Kn 50), Sk 7 (Kn 0)]) .ret) .skip))))) (.seq (R1 [Ld 32 95 3, Ld 33 142 9, Cl 34 71 #[Tm 33] #[142], Cl 35 70 #[Tm 32, Tm 34] #[95, 3], Fa 36 95 3 1, Fa 37 25 36 1, Ld 38 3 37, Bo 39 .quo 3 (Tm 35) (Tm 38) 3, Bo 40 .add 3 (Kn 1) (Tm 39) 3, Oo 41 (.call { callee := .builtin .min, args := #[Kn 50, Tm 40], argTypes := #[3, 3] }), Sg 6 41, Sk 7 (Kn 0)]) .ret)))))⟩
theorem sf36 : sfOf Tryz.f36 = some s36 := by kernel_rfl
theorem hb36 : hasBody Tryz.prog 36 = true := by kernel_rfl
def s37 : SF := ⟨6, [.tmp 2], (.seq (R0 [Sk 2 (Kn 0)]) (.seq (R0 [Mv 3 0, Bo 4 .add 3 (Tm 3) (Kn 99) 3, Bo 5 .quo 3 (Tm 4) (Kn 100) 3, Sg 2 5]) .ret))⟩
theorem sf37 : sfOf Tryz.f37 = some s37 := by kernel_rfl
theorem hb37 : hasBody Tryz.prog 37 = true := by kernel_rfl
def s38 : SF := ⟨16, [.tmp 2, .tmp 3], (.seq (R0 [Oo 1 (.box 23 (Tm 0)), Sk 2 (Kn 0), Sk 3 (Kn 0)]) (.seq (R1 [Fa 4 23 1 0, Ld 5 3 4, Fa 6 23 1 3, Ld 7 3 6, Bo 8 .mul 3 (Kn 2) (Tm 7) 3, Bo 9 .add 3 (Tm 5) (Tm 8) 3, Fa 10 23 1 1, Ld 11 3 10, Fa 12 23 1 3, Ld 13 3 12, Bo 14 .mul 3 (Kn 2) (Tm 13) 3, Bo 15 .add 3 (Tm 11) (Tm 14) 3, Sg 2 9, Sg 3 15]) .ret))⟩
theorem sf38 : sfOf Tryz.f38 = some s38 := by kernel_rfl
theorem hb38 : hasBody Tryz.prog 38 = true := by kernel_rfl
def s39 : SF := ⟨16, [.tmp 4, .tmp 5], (.seq (R0 [Oo 2 (.box 27 (Tm 0)), Oo 3 (.box 56 (Tm 1)), Sk 4 (Kn 0), Sk 5 (Kn 0)]) (.seq (.seq (R0 [Fa 6 56 3 2, Ld 7 4 6]) (.cond (Tm 7) (.seq (R1 [Fa 8 27 2 1, Ld 9 3 8, Fa 10 27 2 0, Ld 11 3 10, Sg 4 9, Sg 5 11]) .ret) .skip)) (.seq (R1 [Fa 12 27 2 0, Ld 13 3 12, Fa 14 27 2 1, Ld 15 3 14, Sg 4 13, Sg 5 15]) .ret)))⟩
theorem sf39 : sfOf Tryz.f39 = some s39 := by kernel_rfl
theorem hb39 : hasBody Tryz.prog 39 = true := by kernel_rfl
def s40 : SF := ⟨60, [.tmp 6], (.seq (R0 [Oo 3 (.box 27 (Tm 0)), Oo 4 (.box 56 (Tm 1)), Oo 5 (.box 56 (Tm 2)), Sk 6 (Kn 0)]) (.seq (R0 [Ld 14 27 3, Ld 15 56 4, Cl 16 39 #[Tm 14, Tm 15] #[27, 56], Mv 13 16, Xt 17 13 0, Xt 18 13 1, Sg 7 17, Sg 8 18]) (.seq (R0 [Ld 20 27 3, Ld 21 56 5, Cl 22 39 #[Tm 20, Tm 21] #[27, 56], Mv 19 22, Xt 23 19 0, Xt 24 19 1, Sg 9 23, Sg 10 24]) (.seq (R1 [Fa 25 56 4 0, Ld 26 3 25, Mv 27 7, Bo 28 .add 3 (Tm 26) (Tm 27) 3, Fa 29 56 5 0, Ld 30 3 29, Mv 31 9, Bo 32 .add 3 (Tm 30) (Tm 31) 3, Oo 33 (.call { callee := .builtin .min, args := #[Tm 28, Tm 32], argTypes := #[3, 3] }), Fa 34 56 4 0, Ld 35 3 34, Fa 36 56 5 0, Ld 37 3 36, Oo 38 (.call { callee := .builtin .max, args := #[Tm 35, Tm 37], argTypes := #[3, 3] }), Bo 39 .sub 3 (Tm 33) (Tm 38) 3, Fa 40 56 4 1, Ld 41 3 40, Mv 42 8, Bo 43 .add 3 (Tm 41) (Tm 42) 3, Fa 44 56 5 1, Ld 45 3 44, Mv 46 10, Bo 47 .add 3 (Tm 45) (Tm 46) 3, Oo 48 (.call { callee := .builtin .min, args := #[Tm 43, Tm 47], argTypes := #[3, 3] }), Fa 49 56 4 1, Ld 50 3 49, Fa 51 56 5 1, Ld 52 3 51, Oo 53 (.call { callee := .builtin .max, args := #[Tm 50, Tm 52], argTypes := #[3, 3] }), Bo 54 .sub 3 (Tm 48) (Tm 53) 3, Sg 11 39, Sg 12 54]) (.seq (R0 [Mv 55 11, Oo 56 (.call { callee := .builtin .max, args := #[Kn 0, Tm 55], argTypes := #[3, 3] }), Mv 57 12, Oo 58 (.call { callee := .builtin .max, args := #[Kn 0, Tm 57], argTypes := #[3, 3] }), Bo 59 .mul 3 (Tm 56) (Tm 58) 3, Sg 6 59]) .ret)))))⟩
theorem sf40 : sfOf Tryz.f40 = some s40 := by kernel_rfl
theorem hb40 : hasBody Tryz.prog 40 = true := by kernel_rfl
def s41 : SF := ⟨36, [.tmp 8], (.seq (R0 [Oo 4 (.box 23 (Tm 0)), Oo 5 (.box 27 (Tm 1)), Sk 8 (Kn 0)]) (.seq (R1 [Ld 12 27 5, Mv 13 2, Ld 14 23 4, Ld 15 27 5, Mv 16 2, Mv 17 3, Cl 18 73 #[Tm 14, Tm 15, Tm 16, Tm 17] #[23, 27, 30, 3], Cl 19 72 #[Tm 12, Tm 13, Tm 18] #[27, 30, 30], Sg 9 19, Sk 10 (Kn 0)]) (.seq (.seq (R0 [Sk 11 (Kn 0)]) (.block 0 (.loop (.seq (.seq (R0 [Mv 20 11, Mv 21 9, Lq 22 21 64, Bo 23 .lss 3 (Tm 20) (Tm 22) 3]) (.cond (Tm 23) .skip (.exit 0))) (.seq (.block 1 (.seq (R0 [Mv 26 9, Mv 27 11, Ix 28 64 26 27, Fa 29 81 28 0, Ld 30 77 29, Lq 31 30 77, Bo 32 .gtr 3 (Tm 31) (Kn 1) 3]) (.cond (Tm 32) (R0 [Mv 33 10, Bo 34 .add 3 (Tm 33) (Kn 1) 3, Sg 10 34]) .skip))) (R0 [Mv 24 11, Bo 25 .add 3 (Tm 24) (Kn 1) 3, Sg 11 25])))))) (.seq (R0 [Mv 35 10, Sg 8 35]) .ret))))⟩
theorem sf41 : sfOf Tryz.f41 = some s41 := by kernel_rfl
theorem hb41 : hasBody Tryz.prog 41 = true := by kernel_rfl
end Go.Dw.Seat
end
section
namespace Go.Dw.Seat
open Go Go.Dw Go.Proofs
def s42 : SF := ⟨69, [.tmp 2], (.seq (R0 [Sk 2 (Kb false)]) (.seq (.seq (R0 [Mv 4 0, Lq 5 4 31, Cl 6 43 #[Tm 5, Kn 1, Kn 10] #[3, 3, 3], Oo 7 (.unOp .not 4 (Tm 6)), Mv 8 7, Gm 9 0 8 false, Og 10 (.indexAddr 31 (Tm 9) (Kn 0)) 8 false, Gf 11 97 10 0 8 false, Gl 12 3 11 8 false, Gb 13 .neq 3 (Tm 12) (Kn 0) 3 8 false, Pk 14 8 (Kb true) (Tm 13)]) (.cond (Tm 14) (.seq (R0 [Sk 2 (Kb false)]) .ret) .skip)) (.seq (.seq (R0 [Sk 3 (Kn 0)]) (.block 0 (.loop (.seq (.seq (R0 [Mv 15 3, Mv 16 0, Lq 17 16 31, Bo 18 .lss 3 (Tm 15) (Tm 17) 3]) (.cond (Tm 18) .skip (.exit 0))) (.seq (.block 1 (.seq (R1 [Mv 21 0, Mv 22 3, Ix 23 31 21 22, Fa 24 97 23 0, Ld 25 3 24, Cl 26 43 #[Tm 25, Kn 0, Kn 10000] #[3, 3, 3], Oo 27 (.unOp .not 4 (Tm 26)), Mv 28 27, Gm 29 0 28 false, Gm 30 3 28 false, Gx 31 31 29 30 28 false, Gf 32 97 31 1 28 false, Gl 33 3 32 28 false, Gc 34 43 #[Tm 33, Kn 0, Kn 1000] #[3, 3, 3] 28 false, Og 35 (.unOp .not 4 (Tm 34)) 28 false, Pk 36 28 (Kb true) (Tm 35), Mv 37 36, Gm 38 3 37 false, Gb 39 .gtr 3 (Tm 38) (Kn 0) 3 37 false, Gm 40 39 37 false, Gm 41 0 40 true, Gm 42 3 40 true, Gx 43 31 41 42 40 true, Gf 44 97 43 0 40 true, Gl 45 3 44 40 true, Gm 46 0 40 true, Gm 47 3 40 true, Gb 48 .sub 3 (Tm 47) (Kn 1) 3 40 true, Gx 49 31 46 48 40 true, Gf 50 97 49 0 40 true, Gl 51 3 50 40 true, Gb 52 .leq 3 (Tm 45) (Tm 51) 3 40 true, Gm 53 52 40 true, Gm 54 0 53 false, Gm 55 3 53 false, Gx 56 31 54 55 53 false, Gf 57 97 56 1 53 false, Gl 58 3 57 53 false, Gm 59 0 53 false, Gm 60 3 53 false, Gb 61 .sub 3 (Tm 60) (Kn 1) 3 53 false, Gx 62 31 59 61 53 false, Gf 63 97 62 1 53 false, Gl 64 3 63 53 false, Gb 65 .gtr 3 (Tm 58) (Tm 64) 3 53 false, Og 66 (.pick (Tm 53) (Kb true) (Tm 65)) 40 true, Og 67 (.pick (Tm 40) (Tm 66) (Kb false)) 37 false, Pk 68 37 (Kb true) (Tm 67)]) (.cond (Tm 68) (.seq (R0 [Sk 2 (Kb false)]) .ret) .skip))) (R0 [Mv 19 3, Bo 20 .add 3 (Tm 19) (Kn 1) 3, Sg 3 20])))))) (.seq (R0 [Sk 2 (Kb true)]) .ret))))⟩
theorem sf42 : sfOf Tryz.f42 = some s42 := by kernel_rfl
theorem hb42 : hasBody Tryz.prog 42 = true := by kernel_rfl
def s43 : SF := ⟨15, [.tmp 6], (.seq (R0 [Sk 6 (Kb false)]) (.seq (R0 [Mv 7 0, Mv 8 1, Bo 9 .geq 3 (Tm 7) (Tm 8) 3, Mv 10 9, Gm 11 0 10 true, Gm 12 2 10 true, Gb 13 .leq 3 (Tm 11) (Tm 12) 3 10 true, Pk 14 10 (Tm 13) (Kb false), Sg 6 14]) .ret))⟩
theorem sf43 : sfOf Tryz.f43 = some s43 := by kernel_rfl
theorem hb43 : hasBody Tryz.prog 43 = true := by kernel_rfl
def s44 : SF := ⟨25, [.tmp 6], (.seq (R0 [Oo 3 (.box 95 (Tm 0)), Sk 6 (Kn 0)]) (.seq (R0 [Oo 10 (.buildSlice 140 0 #[]), Sk 7 (Kn 0), Sg 8 10]) (.seq (.seq (R0 [Sk 9 (Kn 1)]) (.block 0 (.loop (.seq (.seq (R0 [Mv 11 9, Bo 12 .leq 3 (Tm 11) (Kn 50) 3]) (.cond (Tm 12) .skip (.exit 0))) (.seq (.block 1 (.seq (R0 [Mv 15 8, Ld 16 95 3, Oo 17 (.buildSlice 140 1 #[(0, (Tm 16))]), Oo 18 (.call { callee := .builtin .append, args := #[Tm 15, Tm 17], argTypes := #[140, 140] }), Sg 8 18]) (.seq (R0 [Mv 19 8, Mv 20 1, Mv 21 2, Cl 22 74 #[Tm 19, Tm 20, Tm 21] #[140, 31, 3]]) (.cond (Tm 22) (R0 [Mv 23 9, Sg 7 23]) .skip)))) (R0 [Mv 13 9, Bo 14 .add 3 (Tm 13) (Kn 1) 3, Sg 9 14])))))) (.seq (R0 [Mv 24 7, Sg 6 24]) .ret))))⟩
theorem sf44 : sfOf Tryz.f44 = some s44 := by kernel_rfl
theorem hb44 : hasBody Tryz.prog 44 = true := by kernel_rfl
def s45 : SF := ⟨17, [.cell 2 95], (.seq (R0 [Oo 1 (.box 27 (Tm 0)), Oo 2 (.alloc 95)]) (.seq (R0 [Fa 3 27 1 4, Ld 4 25 3, Fa 5 27 1 3, Fa 6 25 5 0, Ld 7 3 6, Bo 8 .add 3 (Tm 7) (Kn 99) 3, Bo 9 .quo 3 (Tm 8) (Kn 100) 3, Fa 10 27 1 3, Fa 11 25 10 1, Ld 12 3 11, Bo 13 .add 3 (Tm 12) (Kn 99) 3, Bo 14 .quo 3 (Tm 13) (Kn 100) 3, Oo 15 (.build 25 #[(0, (Tm 9)), (1, (Tm 14))]), Oo 16 (.build 95 #[(0, (Tm 4)), (1, (Tm 15))]), Sr 95 (Tm 2) (Tm 16)]) .ret))⟩
theorem sf45 : sfOf Tryz.f45 = some s45 := by kernel_rfl
theorem hb45 : hasBody Tryz.prog 45 = true := by kernel_rfl
def s46 : SF := ⟨15, [.tmp 6], (.seq (R0 [Sk 6 (Kb false)]) (.seq (R0 [Mv 7 0, Mv 8 1, Bo 9 .geq 3 (Tm 7) (Tm 8) 3, Mv 10 9, Gm 11 0 10 true, Gm 12 2 10 true, Gb 13 .leq 3 (Tm 11) (Tm 12) 3 10 true, Pk 14 10 (Tm 13) (Kb false), Sg 6 14]) .ret))⟩
theorem sf46 : sfOf Tryz.f46 = some s46 := by kernel_rfl
theorem hb46 : hasBody Tryz.prog 46 = true := by kernel_rfl
def s47 : SF := ⟨19, [.tmp 6], (.seq (R0 [Oo 3 (.box 25 (Tm 0)), Sk 6 (Kb false)]) (.seq (R0 [Fa 7 25 3 0, Ld 8 3 7, Mv 9 1, Fa 10 25 3 1, Ld 11 3 10, Cl 12 46 #[Tm 8, Tm 9, Tm 11] #[3, 3, 3], Mv 13 12, Gf 14 25 3 1 13 true, Gl 15 3 14 13 true, Gm 16 2 13 true, Gb 17 .leq 3 (Tm 15) (Tm 16) 3 13 true, Pk 18 13 (Tm 17) (Kb false), Sg 6 18]) .ret))⟩
theorem sf47 : sfOf Tryz.f47 = some s47 := by kernel_rfl
theorem hb47 : hasBody Tryz.prog 47 = true := by kernel_rfl
def s48 : SF := ⟨57, [.tmp 4], (.seq (R0 [Oo 2 (.box 23 (Tm 0)), Oo 3 (.box 27 (Tm 1)), Sk 4 (Kn 0)]) (.seq (R0 [Fa 7 23 2 0, Ld 8 3 7, Fa 9 23 2 1, Ld 10 3 9, Oo 11 (.buildSlice 77 2 #[(0, (Tm 8)), (1, (Tm 10))]), Cl 12 55 #[Kn 1, Kn 120, Tm 11] #[3, 3, 77], Mv 13 12, Gf 14 23 2 2 13 true, Gl 15 3 14 13 true, Gf 16 23 2 4 13 true, Gl 17 3 16 13 true, Og 18 (.buildSlice 77 2 #[(0, (Tm 15)), (1, (Tm 17))]) 13 true, Gc 19 55 #[Kn 0, Kn 400, Tm 18] #[3, 3, 77] 13 true, Pk 20 13 (Tm 19) (Kb false), Mv 21 20, Gf 22 23 2 3 21 true, Gl 23 3 22 21 true, Og 24 (.buildSlice 77 1 #[(0, (Tm 23))]) 21 true, Gc 25 55 #[Kn 0, Kn 10, Tm 24] #[3, 3, 77] 21 true, Pk 26 21 (Tm 25) (Kb false), Mv 27 26, Gf 28 23 2 5 27 true, Gl 29 3 28 27 true, Og 30 (.buildSlice 77 1 #[(0, (Tm 29))]) 27 true, Gc 31 55 #[Kn 0, Kn 5000000, Tm 30] #[3, 3, 77] 27 true, Pk 32 27 (Tm 31) (Kb false), Sg 5 32]) (.seq (R0 [Fa 33 27 3 0, Ld 34 3 33, Fa 35 27 3 1, Ld 36 3 35, Fa 37 27 3 2, Ld 38 3 37, Oo 39 (.buildSlice 77 3 #[(0, (Tm 34)), (1, (Tm 36)), (2, (Tm 38))]), Cl 40 55 #[Kn 10, Kn 100, Tm 39] #[3, 3, 77], Mv 41 40, Gf 42 27 3 3 41 true, Gl 43 25 42 41 true, Gc 44 75 #[Tm 43, Kn 0, Kn 5000000] #[25, 3, 3] 41 true, Pk 45 41 (Tm 44) (Kb false), Mv 46 45, Gf 47 27 3 4 46 true, Gl 48 25 47 46 true, Gc 49 75 #[Tm 48, Kn 0, Kn 20000000] #[25, 3, 3] 46 true, Pk 50 46 (Tm 49) (Kb false), Sg 6 50]) (.seq (.seq (R0 [Mv 51 5, Oo 52 (.unOp .not 4 (Tm 51)), Mv 53 52, Gm 54 6 53 false, Og 55 (.unOp .not 4 (Tm 54)) 53 false, Pk 56 53 (Kb true) (Tm 55)]) (.cond (Tm 56) (.seq (R0 [Sk 4 (Kn 2)]) .ret) .skip)) (.seq (R0 [Sk 4 (Kn 0)]) .ret)))))⟩
theorem sf48 : sfOf Tryz.f48 = some s48 := by kernel_rfl
theorem hb48 : hasBody Tryz.prog 48 = true := by kernel_rfl
def s49 : SF := ⟨20, [.cell 2 108], (.seq (R0 [Oo 1 (.box 84 (Tm 0)), Oo 2 (.alloc 108)]) (.seq (R0 [Fa 3 84 1 0, Fa 4 23 3 0, Ld 5 3 4, Fa 6 84 1 0, Fa 7 23 6 3, Ld 8 3 7, Bo 9 .mul 3 (Kn 2) (Tm 8) 3, Bo 10 .add 3 (Tm 5) (Tm 9) 3, Fa 11 84 1 0, Fa 12 23 11 1, Ld 13 3 12, Fa 14 84 1 0, Fa 15 23 14 3, Ld 16 3 15, Bo 17 .mul 3 (Kn 2) (Tm 16) 3, Bo 18 .add 3 (Tm 13) (Tm 17) 3, Oo 19 (.build 108 #[(0, (Tm 10)), (1, (Tm 18))]), Sr 108 (Tm 2) (Tm 19)]) .ret))⟩
theorem sf49 : sfOf Tryz.f49 = some s49 := by kernel_rfl
theorem hb49 : hasBody Tryz.prog 49 = true := by kernel_rfl
def s50 : SF := ⟨29, [.tmp 4], (.seq (R0 [Oo 2 (.box 27 (Tm 0)), Oo 4 (.assign (.const (.slice none 0 0)))]) (.seq (R0 [Mv 9 1, Bo 10 .add 3 (Tm 9) (Kn 1) 3, Oo 11 (.makeSlice 77 (Tm 10) (Tm 10)), Sg 5 11, Sk 6 (Kn 0)]) (.seq (.seq (R0 [Ld 12 27 2, Mv 13 1, Cl 14 76 #[Tm 12, Tm 13] #[27, 3], Lq 15 14 149, Oo 16 (.move (Kn 0))]) (.block 0 (.loop (.seq (R0 [Bo 17 .lss 3 (Tm 16) (Tm 15) 3]) (.seq (.cond (Tm 17) .skip (.exit 0)) (.seq (.block 1 (.seq (R0 [Mv 18 16, Ix 19 149 14 16, Ld 20 4 19, Sg 7 18, Sg 8 20]) (.seq (.seq (R0 [Mv 21 8]) (.cond (Tm 21) (R0 [Mv 22 7, Sg 6 22]) .skip)) (R0 [Mv 23 5, Mv 24 7, Mv 25 6, Ix 26 77 23 24, Sr 3 (Tm 26) (Tm 25)])))) (R0 [Bo 27 .add 3 (Tm 16) (Kn 1) 3, Mv 16 27]))))))) (.seq (R0 [Mv 28 5, Sg 4 28]) .ret))))⟩
theorem sf50 : sfOf Tryz.f50 = some s50 := by kernel_rfl
theorem hb50 : hasBody Tryz.prog 50 = true := by kernel_rfl
def s51 : SF := ⟨27, [.tmp 2], (.seq (R0 [Oo 1 (.box 84 (Tm 0)), Oo 2 (.assign (.const (.pointer none)))]) (.seq (R0 [Ld 6 84 1, Oo 7 (.makeMap 151 none), Oo 8 (.build 154 #[(0, (Tm 6)), (2, (Tm 7))]), Oo 9 (.box 154 (Tm 8)), Sg 3 9]) (.seq (.seq (R0 [Ld 10 84 1, Cl 11 49 #[Tm 10] #[84], Oo 12 (.move (Kn 0))]) (.block 0 (.loop (.seq (R0 [Bo 13 .lss 3 (Tm 12) (Kn 2) 3]) (.seq (.cond (Tm 13) .skip (.exit 0)) (.seq (.block 1 (.seq (R0 [Mv 14 12, Oo 15 (.index 108 (Tm 11) (Tm 12)), Sg 4 14, Sg 5 15]) (R1 [Mv 16 3, Mv 17 4, Fa 18 84 1 1, Ld 19 27 18, Mv 20 5, Cl 21 50 #[Tm 19, Tm 20] #[27, 3], Nk 22 16, Fa 23 154 22 1, Ix 24 152 23 17, Sr 77 (Tm 24) (Tm 21)]))) (R0 [Bo 25 .add 3 (Tm 12) (Kn 1) 3, Mv 12 25]))))))) (.seq (R0 [Mv 26 3, Sg 2 26]) .ret))))⟩
theorem sf51 : sfOf Tryz.f51 = some s51 := by kernel_rfl
theorem hb51 : hasBody Tryz.prog 51 = true := by kernel_rfl
def o52_0 : SO := (Ld 33 115 2)
def o52_1 : SO := (Nk 34 33)
def o52_2 : SO := (Fa 35 154 34 2)
def o52_3 : SO := (Ld 36 151 35)
def o52_4 : SO := (Ld 37 108 3)
def o52_5 : SO := (Oo 38 (.lookup 151 (Tm 36) (Tm 37) true))
def o52_6 : SO := (Mv 32 38)
def o52_7 : SO := (Xt 39 32 0)
def o52_8 : SO := (Oo 6 (.alloc 114))
def o52_9 : SO := (Xt 40 32 1)
def o52_10 : SO := (Sr 114 (Tm 6) (Tm 39))
def o52_11 : SO := (Sg 7 40)
def o52_12 : SO := (Ld 63 115 2)
def o52_13 : SO := (Ld 64 108 12)
def o52_14 : SO := (Ld 67 115 2)
def o52_15 : SO := (Ld 68 108 13)
def o52_16 : SO := (Oo 66 (.field 114 (Tm 65) 0))
def o52_17 : SO := (Oo 70 (.field 114 (Tm 69) 0))
def o52_18 : SO := (Bo 71 .add 3 (Tm 66) (Tm 70) 3)
def o52_19 : SO := (Sg 14 71)
def s52 : SF := ⟨86, [.cell 4 114], (.seq (R0 [Oo 2 (.box 115 (Tm 0)), Oo 3 (.box 108 (Tm 1)), Oo 4 (.alloc 114)]) (.seq (.seq (R0 [Oo 15 (.move (Kn 0))]) (.block 0 (.loop (.seq (R0 [Bo 16 .lss 3 (Tm 15) (Kn 2) 3]) (.seq (.cond (Tm 16) .skip (.exit 0)) (.seq (.block 1 (.seq (R0 [Mv 17 15, Sg 5 17]) (R1 [Mv 18 5, Ld 19 115 2, Mv 20 5, Nk 21 19, Fa 22 154 21 1, Ix 23 152 22 20, Ld 24 77 23, Mv 25 5, Ix 26 108 3 25, Ld 27 3 26, Ix 28 77 24 27, Ld 29 3 28, Ix 30 108 3 18, Sr 3 (Tm 30) (Tm 29)]))) (R0 [Bo 31 .add 3 (Tm 15) (Kn 1) 3, Mv 15 31]))))))) (.seq (.seq (.ord (.op o52_0 (.op o52_1 (.op o52_2 (.op o52_3 (.op o52_4 (.op o52_5 (.op o52_6 (.op o52_7 (.op o52_8 (.alt (.op o52_9 (.op o52_10 (.op o52_11 .done))) (.op o52_10 (.op o52_9 (.op o52_11 .done)))))))))))))) (.seq (R0 [Mv 41 7]) (.cond (Tm 41) (.seq (R0 [Ld 42 114 6, Sr 114 (Tm 4) (Tm 42)]) .ret) .skip))) (.seq (R0 [Oo 43 (.build 112 #[(0, (Kn (-1))), (1, (Kn 0))]), Oo 44 (.build 114 #[(0, (Kn 0)), (1, (Tm 43))]), Oo 8 (.alloc 114), Sr 114 (Tm 8) (Tm 44)]) (.seq (.seq (R0 [Ld 46 115 2, Ld 47 108 3, Cl 48 77 #[Tm 46, Tm 47] #[115, 108], Mv 45 48, Xt 49 45 0, Xt 50 45 1, Sg 9 49, Sg 10 50]) (.seq (R0 [Mv 51 10]) (.cond (Tm 51) (.seq (R0 [Fa 52 114 8 0, Sr 3 (Tm 52) (Kn 1)]) (.seq (R0 [Ld 53 115 2, Ld 54 108 3, Cl 55 78 #[Tm 53, Tm 54] #[115, 108]]) (.block 2 (.rng (Tm 55) [56] (R0 [Oo 11 (.alloc 112), Sr 112 (Tm 11) (Tm 56)]) (.block 3 (.seq (R0 [Ld 58 112 11, Ld 59 108 3, Cl 60 79 #[Tm 58, Tm 59] #[112, 108], Mv 57 60, Xt 61 57 0, Xt 62 57 1, Oo 12 (.alloc 108), Oo 13 (.alloc 108), Sr 108 (Tm 12) (Tm 61), Sr 108 (Tm 13) (Tm 62)]) (.seq (.ord (.op o52_12 (.op o52_13 (.alt (.lop (Cl 65 52 #[Tm 63, Tm 64] #[115, 108]) (.op o52_14 (.op o52_15 (.alt (.op o52_16 (.lop (Cl 69 52 #[Tm 67, Tm 68] #[115, 108]) (.op o52_17 (.op o52_18 (.op o52_19 .done))))) (.lop (Cl 69 52 #[Tm 67, Tm 68] #[115, 108]) (.op o52_16 (.op o52_17 (.op o52_18 (.op o52_19 .done))))))))) (.alt (.op o52_14 (.alt (.lop (Cl 65 52 #[Tm 63, Tm 64] #[115, 108]) (.op o52_15 (.alt (.op o52_16 (.lop (Cl 69 52 #[Tm 67, Tm 68] #[115, 108]) (.op o52_17 (.op o52_18 (.op o52_19 .done))))) (.lop (Cl 69 52 #[Tm 67, Tm 68] #[115, 108]) (.op o52_16 (.op o52_17 (.op o52_18 (.op o52_19 .done)))))))) (.op o52_15 (.lop (Cl 65 52 #[Tm 63, Tm 64] #[115, 108]) (.alt (.op o52_16 (.lop (Cl 69 52 #[Tm 67, Tm 68] #[115, 108]) (.op o52_17 (.op o52_18 (.op o52_19 .done))))) (.lop (Cl 69 52 #[Tm 67, Tm 68] #[115, 108]) (.op o52_16 (.op o52_17 (.op o52_18 (.op o52_19 .done)))))))))) (.op o52_15 (.alt (.lop (Cl 65 52 #[Tm 63, Tm 64] #[115, 108]) (.op o52_14 (.alt (.op o52_16 (.lop (Cl 69 52 #[Tm 67, Tm 68] #[115, 108]) (.op o52_17 (.op o52_18 (.op o52_19 .done))))) (.lop (Cl 69 52 #[Tm 67, Tm 68] #[115, 108]) (.op o52_16 (.op o52_17 (.op o52_18 (.op o52_19 .done)))))))) (.op o52_14 (.lop (Cl 65 52 #[Tm 63, Tm 64] #[115, 108]) (.alt (.op o52_16 (.lop (Cl 69 52 #[Tm 67, Tm 68] #[115, 108]) (.op o52_17 (.op o52_18 (.op o52_19 .done))))) (.lop (Cl 69 52 #[Tm 67, Tm 68] #[115, 108]) (.op o52_16 (.op o52_17 (.op o52_18 (.op o52_19 .done))))))))))))))) (.seq (R0 [Mv 72 14, Fa 73 114 8 0, Ld 74 3 73, Bo 75 .gtr 3 (Tm 72) (Tm 74) 3]) (.cond (Tm 75) (R0 [Mv 76 14, Ld 77 112 11, Oo 78 (.build 114 #[(0, (Tm 76)), (1, (Tm 77))]), Sr 114 (Tm 8) (Tm 78)]) .skip))))))))) .skip))) (.seq (R1 [Ld 79 115 2, Nk 80 79, Fa 81 154 80 2, Ld 82 151 81, Ld 83 108 3, Ld 84 114 8, ⟨none, .mapUpdate 151 (Tm 82) (Tm 83) (Tm 84), none⟩]) (.seq (R0 [Ld 85 114 8, Sr 114 (Tm 4) (Tm 85)]) .ret)))))))⟩
theorem sf52 : sfOf Tryz.f52 = some s52 := by kernel_rfl
theorem hb52 : hasBody Tryz.prog 52 = true := by kernel_rfl
def o53_0 : SO := (Mv 74 0)
def o53_1 : SO := (Ld 75 108 4)
def o53_2 : SO := (Ld 76 108 11)
def o53_3 : SO := (Mv 78 0)
def o53_4 : SO := (Ld 79 108 13)
def o53_5 : SO := (Ld 80 108 12)
def o53_6 : SO := (Oo 82 (.call { callee := .builtin .append, args := #[Tm 77, Tm 81], argTypes := #[30, 30] }))
def o53_7 : SO := (Sg 6 82)
def s53 : SF := ⟨83, [.tmp 6], (.seq (R0 [Oo 4 (.box 108 (Tm 1)), Oo 5 (.box 108 (Tm 2)), Oo 6 (.assign (.const (.slice none 0 0)))]) (.seq (R0 [Mv 14 0, Ld 15 108 5, Cl 16 52 #[Tm 14, Tm 15] #[115, 108], Oo 7 (.alloc 114), Sr 114 (Tm 7) (Tm 16)]) (.seq (.block 0 (.seq (R0 [Fa 18 114 7 0, Ld 19 3 18, Bo 20 .eql 3 (Tm 19) (Kn 0) 3, Sg 17 20]) (.cond (Tm 17) (.seq (R0 [Oo 6 (.assign (.const (.slice none 0 0)))]) .ret) (.seq (R0 [Fa 22 114 7 1, Fa 23 112 22 0, Ld 24 3 23, Bo 25 .eql 3 (Tm 24) (Kn (-1)) 3, Sg 21 25]) (.cond (Tm 21) (.seq (R0 [Mv 27 0, Ld 28 108 5, Cl 29 77 #[Tm 27, Tm 28] #[115, 108], Mv 26 29, Xt 30 26 0, Xt 31 26 1, Sg 8 30, Sg 9 31]) (.seq (R0 [Oo 32 (.indexAddr 108 (Tm 4) (Kn 0)), Ld 33 3 32, Oo 34 (.indexAddr 108 (Tm 4) (Kn 1)), Ld 35 3 34, Mv 36 8, Oo 37 (.build 56 #[(0, (Tm 33)), (1, (Tm 35)), (2, (Tm 36))]), Oo 38 (.buildSlice 30 1 #[(0, (Tm 37))]), Sg 6 38]) .ret)) .skip))))) (.seq (.seq (R0 [Oo 39 (.move (Kn 0))]) (.block 1 (.loop (.seq (R0 [Bo 40 .lss 3 (Tm 39) (Kn 2) 3]) (.seq (.cond (Tm 40) .skip (.exit 1)) (.seq (.block 2 (.seq (R0 [Mv 41 39, Sg 10 41]) (R1 [Mv 42 10, Mv 43 0, Mv 44 10, Nk 45 43, Fa 46 154 45 1, Ix 47 152 46 44, Ld 48 77 47, Mv 49 10, Ix 50 108 5 49, Ld 51 3 50, Ix 52 77 48 51, Ld 53 3 52, Ix 54 108 5 42, Sr 3 (Tm 54) (Tm 53)]))) (R0 [Bo 55 .add 3 (Tm 39) (Kn 1) 3, Mv 39 55]))))))) (.seq (R0 [Fa 57 114 7 1, Ld 58 112 57, Ld 59 108 5, Cl 60 79 #[Tm 58, Tm 59] #[112, 108], Mv 56 60, Xt 61 56 0, Xt 62 56 1, Oo 11 (.alloc 108), Oo 12 (.alloc 108), Sr 108 (Tm 11) (Tm 61), Sr 108 (Tm 12) (Tm 62)]) (.seq (R0 [Ld 63 108 4, Oo 13 (.alloc 108), Sr 108 (Tm 13) (Tm 63)]) (.seq (R1 [Fa 64 114 7 1, Fa 65 112 64 0, Ld 66 3 65, Ix 67 108 13 66, Ld 68 3 67, Fa 69 114 7 1, Fa 70 112 69 1, Ld 71 3 70, Bo 72 .add 3 (Tm 68) (Tm 71) 3, Ix 73 108 13 66, Sr 3 (Tm 73) (Tm 72)]) (.seq (.ord (.op o53_0 (.op o53_1 (.op o53_2 (.alt (.lop (Cl 77 53 #[Tm 74, Tm 75, Tm 76] #[115, 108, 108]) (.op o53_3 (.op o53_4 (.op o53_5 (.lop (Cl 81 53 #[Tm 78, Tm 79, Tm 80] #[115, 108, 108]) (.op o53_6 (.op o53_7 .done))))))) (.alt (.op o53_3 (.alt (.lop (Cl 77 53 #[Tm 74, Tm 75, Tm 76] #[115, 108, 108]) (.op o53_4 (.op o53_5 (.lop (Cl 81 53 #[Tm 78, Tm 79, Tm 80] #[115, 108, 108]) (.op o53_6 (.op o53_7 .done)))))) (.alt (.op o53_4 (.alt (.lop (Cl 77 53 #[Tm 74, Tm 75, Tm 76] #[115, 108, 108]) (.op o53_5 (.lop (Cl 81 53 #[Tm 78, Tm 79, Tm 80] #[115, 108, 108]) (.op o53_6 (.op o53_7 .done))))) (.op o53_5 (.lop (Cl 77 53 #[Tm 74, Tm 75, Tm 76] #[115, 108, 108]) (.lop (Cl 81 53 #[Tm 78, Tm 79, Tm 80] #[115, 108, 108]) (.op o53_6 (.op o53_7 .done))))))) (.op o53_5 (.alt (.lop (Cl 77 53 #[Tm 74, Tm 75, Tm 76] #[115, 108, 108]) (.op o53_4 (.lop (Cl 81 53 #[Tm 78, Tm 79, Tm 80] #[115, 108, 108]) (.op o53_6 (.op o53_7 .done))))) (.op o53_4 (.lop (Cl 77 53 #[Tm 74, Tm 75, Tm 76] #[115, 108, 108]) (.lop (Cl 81 53 #[Tm 78, Tm 79, Tm 80] #[115, 108, 108]) (.op o53_6 (.op o53_7 .done)))))))))) (.alt (.op o53_4 (.alt (.lop (Cl 77 53 #[Tm 74, Tm 75, Tm 76] #[115, 108, 108]) (.op o53_3 (.op o53_5 (.lop (Cl 81 53 #[Tm 78, Tm 79, Tm 80] #[115, 108, 108]) (.op o53_6 (.op o53_7 .done)))))) (.alt (.op o53_3 (.alt (.lop (Cl 77 53 #[Tm 74, Tm 75, Tm 76] #[115, 108, 108]) (.op o53_5 (.lop (Cl 81 53 #[Tm 78, Tm 79, Tm 80] #[115, 108, 108]) (.op o53_6 (.op o53_7 .done))))) (.op o53_5 (.lop (Cl 77 53 #[Tm 74, Tm 75, Tm 76] #[115, 108, 108]) (.lop (Cl 81 53 #[Tm 78, Tm 79, Tm 80] #[115, 108, 108]) (.op o53_6 (.op o53_7 .done))))))) (.op o53_5 (.alt (.lop (Cl 77 53 #[Tm 74, Tm 75, Tm 76] #[115, 108, 108]) (.op o53_3 (.lop (Cl 81 53 #[Tm 78, Tm 79, Tm 80] #[115, 108, 108]) (.op o53_6 (.op o53_7 .done))))) (.op o53_3 (.lop (Cl 77 53 #[Tm 74, Tm 75, Tm 76] #[115, 108, 108]) (.lop (Cl 81 53 #[Tm 78, Tm 79, Tm 80] #[115, 108, 108]) (.op o53_6 (.op o53_7 .done)))))))))) (.op o53_5 (.alt (.lop (Cl 77 53 #[Tm 74, Tm 75, Tm 76] #[115, 108, 108]) (.op o53_3 (.op o53_4 (.lop (Cl 81 53 #[Tm 78, Tm 79, Tm 80] #[115, 108, 108]) (.op o53_6 (.op o53_7 .done)))))) (.alt (.op o53_3 (.alt (.lop (Cl 77 53 #[Tm 74, Tm 75, Tm 76] #[115, 108, 108]) (.op o53_4 (.lop (Cl 81 53 #[Tm 78, Tm 79, Tm 80] #[115, 108, 108]) (.op o53_6 (.op o53_7 .done))))) (.op o53_4 (.lop (Cl 77 53 #[Tm 74, Tm 75, Tm 76] #[115, 108, 108]) (.lop (Cl 81 53 #[Tm 78, Tm 79, Tm 80] #[115, 108, 108]) (.op o53_6 (.op o53_7 .done))))))) (.op o53_4 (.alt (.lop (Cl 77 53 #[Tm 74, Tm 75, Tm 76] #[115, 108, 108]) (.op o53_3 (.lop (Cl 81 53 #[Tm 78, Tm 79, Tm 80] #[115, 108, 108]) (.op o53_6 (.op o53_7 .done))))) (.op o53_3 (.lop (Cl 77 53 #[Tm 74, Tm 75, Tm 76] #[115, 108, 108]) (.lop (Cl 81 53 #[Tm 78, Tm 79, Tm 80] #[115, 108, 108]) (.op o53_6 (.op o53_7 .done))))))))))))))))) .ret))))))))⟩
theorem sf53 : sfOf Tryz.f53 = some s53 := by kernel_rfl
theorem hb53 : hasBody Tryz.prog 53 = true := by kernel_rfl
def s54 : SF := ⟨21, [.cell 6 84, .tmp 7], (.seq (R0 [Oo 3 (.box 23 (Tm 0)), Oo 4 (.box 27 (Tm 1)), Oo 6 (.alloc 84), Sk 7 (Kn 0)]) (.seq (.seq (R0 [Ld 9 23 3, Ld 10 27 4, Cl 11 48 #[Tm 9, Tm 10] #[23, 27], Sg 8 11]) (.seq (R0 [Mv 12 8, Bo 13 .neq 34 (Tm 12) (Kn 0) 34]) (.cond (Tm 13) (.seq (R0 [Oo 14 (.build 84 #[]), Mv 15 8, Sr 84 (Tm 6) (Tm 14), Sg 7 15]) .ret) .skip))) (.seq (R1 [Ld 16 23 3, Ld 17 27 4, Oo 18 (.build 84 #[(0, (Tm 16)), (1, (Tm 17))]), Mv 19 2, Cl 20 80 #[Tm 19] #[131], Sr 84 (Tm 6) (Tm 18), Sg 7 20]) .ret)))⟩
theorem sf54 : sfOf Tryz.f54 = some s54 := by kernel_rfl
theorem hb54 : hasBody Tryz.prog 54 = true := by kernel_rfl
def s55 : SF := ⟨11, [.tmp 6], (.seq (R0 [Oo 3 (.box 3 (Tm 0)), Oo 4 (.box 3 (Tm 1)), Sk 6 (Kb false)]) (.seq (R0 [Mv 7 2, Oo 8 (.makeFunc (.func 82) #[] #[Tm 3, Tm 4]), Cl 9 81 #[Tm 7, Tm 8] #[77, 164], Oo 10 (.unOp .not 4 (Tm 9)), Sg 6 10]) .ret))⟩
theorem sf55 : sfOf Tryz.f55 = some s55 := by kernel_rfl
theorem hb55 : hasBody Tryz.prog 55 = true := by kernel_rfl
def s56 : SF := ⟨5, [.tmp 2], (.seq (R0 [Oo 2 (.assign (.const (.slice none 0 0)))]) (.seq (R0 [Mv 3 0, Cl 4 83 #[.const (.slice none 0 0), Tm 3] #[64, 165], Sg 2 4]) .ret))⟩
theorem sf56 : sfOf Tryz.f56 = some s56 := by kernel_rfl
theorem hb56 : hasBody Tryz.prog 56 = true := by kernel_rfl
def s57 : SF := ⟨59, [.tmp 4], (.seq (R0 [Oo 2 (.box 71 (Tm 0)), Sk 4 (Kn 0)]) (.seq (R0 [Oo 5 (.assign (.func 84))]) (.seq (.block 0 (.seq (.seq (R0 [Fa 10 71 2 0, Ld 11 3 10, Oo 12 (.buildSlice 77 1 #[(0, (Tm 11))]), Cl 13 55 #[Kn 1, Kn 2000, Tm 12] #[3, 3, 77], Oo 14 (.unOp .not 4 (Tm 13)), Sg 9 14]) (.cond (Tm 9) .skip (.seq (R0 [Fa 15 71 2 0, Ld 16 3 15, Fa 17 71 2 1, Ld 18 3 17, Fa 19 71 2 2, Ld 20 3 19, Oo 21 (.buildSlice 77 2 #[(0, (Tm 18)), (1, (Tm 20))]), Cl 22 55 #[Kn 0, Tm 16, Tm 21] #[3, 3, 77], Oo 23 (.unOp .not 4 (Tm 22)), Sg 9 23]) (.cond (Tm 9) .skip (.seq (R0 [Fa 24 71 2 1, Ld 25 3 24, Fa 26 71 2 2, Ld 27 3 26, Bo 28 .geq 3 (Tm 25) (Tm 27) 3, Sg 9 28]) (.cond (Tm 9) .skip (R0 [Fa 29 71 2 3, Ld 30 3 29, Fa 31 71 2 4, Ld 32 3 31, Oo 33 (.buildSlice 77 2 #[(0, (Tm 30)), (1, (Tm 32))]), Cl 34 55 #[Kn 0, Kn 40000000, Tm 33] #[3, 3, 77], Oo 35 (.unOp .not 4 (Tm 34)), Sg 9 35]))))))) (.cond (Tm 9) (.seq (R0 [Sk 4 (Kn 2)]) .ret) (.seq (R0 [Mv 37 1, Lq 38 37 76, Bo 39 .gtr 3 (Tm 38) (Kn 7) 3, Sg 36 39]) (.cond (Tm 36) (.seq (R0 [Sk 4 (Kn 5)]) .ret) (.seq (R0 [Mv 41 1, Mv 42 5, Cl 43 85 #[Tm 41, Tm 42] #[76, 167], Sg 40 43]) (.cond (Tm 40) (.seq (R0 [Sk 4 (Kn 4)]) .ret) .skip))))))) (.seq (R0 [Sk 6 (Kn 0)]) (.seq (.seq (R0 [Mv 44 1, Lq 45 44 76, Oo 46 (.move (Kn 0))]) (.block 1 (.loop (.seq (R0 [Bo 47 .lss 3 (Tm 46) (Tm 45) 3]) (.seq (.cond (Tm 47) .skip (.exit 1)) (.seq (.block 2 (.seq (R0 [Ix 48 76 44 46, Ld 49 75 48, Oo 8 (.alloc 75), Sr 75 (Tm 8) (Tm 49)]) (R0 [Mv 50 6, Fa 51 75 8 0, Ld 52 3 51, Bo 53 .add 3 (Tm 50) (Tm 52) 3, Sg 6 53]))) (R0 [Bo 54 .add 3 (Tm 46) (Kn 1) 3, Mv 46 54]))))))) (.seq (.seq (R0 [Mv 55 6, Fa 56 71 2 0, Ld 57 3 56, Bo 58 .gtr 3 (Tm 55) (Tm 57) 3]) (.cond (Tm 58) (.seq (R0 [Sk 4 (Kn 3)]) .ret) .skip)) (.seq (R0 [Sk 4 (Kn 0)]) .ret)))))))⟩
theorem sf57 : sfOf Tryz.f57 = some s57 := by kernel_rfl
theorem hb57 : hasBody Tryz.prog 57 = true := by kernel_rfl
def o58_0 : SO := (Ld 47 25 2)
def o58_1 : SO := (Ld 48 25 3)
def o58_2 : SO := (Sr 25 (Tm 2) (Tm 47))
def o58_3 : SO := (Sr 25 (Tm 3) (Tm 48))
def s58 : SF := ⟨49, [.cell 2 25, .cell 3 25], (.seq (R0 [Oo 1 (.box 123 (Tm 0)), Oo 2 (.alloc 25), Oo 3 (.alloc 25)]) (.seq (R0 [Sk 4 (Kn 0)]) (.seq (.seq (R0 [Fa 8 123 1 1, Ld 9 76 8, Lq 10 9 76, Oo 11 (.move (Kn 0))]) (.block 0 (.loop (.seq (R0 [Bo 12 .lss 3 (Tm 11) (Tm 10) 3]) (.seq (.cond (Tm 12) .skip (.exit 0)) (.seq (.block 1 (.seq (R0 [Ix 13 76 9 11, Ld 14 75 13, Oo 6 (.alloc 75), Sr 75 (Tm 6) (Tm 14)]) (.seq (R0 [Mv 15 4, Bo 16 .mul 3 (Kn 2) (Tm 15) 3, Fa 17 75 6 0, Ld 18 3 17, Bo 19 .add 3 (Tm 16) (Tm 18) 3, Sg 7 19]) (.seq (R1 [Ld 20 25 2, Fa 21 75 6 1, Ld 22 25 21, Fa 23 123 1 0, Fa 24 71 23 2, Ld 25 3 24, Bo 26 .mul 3 (Kn 2) (Tm 25) 3, Mv 27 7, Bo 28 .sub 3 (Tm 26) (Tm 27) 3, Cl 29 87 #[Tm 22, Tm 28] #[25, 3], Cl 30 86 #[Tm 20, Tm 29] #[25, 25], Ld 31 25 3, Fa 32 75 6 1, Ld 33 25 32, Mv 34 7, Fa 35 123 1 0, Fa 36 71 35 1, Ld 37 3 36, Bo 38 .mul 3 (Kn 2) (Tm 37) 3, Bo 39 .sub 3 (Tm 34) (Tm 38) 3, Cl 40 87 #[Tm 33, Tm 39] #[25, 3], Cl 41 86 #[Tm 31, Tm 40] #[25, 25], Sr 25 (Tm 2) (Tm 30), Sr 25 (Tm 3) (Tm 41)]) (R0 [Mv 42 4, Fa 43 75 6 0, Ld 44 3 43, Bo 45 .add 3 (Tm 42) (Tm 44) 3, Sg 4 45]))))) (R0 [Bo 46 .add 3 (Tm 11) (Kn 1) 3, Mv 11 46]))))))) (.seq (.ord (.op o58_0 (.alt (.op o58_1 (.op o58_2 (.op o58_3 .done))) (.op o58_2 (.op o58_1 (.op o58_3 .done)))))) .ret))))⟩
theorem sf58 : sfOf Tryz.f58 = some s58 := by kernel_rfl
theorem hb58 : hasBody Tryz.prog 58 = true := by kernel_rfl
def s59 : SF := ⟨16, [.cell 4 25], (.seq (R0 [Oo 2 (.box 25 (Tm 0)), Oo 3 (.box 3 (Tm 1)), Oo 4 (.alloc 25)]) (.seq (R0 [Oo 6 (.makeFunc (.func 88) #[] #[Tm 3]), Sg 5 6]) (.seq (R1 [Mv 7 5, Fa 8 25 2 0, Ld 9 3 8, Oo 10 (.call { callee := .value (Tm 7), args := #[Tm 9], argTypes := #[3] }), Mv 11 5, Fa 12 25 2 1, Ld 13 3 12, Oo 14 (.call { callee := .value (Tm 11), args := #[Tm 13], argTypes := #[3] }), Oo 15 (.build 25 #[(0, (Tm 10)), (1, (Tm 14))]), Sr 25 (Tm 4) (Tm 15)]) .ret)))⟩
theorem sf59 : sfOf Tryz.f59 = some s59 := by kernel_rfl
theorem hb59 : hasBody Tryz.prog 59 = true := by kernel_rfl
def s60 : SF := ⟨11, [.tmp 2], (.seq (R0 [Oo 1 (.box 123 (Tm 0)), Sk 2 (Kn 0)]) (.seq (R0 [Fa 3 123 1 0, Fa 4 71 3 2, Ld 5 3 4, Fa 6 123 1 0, Fa 7 71 6 1, Ld 8 3 7, Bo 9 .sub 3 (Tm 5) (Tm 8) 3, Bo 10 .mul 3 (Kn 2) (Tm 9) 3, Sg 2 10]) .ret))⟩
theorem sf60 : sfOf Tryz.f60 = some s60 := by kernel_rfl
theorem hb60 : hasBody Tryz.prog 60 = true := by kernel_rfl
def s61 : SF := ⟨4, [.tmp 2], (.seq (R0 [Oo 1 (.box 3 (Tm 0)), Oo 2 (.assign (.const .nilFunc))]) (.seq (R0 [Oo 3 (.makeFunc (.func 89) #[] #[Tm 1]), Sg 2 3]) .ret))⟩
theorem sf61 : sfOf Tryz.f61 = some s61 := by kernel_rfl
theorem hb61 : hasBody Tryz.prog 61 = true := by kernel_rfl
def s62 : SF := ⟨28, [.tmp 2], (.seq (R0 [Oo 1 (.box 123 (Tm 0)), Sk 2 (Kb false)]) (.seq (R0 [Ld 6 123 1, Cl 7 58 #[Tm 6] #[123], Mv 5 7, Xt 8 5 0, Xt 9 5 1, Oo 3 (.alloc 25), Oo 4 (.alloc 25), Sr 25 (Tm 3) (Tm 8), Sr 25 (Tm 4) (Tm 9)]) (.seq (R1 [Ld 10 25 3, Fa 11 123 1 0, Fa 12 71 11 3, Ld 13 3 12, Ld 14 123 1, Cl 15 60 #[Tm 14] #[123], Bo 16 .mul 3 (Tm 13) (Tm 15) 3, Cl 17 75 #[Tm 10, Kn 0, Tm 16] #[25, 3, 3], Mv 18 17, Gl 19 25 4 18 true, Gf 20 123 1 0 18 true, Gf 21 71 20 4 18 true, Gl 22 3 21 18 true, Gl 23 123 1 18 true, Gc 24 60 #[Tm 23] #[123] 18 true, Gb 25 .mul 3 (Tm 22) (Tm 24) 3 18 true, Gc 26 75 #[Tm 19, Kn 0, Tm 25] #[25, 3, 3] 18 true, Pk 27 18 (Tm 26) (Kb false), Sg 2 27]) .ret)))⟩
theorem sf62 : sfOf Tryz.f62 = some s62 := by kernel_rfl
theorem hb62 : hasBody Tryz.prog 62 = true := by kernel_rfl
def s63 : SF := ⟨8, [.tmp 2], (.seq (R0 [Oo 2 (.assign (.const (.slice none 0 0)))]) (.seq (.seq (R0 [Mv 3 0, Bo 4 .eql 77 (Tm 3) (.const (.slice none 0 0)) 77]) (.cond (Tm 4) (.seq (R0 [Oo 2 (.assign (.const (.slice none 0 0)))]) .ret) .skip)) (.seq (R0 [Oo 5 (.buildSlice 77 0 #[]), Mv 6 0, Oo 7 (.call { callee := .builtin .append, args := #[Tm 5, Tm 6], argTypes := #[77, 77] }), Sg 2 7]) .ret)))⟩
theorem sf63 : sfOf Tryz.f63 = some s63 := by kernel_rfl
theorem hb63 : hasBody Tryz.prog 63 = true := by kernel_rfl
def s64 : SF := ⟨48, [.tmp 4, .tmp 5], (.seq (R0 [Oo 2 (.box 84 (Tm 0)), Sk 4 (Kn 0), Sk 5 (Kn 0)]) (.seq (R0 [Ld 11 84 2, Cl 12 49 #[Tm 11] #[84], Oo 13 (.buildSlice 172 0 #[]), Oo 6 (.alloc 108), Sr 108 (Tm 6) (Tm 12), Sg 7 13]) (.seq (.seq (R0 [Mv 14 1, Lq 15 14 30, Oo 16 (.move (Kn 0))]) (.block 0 (.loop (.seq (R0 [Bo 17 .lss 3 (Tm 16) (Tm 15) 3]) (.seq (.cond (Tm 17) .skip (.exit 0)) (.seq (.block 1 (.seq (R0 [Mv 18 16, Ix 19 30 14 16, Ld 20 56 19, Oo 9 (.alloc 56), Sg 8 18, Sr 56 (Tm 9) (Tm 20)]) (.seq (R0 [Ld 21 84 2, Ld 22 56 9, Cl 23 66 #[Tm 21, Tm 22] #[84, 56], Oo 10 (.alloc 136), Sr 136 (Tm 10) (Tm 23)]) (.seq (.block 2 (.seq (.seq (R0 [Fa 25 136 10 1, Oo 26 (.indexAddr 108 (Tm 25) (Kn 0)), Ld 27 3 26, Oo 28 (.indexAddr 108 (Tm 6) (Kn 0)), Ld 29 3 28, Bo 30 .gtr 3 (Tm 27) (Tm 29) 3, Sg 24 30]) (.cond (Tm 24) .skip (R0 [Fa 31 136 10 1, Oo 32 (.indexAddr 108 (Tm 31) (Kn 1)), Ld 33 3 32, Oo 34 (.indexAddr 108 (Tm 6) (Kn 1)), Ld 35 3 34, Bo 36 .gtr 3 (Tm 33) (Tm 35) 3, Sg 24 36]))) (.cond (Tm 24) (.seq (R0 [Mv 37 8, Sg 4 37, Sk 5 (Kn 1)]) .ret) (.seq (R0 [Mv 39 7, Oo 40 (.makeFunc (.func 92) #[] #[Tm 10]), Cl 41 91 #[Tm 39, Tm 40] #[172, 174], Sg 38 41]) (.cond (Tm 38) (.seq (R0 [Mv 42 8, Sg 4 42, Sk 5 (Kn 2)]) .ret) .skip))))) (R0 [Mv 43 7, Ld 44 136 10, Oo 45 (.buildSlice 172 1 #[(0, (Tm 44))]), Oo 46 (.call { callee := .builtin .append, args := #[Tm 43, Tm 45], argTypes := #[172, 172] }), Sg 7 46]))))) (R0 [Bo 47 .add 3 (Tm 16) (Kn 1) 3, Mv 16 47]))))))) (.seq (R0 [Sk 4 (Kn 0), Sk 5 (Kn 0)]) .ret))))⟩
theorem sf64 : sfOf Tryz.f64 = some s64 := by kernel_rfl
theorem hb64 : hasBody Tryz.prog 64 = true := by kernel_rfl
def s65 : SF := ⟨60, [], (.seq (R0 [Ld 12 30 1, Lq 13 12 30, Oo 14 (.move (Kn 0))]) (.block 0 (.loop (.seq (R0 [Bo 15 .lss 3 (Tm 14) (Tm 13) 3]) (.seq (.cond (Tm 15) .skip (.exit 0)) (.seq (.block 1 (.seq (R0 [Ix 16 30 12 14, Ld 17 56 16, Oo 6 (.alloc 56), Sr 56 (Tm 6) (Tm 17)]) (.seq (R0 [Oo 7 (.alloc 81)]) (.seq (R0 [Sk 8 (Kn 0)]) (.seq (.seq (R0 [Ld 18 30 2, Lq 19 18 30, Oo 20 (.move (Kn 0))]) (.block 2 (.loop (.seq (R0 [Bo 21 .lss 3 (Tm 20) (Tm 19) 3]) (.seq (.cond (Tm 21) .skip (.exit 2)) (.seq (.block 3 (.seq (R0 [Mv 22 20, Ix 23 30 18 20, Ld 24 56 23, Oo 10 (.alloc 56), Sg 9 22, Sr 56 (Tm 10) (Tm 24)]) (.seq (R1 [Ld 25 84 3, Ld 26 56 6, Cl 27 66 #[Tm 25, Tm 26] #[84, 56], Ld 28 84 3, Ld 29 56 10, Cl 30 66 #[Tm 28, Tm 29] #[84, 56], Cl 31 67 #[Tm 27, Tm 30] #[136, 136], Sg 11 31]) (.seq (R0 [Mv 32 11, Bo 33 .gtr 3 (Tm 32) (Kn 0) 3]) (.cond (Tm 33) (.seq (R0 [Fa 34 81 7 0, Ld 35 77 34, Mv 36 9, Oo 37 (.buildSlice 77 1 #[(0, (Tm 36))]), Oo 38 (.call { callee := .builtin .append, args := #[Tm 35, Tm 37], argTypes := #[77, 77] }), Fa 39 81 7 0, Sr 77 (Tm 39) (Tm 38)]) (R0 [Mv 40 8, Mv 41 11, Bo 42 .add 3 (Tm 40) (Tm 41) 3, Sg 8 42])) .skip))))) (R0 [Bo 43 .add 3 (Tm 20) (Kn 1) 3, Mv 20 43]))))))) (.seq (R0 [Mv 44 8, Bo 45 .mul 3 (Kn 1000) (Tm 44) 3, Fa 46 84 3 1, Fa 47 27 46 0, Ld 48 3 47, Fa 49 84 3 1, Fa 50 27 49 1, Ld 51 3 50, Bo 52 .mul 3 (Tm 48) (Tm 51) 3, Bo 53 .quo 3 (Tm 45) (Tm 52) 3, Fa 54 81 7 1, Sr 3 (Tm 54) (Tm 53)]) (.seq (R0 [Mv 55 0, Ld 56 81 7, Oo 57 (.call { callee := .value (Tm 55), args := #[Tm 56], argTypes := #[81] }), Oo 58 (.unOp .not 4 (Tm 57))]) (.cond (Tm 58) .ret .skip)))))))) (R0 [Bo 59 .add 3 (Tm 14) (Kn 1) 3, Mv 14 59])))))))⟩
theorem sf65 : sfOf Tryz.f65 = some s65 := by kernel_rfl
theorem hb65 : hasBody Tryz.prog 65 = true := by kernel_rfl
def s66 : SF := ⟨29, [.cell 4 136], (.seq (R0 [Oo 2 (.box 84 (Tm 0)), Oo 3 (.box 56 (Tm 1)), Oo 4 (.alloc 136)]) (.seq (R1 [Fa 6 84 2 1, Ld 7 27 6, Cl 8 93 #[Tm 7] #[27], Fa 9 56 3 2, Ld 10 4 9, Oo 11 (.lookup 175 (Tm 8) (Tm 10) false), Oo 5 (.alloc 108), Sr 108 (Tm 5) (Tm 11)]) (.seq (R0 [Fa 12 56 3 0, Ld 13 3 12, Fa 14 56 3 1, Ld 15 3 14, Oo 16 (.build 108 #[(0, (Tm 13)), (1, (Tm 15))]), Fa 17 56 3 0, Ld 18 3 17, Oo 19 (.indexAddr 108 (Tm 5) (Kn 0)), Ld 20 3 19, Bo 21 .add 3 (Tm 18) (Tm 20) 3, Fa 22 56 3 1, Ld 23 3 22, Oo 24 (.indexAddr 108 (Tm 5) (Kn 1)), Ld 25 3 24, Bo 26 .add 3 (Tm 23) (Tm 25) 3, Oo 27 (.build 108 #[(0, (Tm 21)), (1, (Tm 26))]), Oo 28 (.build 136 #[(0, (Tm 16)), (1, (Tm 27))]), Sr 136 (Tm 4) (Tm 28)]) .ret)))⟩
theorem sf66 : sfOf Tryz.f66 = some s66 := by kernel_rfl
theorem hb66 : hasBody Tryz.prog 66 = true := by kernel_rfl
def s67 : SF := ⟨34, [.tmp 4], (.seq (R0 [Oo 2 (.box 136 (Tm 0)), Oo 3 (.box 136 (Tm 1)), Sk 4 (Kn 0)]) (.seq (R0 [Sk 5 (Kn 1)]) (.seq (.seq (R0 [Oo 7 (.move (Kn 0))]) (.block 0 (.loop (.seq (R0 [Bo 8 .lss 3 (Tm 7) (Kn 2) 3]) (.seq (.cond (Tm 8) .skip (.exit 0)) (.seq (.block 1 (.seq (R0 [Mv 9 7, Sg 6 9]) (R1 [Mv 10 5, Mv 11 6, Fa 12 136 2 1, Ix 13 108 12 11, Ld 14 3 13, Mv 15 6, Fa 16 136 3 1, Ix 17 108 16 15, Ld 18 3 17, Oo 19 (.call { callee := .builtin .min, args := #[Tm 14, Tm 18], argTypes := #[3, 3] }), Mv 20 6, Fa 21 136 2 0, Ix 22 108 21 20, Ld 23 3 22, Mv 24 6, Fa 25 136 3 0, Ix 26 108 25 24, Ld 27 3 26, Oo 28 (.call { callee := .builtin .max, args := #[Tm 23, Tm 27], argTypes := #[3, 3] }), Bo 29 .sub 3 (Tm 19) (Tm 28) 3, Oo 30 (.call { callee := .builtin .max, args := #[Kn 0, Tm 29], argTypes := #[3, 3] }), Bo 31 .mul 3 (Tm 10) (Tm 30) 3, Sg 5 31]))) (R0 [Bo 32 .add 3 (Tm 7) (Kn 1) 3, Mv 7 32]))))))) (.seq (R0 [Mv 33 5, Sg 4 33]) .ret))))⟩
theorem sf67 : sfOf Tryz.f67 = some s67 := by kernel_rfl
theorem hb67 : hasBody Tryz.prog 67 = true := by kernel_rfl
def s68 : SF := ⟨15, [.tmp 4], (.seq (R0 [Sk 4 (Kn 0)]) (.seq (R0 [Oo 5 (.assign (.func 94))]) (.seq (.block 0 (.seq (R0 [Mv 7 0, Lq 8 7 140, Mv 9 1, Bo 10 .gtr 3 (Tm 8) (Tm 9) 3, Sg 6 10]) (.cond (Tm 6) (.seq (R0 [Sk 4 (Kn 5)]) .ret) (.seq (R0 [Mv 12 0, Mv 13 5, Cl 14 96 #[Tm 12, Tm 13] #[140, 177], Sg 11 14]) (.cond (Tm 11) (.seq (R0 [Sk 4 (Kn 2)]) .ret) .skip))))) (.seq (R0 [Sk 4 (Kn 0)]) .ret))))⟩
theorem sf68 : sfOf Tryz.f68 = some s68 := by kernel_rfl
theorem hb68 : hasBody Tryz.prog 68 = true := by kernel_rfl
def s69 : SF := ⟨76, [.cell 4 142, .tmp 5], (.seq (R0 [Oo 4 (.alloc 142), Sk 5 (Kn 0)]) (.seq (.seq (R0 [Mv 8 0, Lq 9 8 31, Oo 10 (.buildSlice 77 1 #[(0, (Tm 9))]), Cl 11 97 #[Kn 1, Kn 10, Tm 10] #[3, 3, 77], Oo 12 (.unOp .not 4 (Tm 11)), Mv 13 12, Gm 14 0 13 false, Og 15 (.indexAddr 31 (Tm 14) (Kn 0)) 13 false, Gf 16 97 15 0 13 false, Gl 17 3 16 13 false, Gb 18 .neq 3 (Tm 17) (Kn 0) 3 13 false, Pk 19 13 (Kb true) (Tm 18)]) (.cond (Tm 19) (.seq (R0 [Ld 20 142 4, Sr 142 (Tm 4) (Tm 20), Sk 5 (Kn 4)]) .ret) .skip)) (.seq (.seq (R0 [Mv 21 0, Lq 22 21 31, Oo 23 (.move (Kn 0))]) (.block 0 (.loop (.seq (R0 [Bo 24 .lss 3 (Tm 23) (Tm 22) 3]) (.seq (.cond (Tm 24) .skip (.exit 0)) (.seq (.block 1 (.seq (R0 [Mv 25 23, Ix 26 31 21 23, Ld 27 97 26, Oo 7 (.alloc 97), Sg 6 25, Sr 97 (Tm 7) (Tm 27)]) (.seq (R1 [Fa 28 97 7 0, Ld 29 3 28, Oo 30 (.buildSlice 77 1 #[(0, (Tm 29))]), Cl 31 97 #[Kn 0, Kn 10000, Tm 30] #[3, 3, 77], Oo 32 (.unOp .not 4 (Tm 31)), Mv 33 32, Gf 34 97 7 1 33 false, Gl 35 3 34 33 false, Og 36 (.buildSlice 77 1 #[(0, (Tm 35))]) 33 false, Gc 37 97 #[Kn 0, Kn 1000, Tm 36] #[3, 3, 77] 33 false, Og 38 (.unOp .not 4 (Tm 37)) 33 false, Pk 39 33 (Kb true) (Tm 38), Mv 40 39, Gm 41 6 40 false, Gb 42 .gtr 3 (Tm 41) (Kn 0) 3 40 false, Gm 43 42 40 false, Gf 44 97 7 0 43 true, Gl 45 3 44 43 true, Gm 46 0 43 true, Gm 47 6 43 true, Gb 48 .sub 3 (Tm 47) (Kn 1) 3 43 true, Gx 49 31 46 48 43 true, Gf 50 97 49 0 43 true, Gl 51 3 50 43 true, Gb 52 .leq 3 (Tm 45) (Tm 51) 3 43 true, Gm 53 52 43 true, Gf 54 97 7 1 53 false, Gl 55 3 54 53 false, Gm 56 0 53 false, Gm 57 6 53 false, Gb 58 .sub 3 (Tm 57) (Kn 1) 3 53 false, Gx 59 31 56 58 53 false, Gf 60 97 59 1 53 false, Gl 61 3 60 53 false, Gb 62 .gtr 3 (Tm 55) (Tm 61) 3 53 false, Og 63 (.pick (Tm 53) (Kb true) (Tm 62)) 43 true, Og 64 (.pick (Tm 43) (Tm 63) (Kb false)) 40 false, Pk 65 40 (Kb true) (Tm 64)]) (.cond (Tm 65) (.seq (R0 [Ld 66 142 4, Sr 142 (Tm 4) (Tm 66), Sk 5 (Kn 4)]) .ret) .skip)))) (R0 [Bo 67 .add 3 (Tm 23) (Kn 1) 3, Mv 23 67]))))))) (.seq (.seq (R0 [Mv 68 1, Oo 69 (.buildSlice 77 1 #[(0, (Tm 68))]), Cl 70 97 #[Kn 0, Kn 10000, Tm 69] #[3, 3, 77], Oo 71 (.unOp .not 4 (Tm 70))]) (.cond (Tm 71) (.seq (R0 [Ld 72 142 4, Sr 142 (Tm 4) (Tm 72), Sk 5 (Kn 3)]) .ret) .skip)) (.seq (R0 [Mv 73 0, Mv 74 1, Oo 75 (.build 142 #[(0, (Tm 73)), (1, (Tm 74))]), Sr 142 (Tm 4) (Tm 75), Sk 5 (Kn 0)]) .ret)))))⟩
theorem sf69 : sfOf Tryz.f69 = some s69 := by kernel_rfl
theorem hb69 : hasBody Tryz.prog 69 = true := by kernel_rfl
def s70 : SF := ⟨11, [.tmp 4], (.seq (R0 [Oo 2 (.box 95 (Tm 0)), Sk 4 (Kn 0)]) (.seq (R0 [Fa 5 95 2 0, Fa 6 25 5 0, Ld 7 3 6, Mv 8 1, Bo 9 .mul 3 (Tm 7) (Tm 8) 3, Bo 10 .quo 3 (Tm 9) (Kn 1000) 3, Sg 4 10]) .ret))⟩
theorem sf70 : sfOf Tryz.f70 = some s70 := by kernel_rfl
theorem hb70 : hasBody Tryz.prog 70 = true := by kernel_rfl
def s71 : SF := ⟨21, [.tmp 2], (.seq (R0 [Oo 1 (.box 142 (Tm 0)), Sk 2 (Kn 0)]) (.seq (.seq (R0 [Fa 5 142 1 0, Ld 6 31 5, Lq 7 6 31, Oo 8 (.move (Kn 0))]) (.block 0 (.loop (.seq (R0 [Bo 9 .lss 3 (Tm 8) (Tm 7) 3]) (.seq (.cond (Tm 9) .skip (.exit 0)) (.seq (.block 1 (.seq (R0 [Ix 10 31 6 8, Ld 11 97 10, Oo 4 (.alloc 97), Sr 97 (Tm 4) (Tm 11)]) (.seq (R0 [Fa 12 97 4 0, Ld 13 3 12, Fa 14 142 1 1, Ld 15 3 14, Bo 16 .leq 3 (Tm 13) (Tm 15) 3]) (.cond (Tm 16) (R0 [Fa 17 97 4 1, Ld 18 3 17, Sg 2 18]) .skip)))) (R0 [Bo 19 .add 3 (Tm 8) (Kn 1) 3, Mv 8 19]))))))) (.seq (R0 [Mv 20 2, Sg 2 20]) .ret)))⟩
theorem sf71 : sfOf Tryz.f71 = some s71 := by kernel_rfl
theorem hb71 : hasBody Tryz.prog 71 = true := by kernel_rfl
def s72 : SF := ⟨62, [.tmp 6], (.seq (R0 [Oo 3 (.box 27 (Tm 0)), Oo 6 (.assign (.const (.slice none 0 0)))]) (.seq (R0 [Oo 13 (.buildSlice 64 0 #[]), Sg 7 13]) (.seq (.seq (R0 [Sk 8 (Kn 0)]) (.block 0 (.loop (.seq (.seq (R0 [Mv 14 8, Mv 15 2, Lq 16 15 30, Bo 17 .lss 3 (Tm 14) (Tm 16) 3]) (.cond (Tm 17) .skip (.exit 0))) (.seq (.block 1 (.seq (R0 [Oo 20 (.build 81 #[]), Oo 9 (.alloc 81), Sr 81 (Tm 9) (Tm 20), Sk 10 (Kn 0)]) (.seq (.seq (R0 [Sk 11 (Kn 0)]) (.block 2 (.loop (.seq (.seq (R0 [Mv 21 11, Mv 22 1, Lq 23 22 30, Bo 24 .lss 3 (Tm 21) (Tm 23) 3]) (.cond (Tm 24) .skip (.exit 2))) (.seq (.block 3 (.seq (R1 [Ld 27 27 3, Mv 28 2, Mv 29 8, Ix 30 30 28 29, Ld 31 56 30, Mv 32 1, Mv 33 11, Ix 34 30 32 33, Ld 35 56 34, Cl 36 40 #[Tm 27, Tm 31, Tm 35] #[27, 56, 56], Sg 12 36]) (.seq (R0 [Mv 37 12, Bo 38 .gtr 3 (Tm 37) (Kn 0) 3]) (.cond (Tm 38) (R0 [Fa 39 81 9 0, Ld 40 77 39, Mv 41 11, Oo 42 (.buildSlice 77 1 #[(0, (Tm 41))]), Oo 43 (.call { callee := .builtin .append, args := #[Tm 40, Tm 42], argTypes := #[77, 77] }), Mv 44 10, Mv 45 12, Bo 46 .add 3 (Tm 44) (Tm 45) 3, Fa 47 81 9 0, Sr 77 (Tm 47) (Tm 43), Sg 10 46]) .skip)))) (R0 [Mv 25 11, Bo 26 .add 3 (Tm 25) (Kn 1) 3, Sg 11 26])))))) (.seq (R0 [Mv 48 10, Bo 49 .mul 3 (Kn 1000) (Tm 48) 3, Fa 50 27 3 0, Ld 51 3 50, Fa 52 27 3 1, Ld 53 3 52, Bo 54 .mul 3 (Tm 51) (Tm 53) 3, Bo 55 .quo 3 (Tm 49) (Tm 54) 3, Fa 56 81 9 1, Sr 3 (Tm 56) (Tm 55)]) (R0 [Mv 57 7, Ld 58 81 9, Oo 59 (.buildSlice 64 1 #[(0, (Tm 58))]), Oo 60 (.call { callee := .builtin .append, args := #[Tm 57, Tm 59], argTypes := #[64, 64] }), Sg 7 60]))))) (R0 [Mv 18 8, Bo 19 .add 3 (Tm 18) (Kn 1) 3, Sg 8 19])))))) (.seq (R0 [Mv 61 7, Sg 6 61]) .ret))))⟩
theorem sf72 : sfOf Tryz.f72 = some s72 := by kernel_rfl
theorem hb72 : hasBody Tryz.prog 72 = true := by kernel_rfl
def s73 : SF := ⟨69, [.tmp 8], (.seq (R0 [Oo 4 (.box 23 (Tm 0)), Oo 5 (.box 27 (Tm 1)), Oo 8 (.assign (.const (.slice none 0 0)))]) (.seq (R0 [Ld 17 23 4, Cl 18 38 #[Tm 17] #[23], Mv 16 18, Xt 19 16 0, Xt 20 16 1, Sg 9 19, Sg 10 20]) (.seq (R0 [Oo 21 (.buildSlice 30 0 #[]), Sg 11 21]) (.seq (.seq (R0 [Sk 12 (Kn 0)]) (.block 0 (.loop (.seq (.seq (R0 [Mv 22 12, Mv 23 2, Lq 24 23 30, Bo 25 .lss 3 (Tm 22) (Tm 24) 3]) (.cond (Tm 25) .skip (.exit 0))) (.seq (.block 1 (.seq (R0 [Mv 28 2, Mv 29 12, Ix 30 30 28 29, Ld 31 56 30, Oo 13 (.alloc 56), Sr 56 (Tm 13) (Tm 31)]) (.seq (R0 [Ld 33 27 5, Ld 34 56 13, Cl 35 39 #[Tm 33, Tm 34] #[27, 56], Mv 32 35, Xt 36 32 0, Xt 37 32 1, Sg 14 36, Sg 15 37]) (.seq (.seq (R0 [Mv 38 3, Bo 39 .eql 3 (Tm 38) (Kn 1) 3, Mv 40 39, Gm 41 3 40 false, Gb 42 .eql 3 (Tm 41) (Kn 2) 3 40 false, Pk 43 40 (Kb true) (Tm 42)]) (.cond (Tm 43) (R0 [Mv 44 9, Fa 45 56 13 0, Ld 46 3 45, Bo 47 .sub 3 (Tm 44) (Tm 46) 3, Mv 48 14, Bo 49 .sub 3 (Tm 47) (Tm 48) 3, Fa 50 56 13 0, Sr 3 (Tm 50) (Tm 49)]) .skip)) (.seq (.seq (R0 [Mv 51 3, Bo 52 .eql 3 (Tm 51) (Kn 1) 3, Mv 53 52, Gm 54 3 53 false, Gb 55 .eql 3 (Tm 54) (Kn 3) 3 53 false, Pk 56 53 (Kb true) (Tm 55)]) (.cond (Tm 56) (R0 [Mv 57 10, Fa 58 56 13 1, Ld 59 3 58, Bo 60 .sub 3 (Tm 57) (Tm 59) 3, Mv 61 15, Bo 62 .sub 3 (Tm 60) (Tm 61) 3, Fa 63 56 13 1, Sr 3 (Tm 63) (Tm 62)]) .skip)) (R0 [Mv 64 11, Ld 65 56 13, Oo 66 (.buildSlice 30 1 #[(0, (Tm 65))]), Oo 67 (.call { callee := .builtin .append, args := #[Tm 64, Tm 66], argTypes := #[30, 30] }), Sg 11 67])))))) (R0 [Mv 26 12, Bo 27 .add 3 (Tm 26) (Kn 1) 3, Sg 12 27])))))) (.seq (R0 [Mv 68 11, Sg 8 68]) .ret)))))⟩
theorem sf73 : sfOf Tryz.f73 = some s73 := by kernel_rfl
theorem hb73 : hasBody Tryz.prog 73 = true := by kernel_rfl
def s74 : SF := ⟨20, [.tmp 6], (.seq (R0 [Sk 6 (Kb false)]) (.seq (R0 [Mv 11 0, Mv 12 1, Mv 13 2, Cl 14 98 #[Tm 11, Tm 12, Tm 13] #[140, 31, 3], Mv 10 14, Xt 15 10 0, Xt 16 10 1, Xt 17 10 2, Sg 7 15, Sg 8 16, Sg 9 17]) (.seq (R0 [Mv 18 9, Oo 19 (.unOp .not 4 (Tm 18)), Sg 6 19]) .ret)))⟩
theorem sf74 : sfOf Tryz.f74 = some s74 := by kernel_rfl
theorem hb74 : hasBody Tryz.prog 74 = true := by kernel_rfl
def s75 : SF := ⟨22, [.tmp 6], (.seq (R0 [Oo 3 (.box 25 (Tm 0)), Sk 6 (Kb false)]) (.seq (R0 [Mv 7 1, Mv 8 2, Fa 9 25 3 0, Ld 10 3 9, Fa 11 25 3 1, Ld 12 3 11, Oo 13 (.buildSlice 77 2 #[(0, (Tm 10)), (1, (Tm 12))]), Cl 14 55 #[Tm 7, Tm 8, Tm 13] #[3, 3, 77], Mv 15 14, Gf 16 25 3 0 15 true, Gl 17 3 16 15 true, Gf 18 25 3 1 15 true, Gl 19 3 18 15 true, Gb 20 .leq 3 (Tm 17) (Tm 19) 3 15 true, Pk 21 15 (Tm 20) (Kb false), Sg 6 21]) .ret))⟩
theorem sf75 : sfOf Tryz.f75 = some s75 := by kernel_rfl
theorem hb75 : hasBody Tryz.prog 75 = true := by kernel_rfl
def s76 : SF := ⟨50, [.tmp 4], (.seq (R0 [Oo 2 (.box 27 (Tm 0)), Oo 4 (.assign (.const (.slice none 0 0)))]) (.seq (R0 [Mv 9 1, Bo 10 .add 3 (Tm 9) (Kn 1) 3, Oo 11 (.makeSlice 149 (Tm 10) (Tm 10)), Sg 5 11]) (.seq (R0 [Mv 12 5, Oo 13 (.indexAddr 149 (Tm 12) (Kn 0)), Sr 4 (Tm 13) (Kb true)]) (.seq (.seq (R0 [Mv 14 5, Lq 15 14 149, Oo 16 (.move (Kn 0))]) (.block 0 (.loop (.seq (R0 [Bo 17 .lss 3 (Tm 16) (Tm 15) 3]) (.seq (.cond (Tm 17) .skip (.exit 0)) (.seq (.block 1 (.seq (R0 [Mv 18 16, Sg 6 18]) (.seq (R0 [Fa 19 27 2 0, Ld 20 3 19, Fa 21 27 2 1, Ld 22 3 21, Oo 23 (.build 107 #[(0, (Tm 20)), (1, (Tm 22))]), Oo 24 (.move (Kn 0))]) (.block 2 (.loop (.seq (R0 [Bo 25 .lss 3 (Tm 24) (Kn 2) 3]) (.seq (.cond (Tm 25) .skip (.exit 2)) (.seq (.block 3 (.seq (R0 [Oo 26 (.index 107 (Tm 23) (Tm 24)), Sg 8 26]) (R0 [Mv 27 5, Mv 28 6, Mv 29 5, Mv 30 6, Ix 31 149 29 30, Ld 32 4 31, Mv 33 32, Gm 34 6 33 false, Gm 35 8 33 false, Gb 36 .geq 3 (Tm 34) (Tm 35) 3 33 false, Gm 37 36 33 false, Gm 38 5 37 true, Gm 39 6 37 true, Gm 40 8 37 true, Gb 41 .sub 3 (Tm 39) (Tm 40) 3 37 true, Gx 42 149 38 41 37 true, Gl 43 4 42 37 true, Og 44 (.pick (Tm 37) (Tm 43) (Kb false)) 33 false, Pk 45 33 (Kb true) (Tm 44), Ix 46 149 27 28, Sr 4 (Tm 46) (Tm 45)]))) (R0 [Bo 47 .add 3 (Tm 24) (Kn 1) 3, Mv 24 47]))))))))) (R0 [Bo 48 .add 3 (Tm 16) (Kn 1) 3, Mv 16 48]))))))) (.seq (R0 [Mv 49 5, Sg 4 49]) .ret)))))⟩
theorem sf76 : sfOf Tryz.f76 = some s76 := by kernel_rfl
theorem hb76 : hasBody Tryz.prog 76 = true := by kernel_rfl
def s77 : SF := ⟨35, [.tmp 4, .tmp 5], (.seq (R0 [Oo 3 (.box 108 (Tm 1)), Sk 4 (Kb false), Sk 5 (Kb false)]) (.seq (.seq (R0 [Oo 9 (.build 133 #[(0, (Kb false)), (1, (Kb true))]), Oo 10 (.move (Kn 0))]) (.block 0 (.loop (.seq (R0 [Bo 11 .lss 3 (Tm 10) (Kn 2) 3]) (.seq (.cond (Tm 11) .skip (.exit 0)) (.seq (.block 1 (.seq (R0 [Oo 12 (.index 133 (Tm 9) (Tm 10)), Sg 7 12]) (.seq (R0 [Mv 13 0, Nk 14 13, Fa 15 154 14 0, Fa 16 84 15 1, Ld 17 27 16, Cl 18 93 #[Tm 17] #[27], Mv 19 7, Oo 20 (.lookup 175 (Tm 18) (Tm 19) false), Oo 8 (.alloc 108), Sr 108 (Tm 8) (Tm 20)]) (.seq (R0 [Oo 21 (.indexAddr 108 (Tm 8) (Kn 0)), Ld 22 3 21, Oo 23 (.indexAddr 108 (Tm 3) (Kn 0)), Ld 24 3 23, Bo 25 .leq 3 (Tm 22) (Tm 24) 3, Mv 26 25, Og 27 (.indexAddr 108 (Tm 8) (Kn 1)) 26 true, Gl 28 3 27 26 true, Og 29 (.indexAddr 108 (Tm 3) (Kn 1)) 26 true, Gl 30 3 29 26 true, Gb 31 .leq 3 (Tm 28) (Tm 30) 3 26 true, Pk 32 26 (Tm 31) (Kb false)]) (.cond (Tm 32) (.seq (R0 [Mv 33 7, Sg 4 33, Sk 5 (Kb true)]) .ret) .skip))))) (R0 [Bo 34 .add 3 (Tm 10) (Kn 1) 3, Mv 10 34]))))))) (.seq (R0 [Sk 4 (Kb false), Sk 5 (Kb false)]) .ret)))⟩
theorem sf77 : sfOf Tryz.f77 = some s77 := by kernel_rfl
theorem hb77 : hasBody Tryz.prog 77 = true := by kernel_rfl
def s78 : SF := ⟨6, [.tmp 4], (.seq (R0 [Oo 2 (.box 115 (Tm 0)), Oo 3 (.box 108 (Tm 1)), Oo 4 (.assign (.const .nilFunc))]) (.seq (R0 [Oo 5 (.makeFunc (.func 99) #[] #[Tm 3, Tm 2]), Sg 4 5]) .ret))⟩
theorem sf78 : sfOf Tryz.f78 = some s78 := by kernel_rfl
theorem hb78 : hasBody Tryz.prog 78 = true := by kernel_rfl
def o79_0 : SO := (Ld 6 108 3)
def o79_1 : SO := (Ld 7 108 3)
def o79_2 : SO := (Sr 108 (Tm 4) (Tm 6))
def o79_3 : SO := (Sr 108 (Tm 5) (Tm 7))
def o79_4 : SO := (Fa 8 112 2 0)
def o79_5 : SO := (Ld 9 3 8)
def o79_6 : SO := (Fa 12 112 2 1)
def o79_7 : SO := (Ld 13 3 12)
def o79_8 : SO := (Ix 21 108 4 9)
def o79_9 : SO := (Sr 3 (Tm 21) (Tm 13))
def o79_10 : SO := (Fa 10 112 2 0)
def o79_11 : SO := (Ld 11 3 10)
def o79_12 : SO := (Fa 14 112 2 0)
def o79_13 : SO := (Ld 15 3 14)
def o79_14 : SO := (Ix 16 108 3 15)
def o79_15 : SO := (Ld 17 3 16)
def o79_16 : SO := (Fa 18 112 2 1)
def o79_17 : SO := (Ld 19 3 18)
def o79_18 : SO := (Bo 20 .sub 3 (Tm 17) (Tm 19) 3)
def o79_19 : SO := (Ix 22 108 5 11)
def o79_20 : SO := (Sr 3 (Tm 22) (Tm 20))
def o79_21 : SO := (Ld 23 108 4)
def o79_22 : SO := (Ld 24 108 5)
def o79_23 : SO := (Sr 108 (Tm 4) (Tm 23))
def o79_24 : SO := (Sr 108 (Tm 5) (Tm 24))
def s79 : SF := ⟨25, [.cell 4 108, .cell 5 108], (.seq (R0 [Oo 2 (.box 112 (Tm 0)), Oo 3 (.box 108 (Tm 1)), Oo 4 (.alloc 108), Oo 5 (.alloc 108)]) (.seq (.ord (.op o79_0 (.alt (.op o79_1 (.op o79_2 (.op o79_3 .done))) (.op o79_2 (.op o79_1 (.op o79_3 .done)))))) (.seq (.ord (.op o79_4 (.op o79_5 (.op o79_6 (.op o79_7 (.op o79_8 (.app o79_9 [2, 10, 2, 14, 3, 15, 16, 2, 18, 17, 19] [10, 11, 14, 15, 16, 17, 18, 19, 20] (.op o79_10 (.op o79_11 (.op o79_12 (.op o79_13 (.op o79_14 (.op o79_15 (.op o79_16 (.op o79_17 (.op o79_18 (.op o79_19 (.op o79_20 .done)))))))))))))))))) (.seq (.ord (.op o79_21 (.alt (.op o79_22 (.op o79_23 (.op o79_24 .done))) (.op o79_23 (.op o79_22 (.op o79_24 .done)))))) .ret))))⟩
theorem sf79 : sfOf Tryz.f79 = some s79 := by kernel_rfl
theorem hb79 : hasBody Tryz.prog 79 = true := by kernel_rfl
def s80 : SF := ⟨19, [.tmp 2], (.seq (R0 [Sk 2 (Kn 0)]) (.seq (.seq (R0 [Mv 5 0, Lq 6 5 131, Oo 7 (.move (Kn 0))]) (.block 0 (.loop (.seq (R0 [Bo 8 .lss 3 (Tm 7) (Tm 6) 3]) (.seq (.cond (Tm 8) .skip (.exit 0)) (.seq (.block 1 (.seq (R0 [Ix 9 131 5 7, Ld 10 30 9, Sg 4 10]) (.block 2 (.seq (R0 [Mv 12 4, Lq 13 12 30, Bo 14 .gtr 3 (Tm 13) (Kn 200) 3, Sg 11 14]) (.cond (Tm 11) (.seq (R0 [Sk 2 (Kn 5)]) .ret) (.seq (R0 [Mv 16 4, Cl 17 100 #[Tm 16, .func 101] #[30, 183], Sg 15 17]) (.cond (Tm 15) (.seq (R0 [Sk 2 (Kn 4)]) .ret) .skip))))))) (R0 [Bo 18 .add 3 (Tm 7) (Kn 1) 3, Mv 7 18]))))))) (.seq (R0 [Sk 2 (Kn 0)]) .ret)))⟩
theorem sf80 : sfOf Tryz.f80 = some s80 := by kernel_rfl
theorem hb80 : hasBody Tryz.prog 80 = true := by kernel_rfl
def s81 : SF := ⟨9, [.tmp 4], (.seq (R0 [Sk 4 (Kb false)]) (.seq (R0 [Mv 5 0, Mv 6 1, Cl 7 102 #[Tm 5, Tm 6] #[77, 164], Bo 8 .geq 3 (Tm 7) (Kn 0) 3, Sg 4 8]) .ret))⟩
theorem sf81 : sfOf Tryz.f81 = some s81 := by kernel_rfl
theorem hb81 : hasBody Tryz.prog 81 = true := by kernel_rfl
def s82 : SF := ⟨13, [.tmp 4], (.seq (R0 [Sk 4 (Kb false)]) (.seq (R0 [Mv 5 0, Ld 6 3 1, Bo 7 .lss 3 (Tm 5) (Tm 6) 3, Mv 8 7, Gm 9 0 8 false, Gl 10 3 2 8 false, Gb 11 .gtr 3 (Tm 9) (Tm 10) 3 8 false, Pk 12 8 (Kb true) (Tm 11), Sg 4 12]) .ret))⟩
theorem sf82 : sfOf Tryz.f82 = some s82 := by kernel_rfl
theorem hb82 : hasBody Tryz.prog 82 = true := by kernel_rfl
def s83 : SF := ⟨13, [.tmp 4], (.seq (R0 [Oo 2 (.box 64 (Tm 0)), Oo 4 (.assign (.const (.slice none 0 0)))]) (.seq (.seq (R0 [Mv 6 1]) (.block 0 (.rng (Tm 6) [7] (R0 [Oo 5 (.alloc 81), Sr 81 (Tm 5) (Tm 7)]) (.block 1 (R0 [Ld 8 64 2, Ld 9 81 5, Oo 10 (.buildSlice 64 1 #[(0, (Tm 9))]), Oo 11 (.call { callee := .builtin .append, args := #[Tm 8, Tm 10], argTypes := #[64, 64] }), Sr 64 (Tm 2) (Tm 11)]))))) (.seq (R0 [Ld 12 64 2, Sg 4 12]) .ret)))⟩
theorem sf83 : sfOf Tryz.f83 = some s83 := by kernel_rfl
theorem hb83 : hasBody Tryz.prog 83 = true := by kernel_rfl
def s84 : SF := ⟨14, [.tmp 2], (.seq (R0 [Oo 1 (.box 75 (Tm 0)), Sk 2 (Kb false)]) (.seq (R0 [Fa 3 75 1 0, Ld 4 3 3, Oo 5 (.buildSlice 77 1 #[(0, (Tm 4))]), Cl 6 55 #[Kn 1, Kn 2000, Tm 5] #[3, 3, 77], Oo 7 (.unOp .not 4 (Tm 6)), Mv 8 7, Gf 9 75 1 1 8 false, Gl 10 25 9 8 false, Gc 11 75 #[Tm 10, Kn 0, Kn 5000000] #[25, 3, 3] 8 false, Og 12 (.unOp .not 4 (Tm 11)) 8 false, Pk 13 8 (Kb true) (Tm 12), Sg 2 13]) .ret))⟩
theorem sf84 : sfOf Tryz.f84 = some s84 := by kernel_rfl
theorem hb84 : hasBody Tryz.prog 84 = true := by kernel_rfl
def s85 : SF := ⟨9, [.tmp 4], (.seq (R0 [Sk 4 (Kb false)]) (.seq (R0 [Mv 5 0, Mv 6 1, Cl 7 103 #[Tm 5, Tm 6] #[76, 167], Bo 8 .geq 3 (Tm 7) (Kn 0) 3, Sg 4 8]) .ret))⟩
theorem sf85 : sfOf Tryz.f85 = some s85 := by kernel_rfl
theorem hb85 : hasBody Tryz.prog 85 = true := by kernel_rfl
def s86 : SF := ⟨16, [.cell 4 25], (.seq (R0 [Oo 2 (.box 25 (Tm 0)), Oo 3 (.box 25 (Tm 1)), Oo 4 (.alloc 25)]) (.seq (R0 [Fa 5 25 2 0, Ld 6 3 5, Fa 7 25 3 0, Ld 8 3 7, Bo 9 .add 3 (Tm 6) (Tm 8) 3, Fa 10 25 2 1, Ld 11 3 10, Fa 12 25 3 1, Ld 13 3 12, Bo 14 .add 3 (Tm 11) (Tm 13) 3, Oo 15 (.build 25 #[(0, (Tm 9)), (1, (Tm 14))]), Sr 25 (Tm 4) (Tm 15)]) .ret))⟩
theorem sf86 : sfOf Tryz.f86 = some s86 := by kernel_rfl
theorem hb86 : hasBody Tryz.prog 86 = true := by kernel_rfl
def s87 : SF := ⟨24, [.cell 4 25], (.seq (R0 [Oo 2 (.box 25 (Tm 0)), Oo 4 (.alloc 25)]) (.seq (R0 [Fa 5 25 2 0, Ld 6 3 5, Mv 7 1, Bo 8 .mul 3 (Tm 6) (Tm 7) 3, Fa 9 25 2 1, Ld 10 3 9, Mv 11 1, Bo 12 .mul 3 (Tm 10) (Tm 11) 3, Oo 13 (.call { callee := .builtin .min, args := #[Tm 8, Tm 12], argTypes := #[3, 3] }), Fa 14 25 2 0, Ld 15 3 14, Mv 16 1, Bo 17 .mul 3 (Tm 15) (Tm 16) 3, Fa 18 25 2 1, Ld 19 3 18, Mv 20 1, Bo 21 .mul 3 (Tm 19) (Tm 20) 3, Oo 22 (.call { callee := .builtin .max, args := #[Tm 17, Tm 21], argTypes := #[3, 3] }), Oo 23 (.build 25 #[(0, (Tm 13)), (1, (Tm 22))]), Sr 25 (Tm 4) (Tm 23)]) .ret))⟩
theorem sf87 : sfOf Tryz.f87 = some s87 := by kernel_rfl
theorem hb87 : hasBody Tryz.prog 87 = true := by kernel_rfl
def s88 : SF := ⟨15, [.tmp 3], (.seq (R0 [Sk 3 (Kn 0)]) (.seq (R1 [Mv 4 0, Mv 5 0, Ld 6 3 1, Bo 7 .rem 3 (Tm 5) (Tm 6) 3, Ld 8 3 1, Bo 9 .add 3 (Tm 7) (Tm 8) 3, Ld 10 3 1, Bo 11 .rem 3 (Tm 9) (Tm 10) 3, Bo 12 .sub 3 (Tm 4) (Tm 11) 3, Ld 13 3 1, Bo 14 .quo 3 (Tm 12) (Tm 13) 3, Sg 3 14]) .ret))⟩
theorem sf88 : sfOf Tryz.f88 = some s88 := by kernel_rfl
theorem hb88 : hasBody Tryz.prog 88 = true := by kernel_rfl
end Go.Dw.Seat
end
section
namespace Go.Dw.Seat
open Go Go.Dw Go.Proofs
def s89 : SF := ⟨77, [], (.seq (R0 [Oo 9 (.buildSlice 77 0 #[]), Sg 3 9]) (.seq (.seq (R0 [Ld 10 3 1, Oo 11 (.move (Kn 0))]) (.block 0 (.loop (.seq (R0 [Bo 12 .lss 3 (Tm 11) (Tm 10) 3]) (.seq (.cond (Tm 12) .skip (.exit 0)) (.seq (.block 1 (.seq (R0 [Mv 13 11, Sg 4 13]) (R0 [Mv 14 3, Mv 15 4, Oo 16 (.buildSlice 77 1 #[(0, (Tm 15))]), Oo 17 (.call { callee := .builtin .append, args := #[Tm 14, Tm 16], argTypes := #[77, 77] }), Sg 3 17]))) (R0 [Bo 18 .add 3 (Tm 11) (Kn 1) 3, Mv 11 18]))))))) (.block 2 (.loop (.block 3 (.seq (.seq (R0 [Mv 19 0, Mv 20 3, Oo 21 (.call { callee := .value (Tm 19), args := #[Tm 20], argTypes := #[77] }), Oo 22 (.unOp .not 4 (Tm 21))]) (.cond (Tm 22) .ret .skip)) (.seq (R0 [Ld 23 3 1, Bo 24 .sub 3 (Tm 23) (Kn 2) 3, Sg 5 24]) (.seq (.block 4 (.loop (.seq (.seq (R1 [Mv 25 5, Bo 26 .geq 3 (Tm 25) (Kn 0) 3, Mv 27 26, Gm 28 3 27 true, Gm 29 5 27 true, Gx 30 77 28 29 27 true, Gl 31 3 30 27 true, Gm 32 3 27 true, Gm 33 5 27 true, Gb 34 .add 3 (Tm 33) (Kn 1) 3 27 true, Gx 35 77 32 34 27 true, Gl 36 3 35 27 true, Gb 37 .gtr 3 (Tm 31) (Tm 36) 3 27 true, Pk 38 27 (Tm 37) (Kb false)]) (.cond (Tm 38) .skip (.exit 4))) (.block 5 (R0 [Mv 39 5, Bo 40 .sub 3 (Tm 39) (Kn 1) 3, Sg 5 40]))))) (.seq (.seq (R0 [Mv 41 5, Bo 42 .lss 3 (Tm 41) (Kn 0) 3]) (.cond (Tm 42) .ret .skip)) (.seq (R0 [Ld 43 3 1, Bo 44 .sub 3 (Tm 43) (Kn 1) 3, Sg 6 44]) (.seq (.block 6 (.loop (.seq (.seq (R1 [Mv 45 3, Mv 46 6, Ix 47 77 45 46, Ld 48 3 47, Mv 49 3, Mv 50 5, Ix 51 77 49 50, Ld 52 3 51, Bo 53 .lss 3 (Tm 48) (Tm 52) 3]) (.cond (Tm 53) .skip (.exit 6))) (.block 7 (R0 [Mv 54 6, Bo 55 .sub 3 (Tm 54) (Kn 1) 3, Sg 6 55]))))) (.seq (R1 [Mv 56 3, Mv 57 5, Ix 58 77 56 57, Ld 59 3 58, Mv 60 3, Mv 61 6, Ix 62 77 60 61, Ld 63 3 62, Sg 7 59, Sg 8 63]) (.seq (R0 [Mv 64 3, Mv 65 5, Mv 66 8, Ix 67 77 64 65, Sr 3 (Tm 67) (Tm 66)]) (.seq (R0 [Mv 68 3, Mv 69 6, Mv 70 7, Ix 71 77 68 69, Sr 3 (Tm 71) (Tm 70)]) (R0 [Mv 72 3, Mv 73 5, Bo 74 .add 3 (Tm 73) (Kn 1) 3, Oo 75 (.slice 77 (Tm 72) (some (Tm 74)) none none), Cl 76 90 #[Tm 75] #[77]])))))))))))))))⟩
theorem sf89 : sfOf Tryz.f89 = some s89 := by kernel_rfl
theorem hb89 : hasBody Tryz.prog 89 = true := by kernel_rfl
def o90_0 : SO := (Mv 14 0)
def o90_1 : SO := (Mv 15 2)
def o90_2 : SO := (Mv 18 0)
def o90_3 : SO := (Mv 19 3)
def o90_4 : SO := (Ix 20 77 18 19)
def o90_5 : SO := (Ld 21 3 20)
def o90_6 : SO := (Mv 22 0)
def o90_7 : SO := (Mv 23 2)
def o90_8 : SO := (Ix 24 77 22 23)
def o90_9 : SO := (Ld 25 3 24)
def o90_10 : SO := (Ix 26 77 14 15)
def o90_11 : SO := (Mv 16 0)
def o90_12 : SO := (Mv 17 3)
def o90_13 : SO := (Sr 3 (Tm 26) (Tm 21))
def o90_14 : SO := (Ix 27 77 16 17)
def o90_15 : SO := (Sr 3 (Tm 27) (Tm 25))
def s90 : SF := ⟨28, [], (.seq (R0 [Mv 4 0, Lq 5 4 77, Bo 6 .sub 3 (Tm 5) (Kn 1) 3, Sk 2 (Kn 0), Sg 3 6]) (.block 0 (.loop (.seq (.seq (R0 [Mv 7 2, Mv 8 3, Bo 9 .lss 3 (Tm 7) (Tm 8) 3]) (.cond (Tm 9) .skip (.exit 0))) (.seq (.block 1 (.ord (.op o90_0 (.op o90_1 (.op o90_2 (.op o90_3 (.op o90_4 (.op o90_5 (.op o90_6 (.op o90_7 (.op o90_8 (.op o90_9 (.op o90_10 (.alt (.op o90_11 (.alt (.op o90_12 (.op o90_13 (.op o90_14 (.op o90_15 .done)))) (.op o90_13 (.op o90_12 (.op o90_14 (.op o90_15 .done)))))) (.alt (.op o90_12 (.alt (.op o90_11 (.op o90_13 (.op o90_14 (.op o90_15 .done)))) (.op o90_13 (.op o90_11 (.op o90_14 (.op o90_15 .done)))))) (.op o90_13 (.op o90_11 (.op o90_12 (.op o90_14 (.op o90_15 .done)))))))))))))))))))) (R0 [Mv 10 2, Bo 11 .add 3 (Tm 10) (Kn 1) 3, Mv 12 3, Bo 13 .sub 3 (Tm 12) (Kn 1) 3, Sg 2 11, Sg 3 13]))))))⟩
theorem sf90 : sfOf Tryz.f90 = some s90 := by kernel_rfl
theorem hb90 : hasBody Tryz.prog 90 = true := by kernel_rfl
def s91 : SF := ⟨9, [.tmp 4], (.seq (R0 [Sk 4 (Kb false)]) (.seq (R0 [Mv 5 0, Mv 6 1, Cl 7 104 #[Tm 5, Tm 6] #[172, 174], Bo 8 .geq 3 (Tm 7) (Kn 0) 3, Sg 4 8]) .ret))⟩
theorem sf91 : sfOf Tryz.f91 = some s91 := by kernel_rfl
theorem hb91 : hasBody Tryz.prog 91 = true := by kernel_rfl
def s92 : SF := ⟨8, [.tmp 3], (.seq (R0 [Oo 2 (.box 136 (Tm 0)), Sk 3 (Kb false)]) (.seq (R0 [Ld 4 136 1, Ld 5 136 2, Cl 6 67 #[Tm 4, Tm 5] #[136, 136], Bo 7 .gtr 3 (Tm 6) (Kn 0) 3, Sg 3 7]) .ret))⟩
theorem sf92 : sfOf Tryz.f92 = some s92 := by kernel_rfl
theorem hb92 : hasBody Tryz.prog 92 = true := by kernel_rfl
def s93 : SF := ⟨15, [.tmp 2], (.seq (R0 [Oo 1 (.box 27 (Tm 0)), Oo 2 (.assign (.const (.map none)))]) (.seq (R0 [Oo 3 (.makeMap 175 none), Fa 4 27 1 0, Ld 5 3 4, Fa 6 27 1 1, Ld 7 3 6, Oo 8 (.build 108 #[(0, (Tm 5)), (1, (Tm 7))]), ⟨none, .insert 175 (Tm 3) (Kb false) (Tm 8), none⟩, Fa 9 27 1 1, Ld 10 3 9, Fa 11 27 1 0, Ld 12 3 11, Oo 13 (.build 108 #[(0, (Tm 10)), (1, (Tm 12))]), ⟨none, .insert 175 (Tm 3) (Kb true) (Tm 13), none⟩, Mv 14 3, Sg 2 14]) .ret))⟩
theorem sf93 : sfOf Tryz.f93 = some s93 := by kernel_rfl
theorem hb93 : hasBody Tryz.prog 93 = true := by kernel_rfl
def s94 : SF := ⟨13, [.tmp 2], (.seq (R0 [Oo 1 (.box 95 (Tm 0)), Sk 2 (Kb false)]) (.seq (R0 [Fa 3 95 1 0, Ld 4 25 3, Cl 5 95 #[Tm 4, Kn 0, Kn 20000000] #[25, 3, 3], Oo 6 (.unOp .not 4 (Tm 5)), Mv 7 6, Gf 8 95 1 1 7 false, Gl 9 25 8 7 false, Gc 10 95 #[Tm 9, Kn 0, Kn 100000] #[25, 3, 3] 7 false, Og 11 (.unOp .not 4 (Tm 10)) 7 false, Pk 12 7 (Kb true) (Tm 11), Sg 2 12]) .ret))⟩
theorem sf94 : sfOf Tryz.f94 = some s94 := by kernel_rfl
theorem hb94 : hasBody Tryz.prog 94 = true := by kernel_rfl
def s95 : SF := ⟨22, [.tmp 6], (.seq (R0 [Oo 3 (.box 25 (Tm 0)), Sk 6 (Kb false)]) (.seq (R0 [Mv 7 1, Mv 8 2, Fa 9 25 3 0, Ld 10 3 9, Fa 11 25 3 1, Ld 12 3 11, Oo 13 (.buildSlice 77 2 #[(0, (Tm 10)), (1, (Tm 12))]), Cl 14 97 #[Tm 7, Tm 8, Tm 13] #[3, 3, 77], Mv 15 14, Gf 16 25 3 0 15 true, Gl 17 3 16 15 true, Gf 18 25 3 1 15 true, Gl 19 3 18 15 true, Gb 20 .leq 3 (Tm 17) (Tm 19) 3 15 true, Pk 21 15 (Tm 20) (Kb false), Sg 6 21]) .ret))⟩
theorem sf95 : sfOf Tryz.f95 = some s95 := by kernel_rfl
theorem hb95 : hasBody Tryz.prog 95 = true := by kernel_rfl
def s96 : SF := ⟨9, [.tmp 4], (.seq (R0 [Sk 4 (Kb false)]) (.seq (R0 [Mv 5 0, Mv 6 1, Cl 7 105 #[Tm 5, Tm 6] #[140, 177], Bo 8 .geq 3 (Tm 7) (Kn 0) 3, Sg 4 8]) .ret))⟩
theorem sf96 : sfOf Tryz.f96 = some s96 := by kernel_rfl
theorem hb96 : hasBody Tryz.prog 96 = true := by kernel_rfl
def s97 : SF := ⟨11, [.tmp 6], (.seq (R0 [Oo 3 (.box 3 (Tm 0)), Oo 4 (.box 3 (Tm 1)), Sk 6 (Kb false)]) (.seq (R0 [Mv 7 2, Oo 8 (.makeFunc (.func 106) #[] #[Tm 3, Tm 4]), Cl 9 81 #[Tm 7, Tm 8] #[77, 164], Oo 10 (.unOp .not 4 (Tm 9)), Sg 6 10]) .ret))⟩
theorem sf97 : sfOf Tryz.f97 = some s97 := by kernel_rfl
theorem hb97 : hasBody Tryz.prog 97 = true := by kernel_rfl
def s98 : SF := ⟨33, [.tmp 6, .tmp 7, .tmp 8], (.seq (R0 [Sk 6 (Kn 0), Sk 7 (Kn 0), Sk 8 (Kb false)]) (.seq (R0 [Sk 9 (Kn (-1))]) (.seq (.seq (R0 [Sk 10 (Kn 0)]) (.block 0 (.loop (.seq (.seq (R0 [Mv 13 10, Mv 14 2, Bo 15 .leq 3 (Tm 13) (Tm 14) 3]) (.cond (Tm 15) .skip (.exit 0))) (.seq (.block 1 (.seq (R0 [Mv 18 1, Mv 19 10, Cl 20 107 #[Tm 18, Tm 19] #[31, 3], Sg 11 20]) (.seq (R0 [Mv 21 11, Mv 22 9, Bo 23 .neq 3 (Tm 21) (Tm 22) 3]) (.cond (Tm 23) (.seq (.seq (R0 [Mv 24 0, Mv 25 1, Mv 26 10, Cl 27 108 #[Tm 24, Tm 25, Tm 26] #[140, 31, 3], Sg 12 27]) (.seq (R0 [Mv 28 12, Bo 29 .geq 3 (Tm 28) (Kn 0) 3]) (.cond (Tm 29) (.seq (R0 [Mv 30 10, Mv 31 12, Sg 6 30, Sg 7 31, Sk 8 (Kb true)]) .ret) .skip))) (R0 [Mv 32 11, Sg 9 32])) .skip)))) (R0 [Mv 16 10, Bo 17 .add 3 (Tm 16) (Kn 1) 3, Sg 10 17])))))) (.seq (R0 [Sk 6 (Kn 0), Sk 7 (Kn 0), Sk 8 (Kb false)]) .ret))))⟩
theorem sf98 : sfOf Tryz.f98 = some s98 := by kernel_rfl
theorem hb98 : hasBody Tryz.prog 98 = true := by kernel_rfl
def s99 : SF := ⟨37, [], (.seq (R0 [Oo 6 (.move (Kn 0))]) (.block 0 (.loop (.seq (R0 [Bo 7 .lss 3 (Tm 6) (Kn 2) 3]) (.seq (.cond (Tm 7) .skip (.exit 0)) (.seq (.block 1 (.seq (R0 [Mv 8 6, Sg 4 8]) (.seq (R0 [Sk 5 (Kn 1)]) (.block 2 (.loop (.seq (.seq (R0 [Mv 9 5, Bo 10 .mul 3 (Kn 2) (Tm 9) 3, Mv 11 4, Ix 12 108 1 11, Ld 13 3 12, Bo 14 .leq 3 (Tm 10) (Tm 13) 3]) (.cond (Tm 14) .skip (.exit 2))) (.seq (.block 3 (.seq (R0 [Ld 17 115 2, Mv 18 4, Nk 19 17, Fa 20 154 19 1, Ix 21 152 20 18, Ld 22 77 21, Mv 23 5, Ix 24 77 22 23, Ld 25 3 24, Mv 26 5, Bo 27 .eql 3 (Tm 25) (Tm 26) 3, Mv 28 27, Gm 29 0 28 true, Gm 30 4 28 true, Gm 31 5 28 true, Og 32 (.build 112 #[(0, (Tm 30)), (1, (Tm 31))]) 28 true, Og 33 (.call { callee := .value (Tm 29), args := #[Tm 32], argTypes := #[112] }) 28 true, Og 34 (.unOp .not 4 (Tm 33)) 28 true, Pk 35 28 (Tm 34) (Kb false)]) (.cond (Tm 35) .ret .skip))) (R0 [Mv 15 5, Bo 16 .add 3 (Tm 15) (Kn 1) 3, Sg 5 16])))))))) (R0 [Bo 36 .add 3 (Tm 6) (Kn 1) 3, Mv 6 36])))))))⟩
theorem sf99 : sfOf Tryz.f99 = some s99 := by kernel_rfl
theorem hb99 : hasBody Tryz.prog 99 = true := by kernel_rfl
def s100 : SF := ⟨9, [.tmp 4], (.seq (R0 [Sk 4 (Kb false)]) (.seq (R0 [Mv 5 0, Mv 6 1, Cl 7 109 #[Tm 5, Tm 6] #[30, 183], Bo 8 .geq 3 (Tm 7) (Kn 0) 3, Sg 4 8]) .ret))⟩
theorem sf100 : sfOf Tryz.f100 = some s100 := by kernel_rfl
theorem hb100 : hasBody Tryz.prog 100 = true := by kernel_rfl
def s101 : SF := ⟨10, [.tmp 2], (.seq (R0 [Oo 1 (.box 56 (Tm 0)), Sk 2 (Kb false)]) (.seq (R0 [Fa 3 56 1 0, Ld 4 3 3, Fa 5 56 1 1, Ld 6 3 5, Oo 7 (.buildSlice 77 2 #[(0, (Tm 4)), (1, (Tm 6))]), Cl 8 55 #[Kn 0, Kn 140, Tm 7] #[3, 3, 77], Oo 9 (.unOp .not 4 (Tm 8)), Sg 2 9]) .ret))⟩
theorem sf101 : sfOf Tryz.f101 = some s101 := by kernel_rfl
theorem hb101 : hasBody Tryz.prog 101 = true := by kernel_rfl
def s102 : SF := ⟨19, [.tmp 4], (.seq (R0 [Sk 4 (Kn 0)]) (.seq (.seq (R0 [Mv 6 0, Lq 7 6 77, Oo 8 (.move (Kn 0))]) (.block 0 (.loop (.seq (R0 [Bo 9 .lss 3 (Tm 8) (Tm 7) 3]) (.seq (.cond (Tm 9) .skip (.exit 0)) (.seq (.block 1 (.seq (R0 [Mv 10 8, Sg 5 10]) (.seq (R0 [Mv 11 1, Mv 12 0, Mv 13 5, Ix 14 77 12 13, Ld 15 3 14, Oo 16 (.call { callee := .value (Tm 11), args := #[Tm 15], argTypes := #[3] })]) (.cond (Tm 16) (.seq (R0 [Mv 17 5, Sg 4 17]) .ret) .skip)))) (R0 [Bo 18 .add 3 (Tm 8) (Kn 1) 3, Mv 8 18]))))))) (.seq (R0 [Sk 4 (Kn (-1))]) .ret)))⟩
theorem sf102 : sfOf Tryz.f102 = some s102 := by kernel_rfl
theorem hb102 : hasBody Tryz.prog 102 = true := by kernel_rfl
def s103 : SF := ⟨19, [.tmp 4], (.seq (R0 [Sk 4 (Kn 0)]) (.seq (.seq (R0 [Mv 6 0, Lq 7 6 76, Oo 8 (.move (Kn 0))]) (.block 0 (.loop (.seq (R0 [Bo 9 .lss 3 (Tm 8) (Tm 7) 3]) (.seq (.cond (Tm 9) .skip (.exit 0)) (.seq (.block 1 (.seq (R0 [Mv 10 8, Sg 5 10]) (.seq (R0 [Mv 11 1, Mv 12 0, Mv 13 5, Ix 14 76 12 13, Ld 15 75 14, Oo 16 (.call { callee := .value (Tm 11), args := #[Tm 15], argTypes := #[75] })]) (.cond (Tm 16) (.seq (R0 [Mv 17 5, Sg 4 17]) .ret) .skip)))) (R0 [Bo 18 .add 3 (Tm 8) (Kn 1) 3, Mv 8 18]))))))) (.seq (R0 [Sk 4 (Kn (-1))]) .ret)))⟩
theorem sf103 : sfOf Tryz.f103 = some s103 := by kernel_rfl
theorem hb103 : hasBody Tryz.prog 103 = true := by kernel_rfl
def s104 : SF := ⟨19, [.tmp 4], (.seq (R0 [Sk 4 (Kn 0)]) (.seq (.seq (R0 [Mv 6 0, Lq 7 6 172, Oo 8 (.move (Kn 0))]) (.block 0 (.loop (.seq (R0 [Bo 9 .lss 3 (Tm 8) (Tm 7) 3]) (.seq (.cond (Tm 9) .skip (.exit 0)) (.seq (.block 1 (.seq (R0 [Mv 10 8, Sg 5 10]) (.seq (R0 [Mv 11 1, Mv 12 0, Mv 13 5, Ix 14 172 12 13, Ld 15 136 14, Oo 16 (.call { callee := .value (Tm 11), args := #[Tm 15], argTypes := #[136] })]) (.cond (Tm 16) (.seq (R0 [Mv 17 5, Sg 4 17]) .ret) .skip)))) (R0 [Bo 18 .add 3 (Tm 8) (Kn 1) 3, Mv 8 18]))))))) (.seq (R0 [Sk 4 (Kn (-1))]) .ret)))⟩
theorem sf104 : sfOf Tryz.f104 = some s104 := by kernel_rfl
theorem hb104 : hasBody Tryz.prog 104 = true := by kernel_rfl
def s105 : SF := ⟨19, [.tmp 4], (.seq (R0 [Sk 4 (Kn 0)]) (.seq (.seq (R0 [Mv 6 0, Lq 7 6 140, Oo 8 (.move (Kn 0))]) (.block 0 (.loop (.seq (R0 [Bo 9 .lss 3 (Tm 8) (Tm 7) 3]) (.seq (.cond (Tm 9) .skip (.exit 0)) (.seq (.block 1 (.seq (R0 [Mv 10 8, Sg 5 10]) (.seq (R0 [Mv 11 1, Mv 12 0, Mv 13 5, Ix 14 140 12 13, Ld 15 95 14, Oo 16 (.call { callee := .value (Tm 11), args := #[Tm 15], argTypes := #[95] })]) (.cond (Tm 16) (.seq (R0 [Mv 17 5, Sg 4 17]) .ret) .skip)))) (R0 [Bo 18 .add 3 (Tm 8) (Kn 1) 3, Mv 8 18]))))))) (.seq (R0 [Sk 4 (Kn (-1))]) .ret)))⟩
theorem sf105 : sfOf Tryz.f105 = some s105 := by kernel_rfl
theorem hb105 : hasBody Tryz.prog 105 = true := by kernel_rfl
def s106 : SF := ⟨13, [.tmp 4], (.seq (R0 [Sk 4 (Kb false)]) (.seq (R0 [Mv 5 0, Ld 6 3 1, Bo 7 .lss 3 (Tm 5) (Tm 6) 3, Mv 8 7, Gm 9 0 8 false, Gl 10 3 2 8 false, Gb 11 .gtr 3 (Tm 9) (Tm 10) 3 8 false, Pk 12 8 (Kb true) (Tm 11), Sg 4 12]) .ret))⟩
theorem sf106 : sfOf Tryz.f106 = some s106 := by kernel_rfl
theorem hb106 : hasBody Tryz.prog 106 = true := by kernel_rfl
def s107 : SF := ⟨26, [.tmp 4], (.seq (R0 [Sk 4 (Kn 0)]) (.seq (R0 [Sk 5 (Kn 0)]) (.seq (.seq (R0 [Sk 6 (Kn 0)]) (.block 0 (.loop (.seq (.seq (R0 [Mv 7 6, Mv 8 0, Lq 9 8 31, Bo 10 .lss 3 (Tm 7) (Tm 9) 3]) (.cond (Tm 10) .skip (.exit 0))) (.seq (.block 1 (.seq (R0 [Mv 13 0, Mv 14 6, Ix 15 31 13 14, Fa 16 97 15 0, Ld 17 3 16, Mv 18 1, Bo 19 .leq 3 (Tm 17) (Tm 18) 3]) (.cond (Tm 19) (R0 [Mv 20 0, Mv 21 6, Ix 22 31 20 21, Fa 23 97 22 1, Ld 24 3 23, Sg 5 24]) .skip))) (R0 [Mv 11 6, Bo 12 .add 3 (Tm 11) (Kn 1) 3, Sg 6 12])))))) (.seq (R0 [Mv 25 5, Sg 4 25]) .ret))))⟩
theorem sf107 : sfOf Tryz.f107 = some s107 := by kernel_rfl
theorem hb107 : hasBody Tryz.prog 107 = true := by kernel_rfl
def s108 : SF := ⟨31, [.tmp 6], (.seq (R0 [Sk 6 (Kn 0)]) (.seq (.seq (R0 [Sk 7 (Kn 0)]) (.block 0 (.loop (.seq (.seq (R0 [Mv 8 7, Mv 9 0, Lq 10 9 140, Bo 11 .lss 3 (Tm 8) (Tm 10) 3]) (.cond (Tm 11) .skip (.exit 0))) (.seq (.block 1 (.seq (R1 [Mv 14 0, Mv 15 7, Cl 16 110 #[Tm 14, Tm 15] #[140, 3], Oo 17 (.field 25 (Tm 16) 1), Mv 18 0, Mv 19 7, Ix 20 140 18 19, Fa 21 95 20 0, Fa 22 25 21 0, Ld 23 3 22, Mv 24 1, Mv 25 2, Cl 26 107 #[Tm 24, Tm 25] #[31, 3], Bo 27 .mul 3 (Tm 23) (Tm 26) 3, Bo 28 .quo 3 (Tm 27) (Kn 1000) 3, Bo 29 .gtr 3 (Tm 17) (Tm 28) 3]) (.cond (Tm 29) (.seq (R0 [Mv 30 7, Sg 6 30]) .ret) .skip))) (R0 [Mv 12 7, Bo 13 .add 3 (Tm 12) (Kn 1) 3, Sg 7 13])))))) (.seq (R0 [Sk 6 (Kn (-1))]) .ret)))⟩
theorem sf108 : sfOf Tryz.f108 = some s108 := by kernel_rfl
theorem hb108 : hasBody Tryz.prog 108 = true := by kernel_rfl
def s109 : SF := ⟨19, [.tmp 4], (.seq (R0 [Sk 4 (Kn 0)]) (.seq (.seq (R0 [Mv 6 0, Lq 7 6 30, Oo 8 (.move (Kn 0))]) (.block 0 (.loop (.seq (R0 [Bo 9 .lss 3 (Tm 8) (Tm 7) 3]) (.seq (.cond (Tm 9) .skip (.exit 0)) (.seq (.block 1 (.seq (R0 [Mv 10 8, Sg 5 10]) (.seq (R0 [Mv 11 1, Mv 12 0, Mv 13 5, Ix 14 30 12 13, Ld 15 56 14, Oo 16 (.call { callee := .value (Tm 11), args := #[Tm 15], argTypes := #[56] })]) (.cond (Tm 16) (.seq (R0 [Mv 17 5, Sg 4 17]) .ret) .skip)))) (R0 [Bo 18 .add 3 (Tm 8) (Kn 1) 3, Mv 8 18]))))))) (.seq (R0 [Sk 4 (Kn (-1))]) .ret)))⟩
theorem sf109 : sfOf Tryz.f109 = some s109 := by kernel_rfl
theorem hb109 : hasBody Tryz.prog 109 = true := by kernel_rfl
def s110 : SF := ⟨36, [.cell 4 25], (.seq (R0 [Oo 4 (.alloc 25)]) (.seq (R0 [Oo 7 (.build 25 #[]), Oo 5 (.alloc 25), Sr 25 (Tm 5) (Tm 7)]) (.seq (.seq (R0 [Mv 8 1, Bo 9 .add 3 (Tm 8) (Kn 1) 3, Sg 6 9]) (.block 0 (.loop (.seq (.seq (R0 [Mv 10 6, Mv 11 0, Lq 12 11 140, Bo 13 .lss 3 (Tm 10) (Tm 12) 3]) (.cond (Tm 13) .skip (.exit 0))) (.seq (.block 1 (R1 [Fa 16 25 5 0, Ld 17 3 16, Mv 18 0, Mv 19 6, Ix 20 140 18 19, Fa 21 95 20 1, Fa 22 25 21 0, Ld 23 3 22, Bo 24 .add 3 (Tm 17) (Tm 23) 3, Fa 25 25 5 1, Ld 26 3 25, Mv 27 0, Mv 28 6, Ix 29 140 27 28, Fa 30 95 29 1, Fa 31 25 30 1, Ld 32 3 31, Bo 33 .add 3 (Tm 26) (Tm 32) 3, Oo 34 (.build 25 #[(0, (Tm 24)), (1, (Tm 33))]), Sr 25 (Tm 5) (Tm 34)])) (R0 [Mv 14 6, Bo 15 .add 3 (Tm 14) (Kn 1) 3, Sg 6 15])))))) (.seq (R0 [Ld 35 25 5, Sr 25 (Tm 4) (Tm 35)]) .ret))))⟩
theorem sf110 : sfOf Tryz.f110 = some s110 := by kernel_rfl
theorem hb110 : hasBody Tryz.prog 110 = true := by kernel_rfl
end Go.Dw.Seat
end
section
namespace Go.Dw.Seat
open Go Go.Dw Go.Proofs Go.IntWalk
theorem qA : type_of% @DW.seq := @DW.seq
theorem qB : type_of% @DW.block := @DW.block
theorem qC : type_of% @DW.skip := @DW.skip
theorem qD : type_of% @DW.exit := @DW.exit
theorem qE : type_of% @DW.ret := @DW.ret
theorem qF : type_of% @DW.reg := @DW.reg
theorem qG : type_of% @DW.cond_tt := @DW.cond_tt
theorem qH : type_of% @DW.cond_ff := @DW.cond_ff
theorem qI : type_of% @DW.cond := @DW.cond
theorem qJ : type_of% @g_split := @g_split
theorem qK : type_of% @call_c := @call_c
theorem qL : type_of% @DW.dreg := @DW.dreg
theorem qM : type_of% @retS_of := @retS_of
theorem qN : type_of% @bm_box := @bm_box
theorem qO : type_of% @bm_row := @bm_row
theorem qP : type_of% @bk_box := @bk_box
theorem qQ : type_of% @bk_row := @bk_row
theorem qR : type_of% @wkT_cons := @wkT_cons
theorem qS : type_of% @wkX_cons := @wkX_cons
theorem qT : type_of% @wkT_nil := @wkT_nil
theorem qU : type_of% @wkX_nil := @wkX_nil
theorem qV : type_of% @ex_some := @ex_some
theorem qW : type_of% @wk_self := @wk_self
theorem qX : type_of% @wk_top := @wk_top
theorem qY : type_of% @wk_nil := @wk_nil
theorem qZ : type_of% @wkB_self := @wkB_self
theorem rA : type_of% @Int.natCast_add := @Int.natCast_add
theorem rB : type_of% @Int.natCast_one := @Int.natCast_one
theorem rC : type_of% @Int.ofNat_zero := @Int.ofNat_zero
theorem rD : type_of% @Int.natCast_zero := @Int.natCast_zero
theorem rE : type_of% @IntWalk.i64_in := @IntWalk.i64_in
theorem rF : type_of% @List.map_cons := @List.map_cons
theorem rG : type_of% @List.map_nil := @List.map_nil
end Go.Dw.Seat
end
section
set_option linter.unusedSimpArgs false
set_option maxRecDepth 100000
namespace Go.Dw.Seat
open Go Go.Dw Go.Proofs Go.IntWalk
theorem plIdxI (b : Bool) (l : List (Int)) (hl : l.length ≤ 2 ^ 36) (g : FuncId) (fs caps : List C) (p : Int → Bool) (hp : ∀ x ∈ l,DCall Tryz.prog g (fs.map D.c ++ [dI x] ++ caps.map D.c) [] (bD (p x)) []) : DCall Tryz.prog 102 [.c (.sl b 1 (rows eI l)),.c (.fn (.func g) fs caps)] [] (dI (idxI p l)) [] := by
 refine DCall.of Tryz.func102 sf102 hb102 (Nat.le_of_ble_eq_true rfl) (okRes_nil fun _ => rfl) ?_; simp only [s102,idxs,Nat.reduceAdd]
 repeat' (first|(with_reducible first|apply qA|apply qB|apply qC|apply qD|apply qE|apply qF)|(simp (disch:=omega) only [go_sem,simprocAttr,Blk.men,Blk.keysIn])|exact qM rfl rfl rfl|(refine qG rfl ?_)|(refine qH rfl ?_)|(refine qI rfl ?_ ?_<;>intro hc<;>(try simp only [go_sem] at hc))|(refine qJ ?_ ?_<;>intro hc<;>(try simp only [hc])<;>(try simp only [go_sem] at hc)))
 refine DW.loop (ι := { i : Nat // i ≤ l.length ∧ ∀ j u,j < i → l[j]? = some u → p u = false }) (fun i => ⟨19,[(8,dI i.1),(7,dI l.length),(1,.c (.fn (.func g) fs caps)),(0,.c (.sl b 1 (rows eI l)))],[]⟩) (fun i => l.length - i.1) ⟨0,Nat.zero_le _,fun j u h => by omega⟩ ?_ ?_
 ·refine Ent.to ?_ ?_ <;> simp (disch:=omega) only [qR,qS,qT,qU,get,Nat.reduceEqDiff,↓reduceIte,qV,qW,qX,qY,qZ,and_self,dI,i64_in,and_true,true_and,rA,rB,rC,rD]
 rintro ⟨i,hi,hij⟩
 rcases at_or l i hi with ⟨v,hv,hlt,hd⟩ | ⟨he,hd⟩
 ·have hcall := hp v (List.mem_of_getElem? hv)
  repeat' (first|(with_reducible first|apply qA|apply qB|apply qC|apply qD|apply qE|apply qF)|(simp (disch:=omega) only [go_sem,simprocAttr,Blk.men,Blk.keysIn,hd,hv,closeDs_fn,rF,rG])|exact qM rfl rfl rfl|(refine qG rfl ?_)|(refine qH rfl ?_)|(refine qI rfl ?_ ?_<;>intro hc<;>(try simp only [go_sem] at hc))|(refine qJ ?_ ?_<;>intro hc<;>(try simp only [hc])<;>(try simp only [go_sem] at hc)))
  refine call_c hcall (by decide) ?_
  simp (disch:=omega) only [go_sem,simprocAttr,Blk.men,Blk.keysIn]
  refine DW.cond rfl ?_ ?_ <;> intro hc
  ·repeat' (first|(with_reducible first|apply qA|apply qB|apply qC|apply qD|apply qE|apply qF)|(simp (disch:=omega) only [go_sem,simprocAttr,Blk.men,Blk.keysIn])|exact qM rfl rfl rfl|(refine qG rfl ?_)|(refine qH rfl ?_)|(refine qI rfl ?_ ?_<;>intro hc<;>(try simp only [go_sem] at hc))|(refine qJ ?_ ?_<;>intro hc<;>(try simp only [hc])<;>(try simp only [go_sem] at hc)))
   refine retS_of rfl ?_ rfl; simp only [oneD,St.op,get,Nat.reduceEqDiff,↓reduceIte,Option.getD_some,bD,dI]
   simp only [idxI,idxOf_some hij hv hc]
  ·repeat' (first|(with_reducible first|apply qA|apply qB|apply qC|apply qD|apply qE|apply qF)|(simp (disch:=omega) only [go_sem,simprocAttr,Blk.men,Blk.keysIn])|exact qM rfl rfl rfl|(refine qG rfl ?_)|(refine qH rfl ?_)|(refine qI rfl ?_ ?_<;>intro hc<;>(try simp only [go_sem] at hc))|(refine qJ ?_ ?_<;>intro hc<;>(try simp only [hc])<;>(try simp only [go_sem] at hc)))
   refine ⟨⟨i + 1,by omega,fun j u hj hu => by
    rcases Nat.lt_or_ge j i with h | h
    ·exact hij j u h hu
    ·have : j = i := by omega
     subst this
     rw [hv] at hu; cases hu; exact hc⟩,?_,Ent.to ?_ ?_⟩ <;> first | (show _ < _; (try simp only); omega) | (simp (disch:=omega) only [qR,qS,qT,qU,get,Nat.reduceEqDiff,↓reduceIte,qV,qW,qX,qY,qZ,and_self,dI,i64_in,and_true,true_and,rA,rB,rC,rD])
 ·repeat' (first|(with_reducible first|apply qA|apply qB|apply qC|apply qD|apply qE|apply qF)|(simp (disch:=omega) only [go_sem,simprocAttr,Blk.men,Blk.keysIn,hd])|exact qM rfl rfl rfl|(refine qG rfl ?_)|(refine qH rfl ?_)|(refine qI rfl ?_ ?_<;>intro hc<;>(try simp only [go_sem] at hc))|(refine qJ ?_ ?_<;>intro hc<;>(try simp only [hc])<;>(try simp only [go_sem] at hc)))
  refine retS_of rfl ?_ rfl; simp only [oneD,St.op,get,Nat.reduceEqDiff,↓reduceIte,Option.getD_some,bD,dI]
  simp only [idxI,idxOf_none (he ▸ hij)]
theorem plAnyI (b : Bool) (l : List (Int)) (hl : l.length ≤ 2 ^ 36) (g : FuncId) (fs caps : List C) (p : Int → Bool) (hp : ∀ x ∈ l,DCall Tryz.prog g (fs.map D.c ++ [dI x] ++ caps.map D.c) [] (bD (p x)) []) : DCall Tryz.prog 81 [.c (.sl b 1 (rows eI l)),.c (.fn (.func g) fs caps)] [] (bD (l.any p)) [] := by
 refine DCall.of Tryz.func81 sf81 hb81 (Nat.le_of_ble_eq_true rfl) (okRes_nil fun _ => rfl) ?_; simp only [s81,idxs,Nat.reduceAdd]
 repeat' (first|(with_reducible first|apply qA|apply qB|apply qC|apply qD|apply qE|apply qF)|(simp (disch:=omega) only [go_sem,simprocAttr,Blk.men,Blk.keysIn])|exact qM rfl rfl rfl|(refine qG rfl ?_)|(refine qH rfl ?_)|(refine qI rfl ?_ ?_<;>intro hc<;>(try simp only [go_sem] at hc))|(refine qJ ?_ ?_<;>intro hc<;>(try simp only [hc])<;>(try simp only [go_sem] at hc)))
 refine call_c (plIdxI b l hl g fs caps p hp) (by decide) ?_
 repeat' (first|(with_reducible first|apply qA|apply qB|apply qC|apply qD|apply qE|apply qF)|(simp (disch:=omega) only [go_sem,simprocAttr,Blk.men,Blk.keysIn])|exact qM rfl rfl rfl|(refine qG rfl ?_)|(refine qH rfl ?_)|(refine qI rfl ?_ ?_<;>intro hc<;>(try simp only [go_sem] at hc))|(refine qJ ?_ ?_<;>intro hc<;>(try simp only [hc])<;>(try simp only [go_sem] at hc)))
 refine retS_of rfl ?_ rfl; simp only [oneD,St.op,get,Nat.reduceEqDiff,↓reduceIte,Option.getD_some,bD,dI]
 rw [idxI_any]
def wthn (lo hi : Int) (l : List Int) : Bool := !(l.any fun n => decide (n < lo) || decide (hi < n))
theorem wthn_one {lo hi n : Int} (h : wthn lo hi [n] = true) : lo ≤ n ∧ n ≤ hi := by
 simp [wthn] at h; omega
theorem plW1 (n lo hi : Int) (p q : Bool) : DCall Tryz.prog 82 [dI n,.c (.ro p [.v (.int .i64 lo)] 0),.c (.ro q [.v (.int .i64 hi)] 0)] [] (bD (decide (n < lo) || decide (hi < n))) [] := by
 refine DCall.of Tryz.func82 sf82 hb82 (Nat.le_of_ble_eq_true rfl) (okRes_nil fun _ => rfl) ?_; simp only [s82,idxs,Nat.reduceAdd]
 repeat' (first|(with_reducible first|apply qA|apply qB|apply qC|apply qD|apply qE|apply qF)|(simp (disch:=omega) only [go_sem,simprocAttr,Blk.men,Blk.keysIn])|exact qM rfl rfl rfl|(refine qG rfl ?_)|(refine qH rfl ?_)|(refine qI rfl ?_ ?_<;>intro hc<;>(try simp only [go_sem] at hc))|(refine qJ ?_ ?_<;>intro hc<;>(try simp only [hc])<;>(try simp only [go_sem] at hc)))
theorem plWithin (b : Bool) (lo hi : Int) (l : List Int) (hl : l.length ≤ 2 ^ 36) : DCall Tryz.prog 55 [dI lo,dI hi,dIs b l] [] (bD (wthn lo hi l)) [] := by
 refine DCall.of Tryz.func55 sf55 hb55 (Nat.le_of_ble_eq_true rfl) (okRes_nil fun _ => rfl) ?_; simp only [s55,idxs,Nat.reduceAdd]
 repeat' (first|(with_reducible first|apply qA|apply qB|apply qC|apply qD|apply qE|apply qF)|(simp (disch:=omega) only [go_sem,simprocAttr,Blk.men,Blk.keysIn])|exact qM rfl rfl rfl|(refine qG rfl ?_)|(refine qH rfl ?_)|(refine qI rfl ?_ ?_<;>intro hc<;>(try simp only [go_sem] at hc))|(refine qJ ?_ ?_<;>intro hc<;>(try simp only [hc])<;>(try simp only [go_sem] at hc)))
 (refine call_c (plAnyI b l hl 82 [] [.ro true [.v (.int .i64 lo)] 0,.ro true [.v (.int .i64 hi)] 0] (fun n => decide (n < lo) || decide (hi < n)) (fun x _ => plW1 x lo hi true true)) (by decide) ?_; simp (disch:=omega) only [go_sem,simprocAttr,Blk.men,Blk.keysIn])
 repeat' (first|(with_reducible first|apply qA|apply qB|apply qC|apply qD|apply qE|apply qF)|(simp (disch:=omega) only [go_sem,simprocAttr,Blk.men,Blk.keysIn])|exact qM rfl rfl rfl|(refine qG rfl ?_)|(refine qH rfl ?_)|(refine qI rfl ?_ ?_<;>intro hc<;>(try simp only [go_sem] at hc))|(refine qJ ?_ ?_<;>intro hc<;>(try simp only [hc])<;>(try simp only [go_sem] at hc)))
theorem wthn_yes {lo hi : Int} {l : List Int} (h : ∀ v ∈ l,lo ≤ v ∧ v ≤ hi) : wthn lo hi l = true := by
 simp only [wthn,Bool.not_eq_true',List.any_eq_false,Bool.or_eq_true,decide_eq_true_eq]
 intro v hv
 have := h v hv
 omega
theorem wthn_all {lo hi : Int} {l : List Int} (h : wthn lo hi l = true) : ∀ v ∈ l,lo ≤ v ∧ v ≤ hi := by
 simp only [wthn,Bool.not_eq_true',List.any_eq_false,Bool.or_eq_true,decide_eq_true_eq] at h
 intro v hv
 have := h v hv
 omega
theorem wthn_iff {lo hi : Int} {l : List Int} : wthn lo hi l = true ↔ ∀ v ∈ l,lo ≤ v ∧ v ≤ hi := ⟨wthn_all,wthn_yes⟩
def spanOk (lo hi least most : Int) : Bool := wthn least most [lo,hi] && decide (lo ≤ hi)
theorem spanOk_iff {lo hi least most : Int} : spanOk lo hi least most = true ↔ least ≤ lo ∧ lo ≤ hi ∧ hi ≤ most := by
 simp only [spanOk,Bool.and_eq_true,decide_eq_true_eq,wthn_iff,List.mem_cons,List.not_mem_nil,or_false,forall_eq_or_imp,forall_eq]
 omega
theorem plSpan (lo hi least most : Int) : DCall Tryz.prog 75 [.agg [dI lo,dI hi],dI least,dI most] [] (bD (spanOk lo hi least most)) [] := by
 have h1 := plWithin true least most [lo,hi] (by simp)
 unfold spanOk
 cases h : wthn least most [lo,hi] <;> rw [h] at h1 <;> simp only [Bool.true_and,Bool.false_and]
 ·refine DCall.of Tryz.func75 sf75 hb75 (Nat.le_of_ble_eq_true rfl) (okRes_nil fun _ => rfl) ?_; simp only [s75,idxs,Nat.reduceAdd]
  repeat' (first|(with_reducible first|apply qA|apply qB|apply qC|apply qD|apply qE|apply qF)|(simp (disch:=omega) only [go_sem,simprocAttr,Blk.men,Blk.keysIn])|exact qM rfl rfl rfl|(refine qG rfl ?_)|(refine qK (h1) (by decide) ?_)|(refine qH rfl ?_)|(refine qI rfl ?_ ?_<;>intro hc<;>(try simp only [go_sem] at hc))|(refine qJ ?_ ?_<;>intro hc<;>(try simp only [hc])<;>(try simp only [go_sem] at hc)))
 ·refine DCall.of Tryz.func75 sf75 hb75 (Nat.le_of_ble_eq_true rfl) (okRes_nil fun _ => rfl) ?_; simp only [s75,idxs,Nat.reduceAdd]
  repeat' (first|(with_reducible first|apply qA|apply qB|apply qC|apply qD|apply qE|apply qF)|(simp (disch:=omega) only [go_sem,simprocAttr,Blk.men,Blk.keysIn])|exact qM rfl rfl rfl|(refine qG rfl ?_)|(refine qK (h1) (by decide) ?_)|(refine qH rfl ?_)|(refine qI rfl ?_ ?_<;>intro hc<;>(try simp only [go_sem] at hc))|(refine qJ ?_ ?_<;>intro hc<;>(try simp only [hc])<;>(try simp only [go_sem] at hc)))
end Go.Dw.Seat
end
section
set_option linter.unusedSimpArgs false
set_option maxRecDepth 100000
namespace Go.Dw.Seat
open Go Go.Dw Go.IntWalk
def sumB (a c i : Nat) : Bool := (List.range (i / a + 1)).any fun u => (i - u * a) % c == 0
theorem sumB_iff {a c i : Nat} (ha : 0 < a) : sumB a c i = true ↔ ∃ u v,i = u * a + v * c := by
 unfold sumB
 rw [List.any_eq_true]
 constructor
 ·rintro ⟨u,hu,h⟩
  have hu := List.mem_range.1 hu
  have h1 : u * a ≤ i := Nat.le_trans (Nat.mul_le_mul_right a (show u ≤ i / a by omega)) (Nat.div_mul_le_self i a)
  have h2 := Nat.div_add_mod (i - u * a) c
  rw [beq_iff_eq] at h
  refine ⟨u,(i - u * a) / c,?_⟩
  rw [h,Nat.add_zero,Nat.mul_comm] at h2; omega
 ·rintro ⟨u,v,rfl⟩
  refine ⟨u,List.mem_range.2 ?_,?_⟩
  ·have : u ≤ (u * a + v * c) / a := (Nat.le_div_iff_mul_le ha).2 (by omega)
   omega
  ·rw [beq_iff_eq,Nat.add_sub_cancel_left]; exact Nat.mul_mod_left v c
theorem sumB_zero (a c : Nat) : sumB a c 0 = true := by
 unfold sumB
 rw [Nat.zero_div]
 simp
theorem sumB_add {a c i j : Nat} (ha : 0 < a) (hi : sumB a c i = true) (hj : sumB a c j = true) : sumB a c (i + j) = true := by
 obtain ⟨u,v,rfl⟩ := (sumB_iff ha).1 hi
 obtain ⟨s,t,rfl⟩ := (sumB_iff ha).1 hj
 refine (sumB_iff ha).2 ⟨u + s,v + t,?_⟩
 rw [Nat.add_mul,Nat.add_mul]; omega
theorem sumB_a {a c : Nat} (ha : 0 < a) : sumB a c a = true := (sumB_iff ha).2 ⟨1,0,by omega⟩
theorem sumB_c {a c : Nat} (ha : 0 < a) : sumB a c c = true := (sumB_iff ha).2 ⟨0,1,by omega⟩
theorem sumB_rec {a c : Nat} (ha : 0 < a) {i : Nat} (hi : 0 < i) : sumB a c i = ((decide (a ≤ i) && sumB a c (i - a)) || (decide (c ≤ i) && sumB a c (i - c))) := by
 rw [Bool.eq_iff_iff]
 simp only [Bool.or_eq_true,Bool.and_eq_true,decide_eq_true_eq]
 constructor
 ·intro h
  obtain ⟨u,v,h⟩ := (sumB_iff ha).1 h
  cases u with
  | succ u =>
   rw [Nat.add_mul,Nat.one_mul] at h
   exact .inl ⟨by omega,(sumB_iff ha).2 ⟨u,v,by omega⟩⟩
  | zero =>
   cases v with
   | zero => omega
   | succ v =>
    rw [Nat.add_mul v,Nat.one_mul] at h
    exact .inr ⟨by omega,(sumB_iff ha).2 ⟨0,v,by omega⟩⟩
 ·rintro (⟨h1,h2⟩ | ⟨h1,h2⟩)
  ·have := sumB_add ha h2 (sumB_a (c := c) ha)
   rwa [Nat.sub_add_cancel h1] at this
  ·have := sumB_add ha h2 (sumB_c (c := c) ha)
   rwa [Nat.sub_add_cancel h1] at this
def rchF (a c : Nat) : Nat → Nat
 | 0 => 0
 | n + 1 => if sumB a c (n + 1) then n + 1 else rchF a c n
theorem rch_le (a c : Nat) : ∀ n,rchF a c n ≤ n
 | 0 => Nat.le_refl _
 | n + 1 => by
  have := rch_le a c n
  rw [rchF]
  split <;> omega
theorem rch_sum (a c : Nat) : ∀ n,sumB a c (rchF a c n) = true
 | 0 => sumB_zero a c
 | n + 1 => by
  rw [rchF]
  split
  ·assumption
  ·exact rch_sum a c n
theorem rch_max {a c m : Nat} : ∀ {n : Nat},m ≤ n → sumB a c m = true → m ≤ rchF a c n
 | 0,h,_ => by omega
 | n + 1,h,hm => by
  rw [rchF]
  by_cases e : m = n + 1
  ·subst e; rw [if_pos hm]; omega
  ·split
   ·omega
   ·exact rch_max (by omega) hm
theorem rch_eq {a c n : Nat} (h : sumB a c n = true) : rchF a c n = n := Nat.le_antisymm (rch_le a c n) (rch_max (Nat.le_refl _) h)
theorem rch_idem (a c n : Nat) : rchF a c (rchF a c n) = rchF a c n := rch_eq (rch_sum a c n)
end Go.Dw.Seat
end
section
set_option linter.unusedSimpArgs false
set_option maxRecDepth 100000
namespace Go.Dw.Seat
open Go Go.Dw Go.IntWalk
def fitB (a c x y : Nat) : Bool := (decide (a ≤ x) && decide (c ≤ y)) || (decide (c ≤ x) && decide (a ≤ y))
def lnX (a c x : Nat) : List Nat := (List.range (x / 2)).filterMap fun t => if sumB a c (t + 1) then some (t + 1) else none
abbrev Ln := Bool × Nat
def lnsF (a c x y : Nat) : List Ln := (lnX a c x).map (fun t => (false,t)) ++ (lnX a c y).map (fun t => (true,t))
def oneF (x y : Nat) (l : Ln) : Nat × Nat := if l.1 then (x,l.2) else (l.2,y)
def twoF (x y : Nat) (l : Ln) : Nat × Nat := if l.1 then (x,y - l.2) else (x - l.2,y)
structure Cut where
 n : Nat
 ln : Option Ln
def stepC (g : Nat → Nat → Nat) (x y : Nat) (b : Cut) (l : Ln) : Cut :=
 if b.n < g (oneF x y l).1 (oneF x y l).2 + g (twoF x y l).1 (twoF x y l).2 then ⟨g (oneF x y l).1 (oneF x y l).2 + g (twoF x y l).1 (twoF x y l).2,some l⟩ else b
def cutF (a c : Nat) : Nat → Nat → Nat → Cut
 | 0,_,_ => ⟨0,none⟩
 | f + 1,x,y => if fitB a c (rchF a c x) (rchF a c y) then (lnsF a c (rchF a c x) (rchF a c y)).foldl (stepC (fun u v => (cutF a c f u v).n) (rchF a c x) (rchF a c y)) ⟨1,none⟩ else ⟨0,none⟩
theorem lnX_mem {a c x t : Nat} : t ∈ lnX a c x ↔ 1 ≤ t ∧ 2 * t ≤ x ∧ sumB a c t = true := by
 unfold lnX
 rw [List.mem_filterMap]
 constructor
 ·rintro ⟨u,hu,h⟩
  have hu := List.mem_range.1 hu
  split at h
  ·cases h
   rename_i h1
   exact ⟨by omega,by omega,h1⟩
  ·cases h
 ·rintro ⟨h1,h2,h3⟩
  refine ⟨t - 1,List.mem_range.2 (by omega),?_⟩
  rw [Nat.sub_add_cancel h1,if_pos h3]
structure IsLn (a c x y : Nat) (l : Ln) : Prop where
 pos : 1 ≤ l.2
 half : 2 * l.2 ≤ (if l.1 then y else x)
 sum : sumB a c l.2 = true
theorem lns_mem {a c x y : Nat} {l : Ln} : l ∈ lnsF a c x y ↔ IsLn a c x y l := by
 obtain ⟨s,t⟩ := l
 unfold lnsF
 rw [List.mem_append,List.mem_map,List.mem_map]
 constructor
 ·rintro (⟨u,hu,h⟩ | ⟨u,hu,h⟩) <;> cases h <;> obtain ⟨h1,h2,h3⟩ := lnX_mem.1 hu
  ·exact ⟨h1,h2,h3⟩
  ·exact ⟨h1,h2,h3⟩
 ·rintro ⟨h1,h2,h3⟩
  cases s
  ·exact .inl ⟨t,lnX_mem.2 ⟨h1,h2,h3⟩,rfl⟩
  ·exact .inr ⟨t,lnX_mem.2 ⟨h1,h2,h3⟩,rfl⟩
theorem ln_less {a c x y : Nat} {l : Ln} (h : IsLn a c x y l) : (oneF x y l).1 + (oneF x y l).2 < x + y ∧ (twoF x y l).1 + (twoF x y l).2 < x + y := by
 obtain ⟨s,t⟩ := l
 have h1 := h.pos
 have h2 := h.half
 cases s <;> simp [oneF,twoF] at h1 h2 ⊢ <;> omega
theorem foldC_congr {g g' : Nat → Nat → Nat} {a c x y : Nat} : ∀ (ls : List Ln) (b : Cut),(∀ l ∈ ls,IsLn a c x y l) → (∀ u v,u + v < x + y → g u v = g' u v) → ls.foldl (stepC g x y) b = ls.foldl (stepC g' x y) b
 | [],_,_,_ => rfl
 | l :: ls,b,h,hg => by
  have hl := ln_less (h l (by simp))
  rw [List.foldl_cons,List.foldl_cons,stepC,hg _ _ hl.1,hg _ _ hl.2]
  exact foldC_congr ls _ (fun t ht => h t (by simp [ht])) hg
theorem cut_fuel (a c : Nat) : ∀ (f f' x y : Nat),x + y < f → x + y < f' → cutF a c f x y = cutF a c f' x y
 | 0,_,_,_,h,_ => by omega
 | _,0,_,_,_,h => by omega
 | f + 1,f' + 1,x,y,h,h' => by
  rw [cutF,cutF]
  have h1 := rch_le a c x
  have h2 := rch_le a c y
  rw [foldC_congr (a := a) (c := c) (lnsF a c (rchF a c x) (rchF a c y)) ⟨1,none⟩ (fun l hl => lns_mem.1 hl) (g' := fun u v => (cutF a c f' u v).n) (fun u v huv => by rw [cut_fuel a c f f' u v (by omega) (by omega)])]
def cutI (a c x y : Nat) : Cut := cutF a c (x + y + 1) x y
def mst (a c x y : Nat) : Nat := (cutI a c x y).n
theorem cutI_eq (a c x y : Nat) : cutI a c x y = if fitB a c (rchF a c x) (rchF a c y) then (lnsF a c (rchF a c x) (rchF a c y)).foldl (stepC (mst a c) (rchF a c x) (rchF a c y)) ⟨1,none⟩ else ⟨0,none⟩ := by
 have h1 := rch_le a c x
 have h2 := rch_le a c y
 rw [cutI,cutF,foldC_congr (a := a) (c := c) (lnsF a c (rchF a c x) (rchF a c y)) ⟨1,none⟩ (fun l hl => lns_mem.1 hl) (g' := mst a c) (fun u v huv => by rw [mst,cutI,cut_fuel a c (x + y) (u + v + 1) u v (by omega) (by omega)])]
theorem cutI_rch (a c x y : Nat) : cutI a c (rchF a c x) (rchF a c y) = cutI a c x y := by rw [cutI_eq,rch_idem,rch_idem,← cutI_eq]
def okC (g : Nat → Nat → Nat) (a c x y : Nat) (b : Cut) : Prop := match b.ln with
 | none => b.n ≤ 1
 | some l => IsLn a c x y l ∧ b.n = g (oneF x y l).1 (oneF x y l).2 + g (twoF x y l).1 (twoF x y l).2
theorem fold_ok {g : Nat → Nat → Nat} {a c x y : Nat} : ∀ (ls : List Ln) (b : Cut),(∀ l ∈ ls,IsLn a c x y l) → okC g a c x y b → okC g a c x y (ls.foldl (stepC g x y) b) ∧ b.n ≤ (ls.foldl (stepC g x y) b).n ∧ ((ls.foldl (stepC g x y) b).ln = none → (ls.foldl (stepC g x y) b) = b) ∧ ∀ l ∈ ls,g (oneF x y l).1 (oneF x y l).2 + g (twoF x y l).1 (twoF x y l).2 ≤ (ls.foldl (stepC g x y) b).n
 | [],b,_,h => ⟨h,Nat.le_refl _,fun _ => rfl,fun l hl => by cases hl⟩
 | l :: ls,b,h,hb => by
  have hl := h l (by simp)
  rw [List.foldl_cons]
  by_cases hc : b.n < g (oneF x y l).1 (oneF x y l).2 + g (twoF x y l).1 (twoF x y l).2
  ·have e : stepC g x y b l = ⟨g (oneF x y l).1 (oneF x y l).2 + g (twoF x y l).1 (twoF x y l).2,some l⟩ := if_pos hc
   rw [e]
   obtain ⟨h1,h2,h3,h4⟩ := fold_ok ls ⟨g (oneF x y l).1 (oneF x y l).2 + g (twoF x y l).1 (twoF x y l).2,some l⟩ (fun t ht => h t (by simp [ht])) ⟨hl,rfl⟩
   refine ⟨h1,by dsimp only at h2; omega,fun hn => ?_,fun t ht => ?_⟩
   ·have := h3 hn
    rw [this] at hn; cases hn
   ·rcases List.mem_cons.1 ht with rfl | ht
    ·exact h2
    ·exact h4 t ht
  ·have e : stepC g x y b l = b := if_neg hc
   rw [e]
   obtain ⟨h1,h2,h3,h4⟩ := fold_ok ls b (fun t ht => h t (by simp [ht])) hb
   refine ⟨h1,h2,h3,fun t ht => ?_⟩
   rcases List.mem_cons.1 ht with rfl | ht
   ·omega
   ·exact h4 t ht
inductive CutOk (a c x y : Nat) : Prop where
 | no : fitB a c (rchF a c x) (rchF a c y) = false → cutI a c x y = ⟨0,none⟩ → CutOk a c x y
 | one : fitB a c (rchF a c x) (rchF a c y) = true → cutI a c x y = ⟨1,none⟩ → CutOk a c x y
 | two (l : Ln) : fitB a c (rchF a c x) (rchF a c y) = true → (cutI a c x y).ln = some l → IsLn a c (rchF a c x) (rchF a c y) l → 1 ≤ mst a c x y → mst a c x y = mst a c (oneF (rchF a c x) (rchF a c y) l).1 (oneF (rchF a c x) (rchF a c y) l).2 + mst a c (twoF (rchF a c x) (rchF a c y) l).1 (twoF (rchF a c x) (rchF a c y) l).2 → CutOk a c x y
theorem cut_ok (a c x y : Nat) : CutOk a c x y := by
 have h := cutI_eq a c x y
 cases hf : fitB a c (rchF a c x) (rchF a c y) with
 | false => rw [hf,if_neg Bool.false_ne_true] at h; exact .no hf h
 | true =>
  rw [hf,if_pos rfl] at h
  obtain ⟨h1,h2,h3,_⟩ := fold_ok (g := mst a c) (lnsF a c (rchF a c x) (rchF a c y)) ⟨1,none⟩ (fun l hl => lns_mem.1 hl) (show okC (mst a c) a c _ _ ⟨1,none⟩ from Nat.le_refl _)
  rw [← h] at h1 h2 h3
  cases hn : (cutI a c x y).ln with
  | none => exact .one hf (h3 hn)
  | some l =>
   unfold okC at h1
   rw [hn] at h1
   exact .two l hf hn h1.1 h2 h1.2
theorem mst_no {a c x y : Nat} (h : fitB a c (rchF a c x) (rchF a c y) = false) : mst a c x y = 0 := by
 rw [mst,cutI_eq,h,if_neg Bool.false_ne_true]
theorem mst_area {a c : Nat} : ∀ (n x y : Nat),x + y < n → mst a c x y * (a * c) ≤ rchF a c x * rchF a c y
 | 0,_,_,h => by omega
 | n + 1,x,y,h => by
  have l1 := rch_le a c x
  have l2 := rch_le a c y
  cases cut_ok a c x y with
  | no h0 e => rw [mst_no h0,Nat.zero_mul]; omega
  | one h0 e =>
   have e1 : mst a c x y = 1 := by rw [mst,e]
   rw [e1,Nat.one_mul]
   simp only [fitB,Bool.or_eq_true,Bool.and_eq_true,decide_eq_true_eq] at h0
   rcases h0 with h0 | h0
   ·exact Nat.mul_le_mul h0.1 h0.2
   ·rw [Nat.mul_comm a]; exact Nat.mul_le_mul h0.1 h0.2
  | two l h0 e hl h1' e2 =>
   have hls := ln_less hl
   rw [e2,Nat.add_mul]
   have i1 := mst_area (a := a) (c := c) n (oneF (rchF a c x) (rchF a c y) l).1 (oneF (rchF a c x) (rchF a c y) l).2 (by omega)
   have i2 := mst_area (a := a) (c := c) n (twoF (rchF a c x) (rchF a c y) l).1 (twoF (rchF a c x) (rchF a c y) l).2 (by omega)
   have j1 := Nat.mul_le_mul (rch_le a c (oneF (rchF a c x) (rchF a c y) l).1) (rch_le a c (oneF (rchF a c x) (rchF a c y) l).2)
   have j2 := Nat.mul_le_mul (rch_le a c (twoF (rchF a c x) (rchF a c y) l).1) (rch_le a c (twoF (rchF a c x) (rchF a c y) l).2)
   refine Nat.le_trans (Nat.add_le_add (Nat.le_trans i1 j1) (Nat.le_trans i2 j2)) ?_
   obtain ⟨d,v⟩ := l
   have hh := hl.half
   cases d
   ·simp only [oneF,twoF,Bool.false_eq_true,if_false] at hh ⊢
    rw [← Nat.add_mul,Nat.add_sub_cancel' (by omega)]; exact Nat.le_refl _
   ·simp only [oneF,twoF,if_true] at hh ⊢
    rw [← Nat.mul_add,Nat.add_sub_cancel' (by omega)]; exact Nat.le_refl _
def bndF (a c x y : Nat) : Nat := rchF a c x * rchF a c y / (a * c)
theorem mst_bnd {a c : Nat} (ha : 0 < a) (hc : 0 < c) (x y : Nat) : mst a c x y ≤ bndF a c x y := (Nat.le_div_iff_mul_le (Nat.mul_pos ha hc)).2 (mst_area (x + y + 1) x y (by omega))
end Go.Dw.Seat
end
section
set_option linter.unusedSimpArgs false
set_option maxRecDepth 100000
namespace Go.Dw.Seat
open Go Go.Dw Go.IntWalk
structure PBs where
 lg : Int
 wd : Int
 hi : Int
 ov : Int
 top : Int
 load : Int
structure PBx where
 lg : Int
 wd : Int
 hi : Int
 wl : Int
 wh : Int
 sl : Int
 sh : Int
structure PPl where
 x : Int
 y : Int
 t : Bool
deriving DecidableEq
structure PBs.ok (p : PBs) : Prop where
 lg : 1 ≤ p.lg ∧ p.lg ≤ 120
 wd : 1 ≤ p.wd ∧ p.wd ≤ 120
 hi : 0 ≤ p.hi ∧ p.hi ≤ 400
 top : 0 ≤ p.top ∧ p.top ≤ 400
 ov : 0 ≤ p.ov ∧ p.ov ≤ 10
 load : 0 ≤ p.load ∧ p.load ≤ 5000000
structure PBx.ok (b : PBx) : Prop where
 lg : 10 ≤ b.lg ∧ b.lg ≤ 100
 wd : 10 ≤ b.wd ∧ b.wd ≤ 100
 hi : 10 ≤ b.hi ∧ b.hi ≤ 100
 w : 0 ≤ b.wl ∧ b.wl ≤ b.wh ∧ b.wh ≤ 5000000
 s : 0 ≤ b.sl ∧ b.sl ≤ b.sh ∧ b.sh ≤ 20000000
def rmX (p : PBs) : Int := p.lg + 2 * p.ov
def rmY (p : PBs) : Int := p.wd + 2 * p.ov
def sdX (b : PBx) (q : PPl) : Int := if q.t then b.wd else b.lg
def sdY (b : PBx) (q : PPl) : Int := if q.t then b.lg else b.wd
def ovI (x a y c : Int) : Int := max 0 (min (x + a) (y + c) - max x y)
def comI (b : PBx) (q r : PPl) : Int := ovI q.x (sdX b q) r.x (sdX b r) * ovI q.y (sdY b q) r.y (sdY b r)
def outB (p : PBs) (b : PBx) (q : PPl) : Bool := decide (rmX p < q.x + sdX b q) || decide (rmY p < q.y + sdY b q)
def intoB (b : PBx) (q : PPl) (l : List PPl) : Bool := l.any fun r => decide (0 < comI b q r)
def faultF (p : PBs) (b : PBx) : List PPl → List PPl → Nat × Int
 | _,[] => (0,0)
 | pre,q :: l => if outB p b q then (pre.length,1) else if intoB b q pre then (pre.length,2) else faultF p b (pre ++ [q]) l
def fltF (p : PBs) (b : PBx) (l : List PPl) : Nat × Int := faultF p b [] l
structure Lies (p : PBs) (b : PBx) (l : List PPl) : Prop where
 inn : ∀ q ∈ l,q.x + sdX b q ≤ rmX p ∧ q.y + sdY b q ≤ rmY p
 off : l.Pairwise fun q r => comI b r q ≤ 0
theorem ov_nn (x a y c : Int) : 0 ≤ ovI x a y c := by unfold ovI; omega
theorem ov_pos {x a y c : Int} : 0 < ovI x a y c ↔ (0 < a ∧ 0 < c) ∧ x < y + c ∧ y < x + a := by unfold ovI; omega
theorem ov_le (x a y c : Int) (ha : 0 ≤ a) : ovI x a y c ≤ a := by unfold ovI; omega
theorem com_pos {b : PBx} {q r : PPl} : 0 < comI b q r ↔ 0 < ovI q.x (sdX b q) r.x (sdX b r) ∧ 0 < ovI q.y (sdY b q) r.y (sdY b r) := by
 have h1 := ov_nn q.x (sdX b q) r.x (sdX b r)
 have h2 := ov_nn q.y (sdY b q) r.y (sdY b r)
 unfold comI
 constructor
 ·intro h
  rcases Int.lt_or_eq_of_le h1 with h3 | h3
  ·rcases Int.lt_or_eq_of_le h2 with h4 | h4
   ·exact ⟨h3,h4⟩
   ·rw [← h4,Int.mul_zero] at h; omega
  ·rw [← h3,Int.zero_mul] at h; omega
 ·rintro ⟨h3,h4⟩; exact Int.mul_pos h3 h4
theorem flt_ok (p : PBs) (b : PBx) : ∀ (l pre : List PPl),(faultF p b pre l).2 = 0 ↔ (∀ q ∈ l,outB p b q = false) ∧ (∀ q ∈ l,intoB b q pre = false) ∧ l.Pairwise fun q r => comI b r q ≤ 0
 | [],pre => by simp [faultF]
 | q :: l,pre => by
  rw [faultF]
  have ih := flt_ok p b l (pre ++ [q])
  cases h1 : outB p b q with
  | true => simp [h1]
  | false =>
   cases h2 : intoB b q pre with
   | true => simp [h2]
   | false =>
    rw [if_neg Bool.false_ne_true,if_neg Bool.false_ne_true,ih]
    have hap : ∀ r,intoB b r (pre ++ [q]) = (intoB b r pre || decide (0 < comI b r q)) := fun r => by simp [intoB]
    simp only [List.mem_cons,forall_eq_or_imp,h1,h2,true_and,List.pairwise_cons,hap,Bool.or_eq_false_iff,decide_eq_false_iff_not,Int.not_lt]
    constructor
    ·rintro ⟨a1,a2,a3⟩
     exact ⟨a1,fun r hr => (a2 r hr).1,fun r hr => (a2 r hr).2,a3⟩
    ·rintro ⟨a1,a2,a3,a4⟩
     exact ⟨a1,fun r hr => ⟨a2 r hr,a3 r hr⟩,a4⟩
theorem out_iff {p : PBs} {b : PBx} {q : PPl} : outB p b q = false ↔ q.x + sdX b q ≤ rmX p ∧ q.y + sdY b q ≤ rmY p := by
 simp only [outB,Bool.or_eq_false_iff,decide_eq_false_iff_not,Int.not_lt]
theorem flt_lies {p : PBs} {b : PBx} {l : List PPl} : (fltF p b l).2 = 0 ↔ Lies p b l := by
 rw [fltF,flt_ok]
 constructor
 ·rintro ⟨h1,_,h3⟩; exact ⟨fun q hq => out_iff.1 (h1 q hq),h3⟩
 ·rintro ⟨h1,h3⟩; exact ⟨fun q hq => out_iff.2 (h1 q hq),fun q _ => by simp [intoB],h3⟩
theorem side_pos {b : PBx} (hb : b.ok) (q : PPl) : (10 ≤ sdX b q ∧ sdX b q ≤ 100) ∧ 10 ≤ sdY b q ∧ sdY b q ≤ 100 := by
 have := hb.lg
 have := hb.wd
 unfold sdX sdY
 cases q.t <;> simp <;> omega
end Go.Dw.Seat
end
section
set_option linter.unusedSimpArgs false
set_option maxRecDepth 100000
namespace Go.Dw.Seat
open Go Go.Dw Go.Proofs Go.IntWalk
abbrev bsD (p : PBs) : D := .agg [dI p.lg,dI p.wd,dI p.hi,dI p.ov,dI p.top,dI p.load]
abbrev bxD (b : PBx) : D := .agg [dI b.lg,dI b.wd,dI b.hi,dI b.wl,dI b.wh,dI b.sl,dI b.sh]
abbrev bedD (p : PBs) (b : PBx) : D := .agg [dI p.lg,dI p.wd,dI p.hi,dI p.ov,dI p.top,dI p.load,dI b.lg,dI b.wd,dI b.hi,dI b.wl,dI b.wh,dI b.sl,dI b.sh]
abbrev noneBed : D := .agg [dI 0,dI 0,dI 0,dI 0,dI 0,dI 0,dI 0,dI 0,dI 0,dI 0,dI 0,dI 0,dI 0]
def eP (q : PPl) : List C := [.v (.int .i64 q.x),.v (.int .i64 q.y),.v (.bool q.t)]
theorem eP_nb (q : PPl) : C.nbs (eP q) = true := rfl
attribute [go_sem] eP
abbrev plD (q : PPl) : D := .agg ((eP q).map D.c)
abbrev lyD (b : Bool) (l : List PPl) : D := .c (.sl b 3 (rows eP l))
def baseB (p : PBs) : Bool := ((wthn 1 120 [p.lg,p.wd] && wthn 0 400 [p.hi,p.top]) && wthn 0 10 [p.ov]) && wthn 0 5000000 [p.load]
def boxB (b : PBx) : Bool := (wthn 10 100 [b.lg,b.wd,b.hi] && spanOk b.wl b.wh 0 5000000) && spanOk b.sl b.sh 0 20000000
def chkE (p : PBs) (b : PBx) : Int := if baseB p && boxB b then 0 else 2
theorem baseB_iff {p : PBs} : baseB p = true ↔ p.ok := by
 simp only [baseB,Bool.and_eq_true,wthn_iff,List.mem_cons,List.not_mem_nil,or_false,forall_eq_or_imp,forall_eq]
 constructor
 ·rintro ⟨⟨⟨h1,h2⟩,h3⟩,h4⟩; exact ⟨h1.1,h1.2,h2.1,h2.2,h3,h4⟩
 ·rintro ⟨h1,h2,h3,h4,h5,h6⟩; exact ⟨⟨⟨⟨h1,h2⟩,h3,h4⟩,h5⟩,h6⟩
theorem boxB_iff {b : PBx} : boxB b = true ↔ b.ok := by
 simp only [boxB,Bool.and_eq_true,wthn_iff,spanOk_iff,List.mem_cons,List.not_mem_nil,or_false,forall_eq_or_imp,forall_eq]
 constructor
 ·rintro ⟨⟨h1,h2⟩,h3⟩; exact ⟨h1.1,h1.2.1,h1.2.2,h2,h3⟩
 ·rintro ⟨h1,h2,h3,h4,h5⟩; exact ⟨⟨⟨h1,h2,h3⟩,h4⟩,h5⟩
theorem chk_ok {p : PBs} {b : PBx} : chkE p b = 0 ↔ p.ok ∧ b.ok := by
 unfold chkE
 rw [← baseB_iff,← boxB_iff,← Bool.and_eq_true]
 split <;> simp_all
theorem chk_two {p : PBs} {b : PBx} (h : chkE p b ≠ 0) : chkE p b = 2 := by
 unfold chkE at h ⊢
 split at h <;> simp_all
set_option maxHeartbeats 1000000 in
theorem plCheck (p : PBs) (b : PBx) : DCall Tryz.prog 48 [bsD p,bxD b] [] (dI (chkE p b)) [] := by
 have h1 := plWithin true 1 120 [p.lg,p.wd] (by simp)
 have h2 := plWithin true 0 400 [p.hi,p.top] (by simp)
 have h3 := plWithin true 0 10 [p.ov] (by simp)
 have h4 := plWithin true 0 5000000 [p.load] (by simp)
 have h5 := plWithin true 10 100 [b.lg,b.wd,b.hi] (by simp)
 have h6 := plSpan b.wl b.wh 0 5000000
 have h7 := plSpan b.sl b.sh 0 20000000
 unfold chkE baseB boxB
 generalize wthn 1 120 [p.lg,p.wd] = w1 at *
 generalize wthn 0 400 [p.hi,p.top] = w2 at *
 generalize wthn 0 10 [p.ov] = w3 at *
 generalize wthn 0 5000000 [p.load] = w4 at *
 generalize wthn 10 100 [b.lg,b.wd,b.hi] = w5 at *
 generalize spanOk b.wl b.wh 0 5000000 = w6 at *
 generalize spanOk b.sl b.sh 0 20000000 = w7 at *
 refine DCall.of Tryz.func48 sf48 hb48 (Nat.le_of_ble_eq_true rfl) (okRes_nil fun _ => rfl) ?_; simp only [s48,idxs,Nat.reduceAdd]
 repeat' (first|(with_reducible first|apply qA|apply qB|apply qC|apply qD|apply qE|apply qF)|(simp (disch:=omega) only [go_sem,simprocAttr,Blk.men,Blk.keysIn])|exact qM rfl rfl rfl|(refine qG rfl ?_)|(refine qK (h1) (by decide) ?_)|(refine qK (h2) (by decide) ?_)|(refine qK (h3) (by decide) ?_)|(refine qK (h4) (by decide) ?_)|(refine qK (h5) (by decide) ?_)|(refine qK (h6) (by decide) ?_)|(refine qK (h7) (by decide) ?_)|(refine qH rfl ?_)|(refine qI rfl ?_ ?_<;>intro hc<;>(try simp only [go_sem] at hc))|(refine qJ ?_ ?_<;>intro hc<;>(try simp only [hc])<;>(try simp only [go_sem] at hc)))
 all_goals (subst_vars; first | exact retS_of rfl rfl rfl | (cases w7 <;> first | contradiction | exact retS_of rfl rfl rfl))
abbrev szB (b : PBx) : Blk := .map [.bool false,.bool true] [.agg [dI b.lg,dI b.wd],.agg [dI b.wd,dI b.lg]]
theorem plSizes (b : PBx) (k : Nat) : DCall Tryz.prog 93 [bxD b] [] (.hd k) [(k,szB b)] := by
 refine DCall.renameM rfl (k0 := 3) ?_ k
 refine DCall.of Tryz.func93 sf93 hb93 (Nat.le_of_ble_eq_true rfl) (okRes_map rfl) ?_
 simp only [s93,idxs,Nat.reduceAdd]
 repeat' (first|(with_reducible first|apply qA|apply qB|apply qC|apply qD|apply qE|apply qF)|(simp (disch:=omega) only [go_sem,simprocAttr,Blk.men,Blk.keysIn,s_insert,updK,findL,keyEq,keysOK,KK.is,List.all_nil,List.all_cons,lookIn,commaD])|exact qM rfl rfl rfl|(refine qG rfl ?_)|(refine qH rfl ?_)|(refine qI rfl ?_ ?_<;>intro hc<;>(try simp only [go_sem] at hc))|(refine qJ ?_ ?_<;>intro hc<;>(try simp only [hc])<;>(try simp only [go_sem] at hc)))
 refine retS_bs rfl rfl rfl (get_all (p := fun k x => get k _ = some x ∧ x.nb = true) ?_)
 intro q hq
 simp only [List.mem_cons,Prod.mk.injEq,List.not_mem_nil,or_false] at hq
 obtain ⟨rfl,rfl⟩ := hq
 exact ⟨rfl,rfl⟩
theorem plRoom (p : PBs) (b : PBx) (hp : p.ok) : DCall Tryz.prog 49 [bedD p b] [] (.agg [dI (rmX p),dI (rmY p)]) [] := by
 have := hp.lg
 have := hp.wd
 have := hp.ov
 unfold rmX rmY
 refine DCall.of Tryz.func49 sf49 hb49 (Nat.le_of_ble_eq_true rfl) (okRes_nil fun _ => rfl) ?_; simp only [s49,idxs,Nat.reduceAdd]
 repeat' (first|(with_reducible first|apply qA|apply qB|apply qC|apply qD|apply qE|apply qF)|(simp (disch:=omega) only [go_sem,simprocAttr,Blk.men,Blk.keysIn])|exact qM rfl rfl rfl|(refine qG rfl ?_)|(refine qH rfl ?_)|(refine qI rfl ?_ ?_<;>intro hc<;>(try simp only [go_sem] at hc))|(refine qJ ?_ ?_<;>intro hc<;>(try simp only [hc])<;>(try simp only [go_sem] at hc)))
def eA (b : PBx) (q : PPl) : List C := [.v (.int .i64 q.x),.v (.int .i64 q.y),.v (.int .i64 (q.x + sdX b q)),.v (.int .i64 (q.y + sdY b q))]
attribute [go_sem] eA
structure PPl.fine (q : PPl) : Prop where
 x : -1000 ≤ q.x ∧ q.x ≤ 1000
 y : -1000 ≤ q.y ∧ q.y ≤ 1000
set_option maxHeartbeats 1000000 in
theorem plArea (p : PBs) (b : PBx) (hb : b.ok) (q : PPl) (hq : q.fine) : DCall Tryz.prog 66 [bedD p b,plD q] [] (.agg ((eA b q).map D.c)) [] := by
 have h1 := plSizes b 8
 have hs := side_pos hb q
 have hx := hq.x
 have hy := hq.y
 have h2 := hb.lg
 have h3 := hb.wd
 obtain ⟨x,y,t⟩ := q
 unfold sdX sdY at hs
 dsimp only at hx hy hs
 refine DCall.of Tryz.func66 sf66 hb66 (Nat.le_of_ble_eq_true rfl) (okRes_nil fun _ => rfl) ?_; simp only [s66,idxs,Nat.reduceAdd]
 repeat' (first|(with_reducible first|apply qA|apply qB|apply qC|apply qD|apply qE|apply qF)|(refine qL rfl (WF.of ?_) ?_; first|rfl|skip)|(simp (disch:=omega) only [go_sem,simprocAttr,Blk.men,Blk.keysIn,rF,rG])|exact qM rfl rfl rfl|(refine qG rfl ?_)|(refine qH rfl ?_)|(refine qI rfl ?_ ?_<;>intro hc<;>(try simp only [go_sem] at hc))|(refine qJ ?_ ?_<;>intro hc<;>(try simp only [hc])<;>(try simp only [go_sem] at hc)))
 (refine call_r (h1) (by decide) (by first | rfl | simp (disch:=omega) only [go_sem,simprocAttr,Blk.men,Blk.keysIn]) (by first | rfl | simp (disch:=omega) only [go_sem,simprocAttr,Blk.men,Blk.keysIn]) ?_; simp (disch:=omega) only [go_sem,simprocAttr,Blk.men,Blk.keysIn])
 cases t
 ·repeat' (first|(with_reducible first|apply qA|apply qB|apply qC|apply qD|apply qE|apply qF)|(refine qL rfl (WF.of ?_) ?_; first|rfl|skip)|(simp (disch:=omega) only [go_sem,simprocAttr,Blk.men,Blk.keysIn,findL,keyEq,keysOK,KK.is,List.all_nil,List.all_cons,lookIn,commaD,rF,rG,sdX,sdY])|exact qM rfl rfl rfl|(refine qG rfl ?_)|(refine qH rfl ?_)|(refine qI rfl ?_ ?_<;>intro hc<;>(try simp only [go_sem] at hc))|(refine qJ ?_ ?_<;>intro hc<;>(try simp only [hc])<;>(try simp only [go_sem] at hc)))
  skip
 ·repeat' (first|(with_reducible first|apply qA|apply qB|apply qC|apply qD|apply qE|apply qF)|(refine qL rfl (WF.of ?_) ?_; first|rfl|skip)|(simp (disch:=omega) only [go_sem,simprocAttr,Blk.men,Blk.keysIn,findL,keyEq,keysOK,KK.is,List.all_nil,List.all_cons,lookIn,commaD,rF,rG,sdX,sdY])|exact qM rfl rfl rfl|(refine qG rfl ?_)|(refine qH rfl ?_)|(refine qI rfl ?_ ?_<;>intro hc<;>(try simp only [go_sem] at hc))|(refine qJ ?_ ?_<;>intro hc<;>(try simp only [hc])<;>(try simp only [go_sem] at hc)))
  skip
theorem min_if (a b : Int) : (if b < a then b else a) = min a b := by split <;> omega
theorem max_if (a b : Int) : (if a < b then b else a) = max a b := by split <;> omega
end Go.Dw.Seat
end
section
set_option linter.unusedSimpArgs false
set_option maxRecDepth 100000
namespace Go.Dw.Seat
open Go Go.Dw Go.Proofs Go.IntWalk
theorem ov_b {b : PBx} (hb : b.ok) (q r : PPl) : (0 ≤ ovI q.x (sdX b q) r.x (sdX b r) ∧ ovI q.x (sdX b q) r.x (sdX b r) ≤ 100) ∧ 0 ≤ ovI q.y (sdY b q) r.y (sdY b r) ∧ ovI q.y (sdY b q) r.y (sdY b r) ≤ 100 := by
 have h1 := side_pos hb q
 have h2 := ov_nn q.x (sdX b q) r.x (sdX b r)
 have h3 := ov_nn q.y (sdY b q) r.y (sdY b r)
 have h4 := ov_le q.x (sdX b q) r.x (sdX b r) (by omega)
 have h5 := ov_le q.y (sdY b q) r.y (sdY b r) (by omega)
 omega
def comK (b : PBx) (q r : PPl) : Nat → Int
 | 0 => 1
 | 1 => ovI q.x (sdX b q) r.x (sdX b r)
 | _ => comI b q r
set_option maxHeartbeats 2000000 in
theorem plCommon (b : PBx) (hb : b.ok) (q r : PPl) (hq : q.fine) (hr : r.fine) : DCall Tryz.prog 67 [.agg ((eA b q).map D.c),.agg ((eA b r).map D.c)] [] (dI (comI b q r)) [] := by
 have hqx := hq.x
 have hqy := hq.y
 have hrx := hr.x
 have hry := hr.y
 have hqs := side_pos hb q
 have hrs := side_pos hb r
 have hov := ov_b hb q r
 have e1 : ovI q.x (sdX b q) r.x (sdX b r) = max 0 (min (q.x + sdX b q) (r.x + sdX b r) - max q.x r.x) := rfl
 have e2 : ovI q.y (sdY b q) r.y (sdY b r) = max 0 (min (q.y + sdY b q) (r.y + sdY b r) - max q.y r.y) := rfl
 have hm : comI b q r = ovI q.x (sdX b q) r.x (sdX b r) * ovI q.y (sdY b q) r.y (sdY b r) := rfl
 have hmb : 0 ≤ comI b q r ∧ comI b q r ≤ 10000 := by
  have h1 := Int.mul_le_mul hov.1.2 hov.2.2 hov.2.1 (by omega : (0 : Int) ≤ 100)
  have h2 := Int.mul_nonneg hov.1.1 hov.2.1
  rw [hm]; omega
 have k0 : comK b q r 0 = 1 := rfl
 have k1 : comK b q r 1 = ovI q.x (sdX b q) r.x (sdX b r) := rfl
 have k2 : comK b q r 2 = comI b q r := rfl
 have hw : IntKind.i64.wrap (ovI q.x (sdX b q) r.x (sdX b r) * max 0 (min (q.y + sdY b q) (r.y + sdY b r) - max q.y r.y)) = comI b q r := by
  rw [← e2,← hm]; exact IntWalk.i64_in _ (by omega)
 refine DCall.of Tryz.func67 sf67 hb67 (Nat.le_of_ble_eq_true rfl) (okRes_nil fun _ => rfl) ?_; simp only [s67,idxs,Nat.reduceAdd]
 repeat' (first|(with_reducible first|apply qA|apply qB|apply qC|apply qD|apply qE|apply qF)|(refine qL rfl (WF.of ?_) ?_; first|rfl|skip)|(simp (disch:=omega) only [go_sem,simprocAttr,qN,qO,qP,qQ,rF,rG])|exact qM rfl rfl rfl|(refine qG rfl ?_)|(refine qH rfl ?_)|(refine qI rfl ?_ ?_<;>intro hc<;>(try simp only [go_sem] at hc))|(refine qJ ?_ ?_<;>intro hc<;>(try simp only [hc])<;>(try simp only [go_sem] at hc)))
 refine DW.loop (ι := { i : Nat // i ≤ 2 }) (fun i => ⟨34,[(7,dI i.1),(5,dI (comK b q r i.1)),(3,.box 3 0),(2,.box 2 0)],[(3,.box ((eA b r).map D.c)),(2,.box ((eA b q).map D.c))]⟩) (fun i => 2 - i.1) ⟨0,by decide⟩ ?_ ?_
 ·refine Ent.to ?_ ?_ <;> simp (disch:=omega) only [qR,qS,qT,qU,get,Nat.reduceEqDiff,↓reduceIte,qV,qW,qX,qY,qZ,and_self,dI,i64_in,and_true,true_and,rA,rB,rC,rD,k0,eA,rF,rG]
  all_goals first | exact ⟨.refl _,.refl _,.refl _⟩ | exact ⟨.refl _,.refl _⟩ | exact .refl _
 rintro ⟨i,hi⟩
 dsimp only
 match i,hi with
 | 0,_ =>
  repeat' (first|(with_reducible first|apply qA|apply qB|apply qC|apply qD|apply qE|apply qF)|(refine qL rfl (WF.of ?_) ?_; first|rfl|skip)|(simp (disch:=omega) only [go_sem,simprocAttr,qN,qO,qP,qQ,k0,rF,rG,min_if,max_if])|exact qM rfl rfl rfl|(refine qG rfl ?_)|(refine qH rfl ?_)|(refine qI rfl ?_ ?_<;>intro hc<;>(try simp only [go_sem] at hc))|(refine qJ ?_ ?_<;>intro hc<;>(try simp only [hc])<;>(try simp only [go_sem] at hc)))
  refine ⟨⟨1,by decide⟩,?_,Ent.to ?_ ?_⟩ <;> first | (show _ < _; (try simp only); omega) | (simp (disch:=omega) only [qR,qS,qT,qU,get,Nat.reduceEqDiff,↓reduceIte,qV,qW,qX,qY,qZ,and_self,dI,i64_in,and_true,true_and,rA,rB,rC,rD,k1,e1,Int.one_mul,eA,rF,rG])
  all_goals first | exact ⟨.refl _,.refl _,.refl _⟩ | exact ⟨.refl _,.refl _⟩ | exact .refl _
 | 1,_ =>
  repeat' (first|(with_reducible first|apply qA|apply qB|apply qC|apply qD|apply qE|apply qF)|(refine qL rfl (WF.of ?_) ?_; first|rfl|skip)|(simp (disch:=omega) only [go_sem,simprocAttr,qN,qO,qP,qQ,k1,rF,rG,min_if,max_if,hw])|exact qM rfl rfl rfl|(refine qG rfl ?_)|(refine qH rfl ?_)|(refine qI rfl ?_ ?_<;>intro hc<;>(try simp only [go_sem] at hc))|(refine qJ ?_ ?_<;>intro hc<;>(try simp only [hc])<;>(try simp only [go_sem] at hc)))
  refine ⟨⟨2,by decide⟩,?_,Ent.to ?_ ?_⟩ <;> first | (show _ < _; (try simp only); omega) | (simp (disch:=omega) only [qR,qS,qT,qU,get,Nat.reduceEqDiff,↓reduceIte,qV,qW,qX,qY,qZ,and_self,dI,i64_in,and_true,true_and,rA,rB,rC,rD,k2,eA,rF,rG])
  all_goals first | exact ⟨.refl _,.refl _,.refl _⟩ | exact ⟨.refl _,.refl _⟩ | exact .refl _
 | 2,_ =>
  repeat' (first|(with_reducible first|apply qA|apply qB|apply qC|apply qD|apply qE|apply qF)|(refine qL rfl (WF.of ?_) ?_; first|rfl|skip)|(simp (disch:=omega) only [go_sem,simprocAttr,qN,qO,qP,qQ,k2,rF,rG])|exact qM rfl rfl rfl|(refine qG rfl ?_)|(refine qH rfl ?_)|(refine qI rfl ?_ ?_<;>intro hc<;>(try simp only [go_sem] at hc))|(refine qJ ?_ ?_<;>intro hc<;>(try simp only [hc])<;>(try simp only [go_sem] at hc)))
theorem plFault1 (b : PBx) (hb : b.ok) (q r : PPl) (hq : q.fine) (hr : r.fine) (lab : Bool) : DCall Tryz.prog 92 [.agg ((eA b r).map D.c),.c (.ro lab (eA b q) 0)] [] (bD (decide (0 < comI b q r))) [] := by
 have h1 := plCommon b hb q r hq hr
 refine DCall.of Tryz.func92 sf92 hb92 (Nat.le_of_ble_eq_true rfl) (okRes_nil fun _ => rfl) ?_; simp only [s92,idxs,Nat.reduceAdd]
 repeat' (first|(with_reducible first|apply qA|apply qB|apply qC|apply qD|apply qE|apply qF)|(simp (disch:=omega) only [go_sem,simprocAttr,qN,qO,qP,qQ,rF,rG])|exact qM rfl rfl rfl|(refine qG rfl ?_)|(refine qK (h1) (by decide) ?_)|(refine qH rfl ?_)|(refine qI rfl ?_ ?_<;>intro hc<;>(try simp only [go_sem] at hc))|(refine qJ ?_ ?_<;>intro hc<;>(try simp only [hc])<;>(try simp only [go_sem] at hc)))
theorem plAIdx (b : PBx) (lab : Bool) (l : List PPl) (hl : l.length ≤ 2 ^ 36) (g : FuncId) (fs caps : List C) (p : PPl → Bool) (hp : ∀ x ∈ l,DCall Tryz.prog g (fs.map D.c ++ [.agg ((eA b x).map D.c)] ++ caps.map D.c) [] (bD (p x)) []) : DCall Tryz.prog 104 [.c (.sl lab 4 (rows (eA b) l)),.c (.fn (.func g) fs caps)] [] (dI (idxI p l)) [] := by
 refine DCall.of Tryz.func104 sf104 hb104 (Nat.le_of_ble_eq_true rfl) (okRes_nil fun _ => rfl) ?_; simp only [s104,idxs,Nat.reduceAdd]
 repeat' (first|(with_reducible first|apply qA|apply qB|apply qC|apply qD|apply qE|apply qF)|(simp (disch:=omega) only [go_sem,simprocAttr,qN,qO,qP,qQ])|exact qM rfl rfl rfl|(refine qG rfl ?_)|(refine qH rfl ?_)|(refine qI rfl ?_ ?_<;>intro hc<;>(try simp only [go_sem] at hc))|(refine qJ ?_ ?_<;>intro hc<;>(try simp only [hc])<;>(try simp only [go_sem] at hc)))
 refine DW.loop (ι := { i : Nat // i ≤ l.length ∧ ∀ j u,j < i → l[j]? = some u → p u = false }) (fun i => ⟨19,[(8,dI i.1),(7,dI l.length),(1,.c (.fn (.func g) fs caps)),(0,.c (.sl lab 4 (rows (eA b) l)))],[]⟩) (fun i => l.length - i.1) ⟨0,Nat.zero_le _,fun j u h => by omega⟩ ?_ ?_
 ·refine Ent.to ?_ ?_ <;> simp (disch:=omega) only [qR,qS,qT,qU,get,Nat.reduceEqDiff,↓reduceIte,qV,qW,qX,qY,qZ,and_self,dI,i64_in,and_true,true_and,rA,rB,rC,rD]
  all_goals exact .refl _
 rintro ⟨i,hi,hij⟩
 rcases at_or l i hi with ⟨v,hv,hlt,hd⟩ | ⟨he,hd⟩
 ·have hcall := hp v (List.mem_of_getElem? hv)
  repeat' (first|(with_reducible first|apply qA|apply qB|apply qC|apply qD|apply qE|apply qF)|(simp (disch:=omega) only [go_sem,simprocAttr,qN,qO,qP,qQ,hd,hv,closeDs_fn,rF,rG])|exact qM rfl rfl rfl|(refine qG rfl ?_)|(refine qH rfl ?_)|(refine qI rfl ?_ ?_<;>intro hc<;>(try simp only [go_sem] at hc))|(refine qJ ?_ ?_<;>intro hc<;>(try simp only [hc])<;>(try simp only [go_sem] at hc)))
  refine call_c hcall (by decide) ?_
  simp (disch:=omega) only [go_sem,simprocAttr,qN,qO,qP,qQ]
  refine DW.cond rfl ?_ ?_ <;> intro hc
  ·repeat' (first|(with_reducible first|apply qA|apply qB|apply qC|apply qD|apply qE|apply qF)|(simp (disch:=omega) only [go_sem,simprocAttr,qN,qO,qP,qQ])|exact qM rfl rfl rfl|(refine qG rfl ?_)|(refine qH rfl ?_)|(refine qI rfl ?_ ?_<;>intro hc<;>(try simp only [go_sem] at hc))|(refine qJ ?_ ?_<;>intro hc<;>(try simp only [hc])<;>(try simp only [go_sem] at hc)))
   refine retS_of rfl ?_ rfl; simp only [oneD,St.op,get,Nat.reduceEqDiff,↓reduceIte,Option.getD_some,bD,dI]
   simp only [idxI,idxOf_some hij hv hc]
  ·repeat' (first|(with_reducible first|apply qA|apply qB|apply qC|apply qD|apply qE|apply qF)|(simp (disch:=omega) only [go_sem,simprocAttr,qN,qO,qP,qQ])|exact qM rfl rfl rfl|(refine qG rfl ?_)|(refine qH rfl ?_)|(refine qI rfl ?_ ?_<;>intro hc<;>(try simp only [go_sem] at hc))|(refine qJ ?_ ?_<;>intro hc<;>(try simp only [hc])<;>(try simp only [go_sem] at hc)))
   refine ⟨⟨i + 1,by omega,fun j u hj hu => by
    rcases Nat.lt_or_ge j i with h | h
    ·exact hij j u h hu
    ·have : j = i := by omega
     subst this
     rw [hv] at hu; cases hu; exact hc⟩,?_,Ent.to ?_ ?_⟩ <;> first | (show _ < _; (try simp only); omega) | (simp (disch:=omega) only [qR,qS,qT,qU,get,Nat.reduceEqDiff,↓reduceIte,qV,qW,qX,qY,qZ,and_self,dI,i64_in,and_true,true_and,rA,rB,rC,rD])
   all_goals exact .refl _
 ·repeat' (first|(with_reducible first|apply qA|apply qB|apply qC|apply qD|apply qE|apply qF)|(simp (disch:=omega) only [go_sem,simprocAttr,qN,qO,qP,qQ,hd])|exact qM rfl rfl rfl|(refine qG rfl ?_)|(refine qH rfl ?_)|(refine qI rfl ?_ ?_<;>intro hc<;>(try simp only [go_sem] at hc))|(refine qJ ?_ ?_<;>intro hc<;>(try simp only [hc])<;>(try simp only [go_sem] at hc)))
  refine retS_of rfl ?_ rfl; simp only [oneD,St.op,get,Nat.reduceEqDiff,↓reduceIte,Option.getD_some,bD,dI]
  simp only [idxI,idxOf_none (he ▸ hij)]
theorem plAAny (b : PBx) (lab : Bool) (l : List PPl) (hl : l.length ≤ 2 ^ 36) (g : FuncId) (fs caps : List C) (p : PPl → Bool) (hp : ∀ x ∈ l,DCall Tryz.prog g (fs.map D.c ++ [.agg ((eA b x).map D.c)] ++ caps.map D.c) [] (bD (p x)) []) : DCall Tryz.prog 91 [.c (.sl lab 4 (rows (eA b) l)),.c (.fn (.func g) fs caps)] [] (bD (l.any p)) [] := by
 refine DCall.of Tryz.func91 sf91 hb91 (Nat.le_of_ble_eq_true rfl) (okRes_nil fun _ => rfl) ?_; simp only [s91,idxs,Nat.reduceAdd]
 repeat' (first|(with_reducible first|apply qA|apply qB|apply qC|apply qD|apply qE|apply qF)|(simp (disch:=omega) only [go_sem,simprocAttr,qN,qO,qP,qQ])|exact qM rfl rfl rfl|(refine qG rfl ?_)|(refine qH rfl ?_)|(refine qI rfl ?_ ?_<;>intro hc<;>(try simp only [go_sem] at hc))|(refine qJ ?_ ?_<;>intro hc<;>(try simp only [hc])<;>(try simp only [go_sem] at hc)))
 refine call_c (plAIdx b lab l hl g fs caps p hp) (by decide) ?_
 repeat' (first|(with_reducible first|apply qA|apply qB|apply qC|apply qD|apply qE|apply qF)|(simp (disch:=omega) only [go_sem,simprocAttr,qN,qO,qP,qQ])|exact qM rfl rfl rfl|(refine qG rfl ?_)|(refine qH rfl ?_)|(refine qI rfl ?_ ?_<;>intro hc<;>(try simp only [go_sem] at hc))|(refine qJ ?_ ?_<;>intro hc<;>(try simp only [hc])<;>(try simp only [go_sem] at hc)))
 refine retS_of rfl ?_ rfl; simp only [oneD,St.op,get,Nat.reduceEqDiff,↓reduceIte,Option.getD_some,bD,dI]
 rw [idxI_any]
def plBad (q : PPl) : Bool := !(wthn 0 140 [q.x,q.y])
theorem plBad_no {q : PPl} : plBad q = false ↔ (0 ≤ q.x ∧ q.x ≤ 140) ∧ 0 ≤ q.y ∧ q.y ≤ 140 := by
 simp only [plBad,Bool.not_eq_false',wthn_iff,List.mem_cons,List.not_mem_nil,or_false,forall_eq_or_imp,forall_eq]
theorem plLayer1 (q : PPl) : DCall Tryz.prog 101 [plD q] [] (bD (plBad q)) [] := by
 have h1 := plWithin true 0 140 [q.x,q.y] (by simp)
 unfold plBad
 refine DCall.of Tryz.func101 sf101 hb101 (Nat.le_of_ble_eq_true rfl) (okRes_nil fun _ => rfl) ?_; simp only [s101,idxs,Nat.reduceAdd]
 repeat' (first|(with_reducible first|apply qA|apply qB|apply qC|apply qD|apply qE|apply qF)|(simp (disch:=omega) only [go_sem,simprocAttr,qN,qO,qP,qQ,rF,rG])|exact qM rfl rfl rfl|(refine qG rfl ?_)|(refine qK (h1) (by decide) ?_)|(refine qH rfl ?_)|(refine qI rfl ?_ ?_<;>intro hc<;>(try simp only [go_sem] at hc))|(refine qJ ?_ ?_<;>intro hc<;>(try simp only [hc])<;>(try simp only [go_sem] at hc)))
theorem plPIdx (lab : Bool) (l : List PPl) (hl : l.length ≤ 2 ^ 36) (g : FuncId) (fs caps : List C) (p : PPl → Bool) (hp : ∀ x ∈ l,DCall Tryz.prog g (fs.map D.c ++ [plD x] ++ caps.map D.c) [] (bD (p x)) []) : DCall Tryz.prog 109 [lyD lab l,.c (.fn (.func g) fs caps)] [] (dI (idxI p l)) [] := by
 refine DCall.of Tryz.func109 sf109 hb109 (Nat.le_of_ble_eq_true rfl) (okRes_nil fun _ => rfl) ?_; simp only [s109,idxs,Nat.reduceAdd]
 repeat' (first|(with_reducible first|apply qA|apply qB|apply qC|apply qD|apply qE|apply qF)|(simp (disch:=omega) only [go_sem,simprocAttr,qN,qO,qP,qQ])|exact qM rfl rfl rfl|(refine qG rfl ?_)|(refine qH rfl ?_)|(refine qI rfl ?_ ?_<;>intro hc<;>(try simp only [go_sem] at hc))|(refine qJ ?_ ?_<;>intro hc<;>(try simp only [hc])<;>(try simp only [go_sem] at hc)))
 refine DW.loop (ι := { i : Nat // i ≤ l.length ∧ ∀ j u,j < i → l[j]? = some u → p u = false }) (fun i => ⟨19,[(8,dI i.1),(7,dI l.length),(1,.c (.fn (.func g) fs caps)),(0,lyD lab l)],[]⟩) (fun i => l.length - i.1) ⟨0,Nat.zero_le _,fun j u h => by omega⟩ ?_ ?_
 ·refine Ent.to ?_ ?_ <;> simp (disch:=omega) only [qR,qS,qT,qU,get,Nat.reduceEqDiff,↓reduceIte,qV,qW,qX,qY,qZ,and_self,dI,i64_in,and_true,true_and,rA,rB,rC,rD]
  all_goals exact .refl _
 rintro ⟨i,hi,hij⟩
 rcases at_or l i hi with ⟨v,hv,hlt,hd⟩ | ⟨he,hd⟩
 ·have hcall := hp v (List.mem_of_getElem? hv)
  repeat' (first|(with_reducible first|apply qA|apply qB|apply qC|apply qD|apply qE|apply qF)|(simp (disch:=omega) only [go_sem,simprocAttr,qN,qO,qP,qQ,hd,hv,closeDs_fn,rF,rG])|exact qM rfl rfl rfl|(refine qG rfl ?_)|(refine qH rfl ?_)|(refine qI rfl ?_ ?_<;>intro hc<;>(try simp only [go_sem] at hc))|(refine qJ ?_ ?_<;>intro hc<;>(try simp only [hc])<;>(try simp only [go_sem] at hc)))
  refine call_c hcall (by decide) ?_
  simp (disch:=omega) only [go_sem,simprocAttr,qN,qO,qP,qQ]
  refine DW.cond rfl ?_ ?_ <;> intro hc
  ·repeat' (first|(with_reducible first|apply qA|apply qB|apply qC|apply qD|apply qE|apply qF)|(simp (disch:=omega) only [go_sem,simprocAttr,qN,qO,qP,qQ])|exact qM rfl rfl rfl|(refine qG rfl ?_)|(refine qH rfl ?_)|(refine qI rfl ?_ ?_<;>intro hc<;>(try simp only [go_sem] at hc))|(refine qJ ?_ ?_<;>intro hc<;>(try simp only [hc])<;>(try simp only [go_sem] at hc)))
   refine retS_of rfl ?_ rfl; simp only [oneD,St.op,get,Nat.reduceEqDiff,↓reduceIte,Option.getD_some,bD,dI]
   simp only [idxI,idxOf_some hij hv hc]
  ·repeat' (first|(with_reducible first|apply qA|apply qB|apply qC|apply qD|apply qE|apply qF)|(simp (disch:=omega) only [go_sem,simprocAttr,qN,qO,qP,qQ])|exact qM rfl rfl rfl|(refine qG rfl ?_)|(refine qH rfl ?_)|(refine qI rfl ?_ ?_<;>intro hc<;>(try simp only [go_sem] at hc))|(refine qJ ?_ ?_<;>intro hc<;>(try simp only [hc])<;>(try simp only [go_sem] at hc)))
   refine ⟨⟨i + 1,by omega,fun j u hj hu => by
    rcases Nat.lt_or_ge j i with h | h
    ·exact hij j u h hu
    ·have : j = i := by omega
     subst this
     rw [hv] at hu; cases hu; exact hc⟩,?_,Ent.to ?_ ?_⟩ <;> first | (show _ < _; (try simp only); omega) | (simp (disch:=omega) only [qR,qS,qT,qU,get,Nat.reduceEqDiff,↓reduceIte,qV,qW,qX,qY,qZ,and_self,dI,i64_in,and_true,true_and,rA,rB,rC,rD])
   all_goals exact .refl _
 ·repeat' (first|(with_reducible first|apply qA|apply qB|apply qC|apply qD|apply qE|apply qF)|(simp (disch:=omega) only [go_sem,simprocAttr,qN,qO,qP,qQ,hd])|exact qM rfl rfl rfl|(refine qG rfl ?_)|(refine qH rfl ?_)|(refine qI rfl ?_ ?_<;>intro hc<;>(try simp only [go_sem] at hc))|(refine qJ ?_ ?_<;>intro hc<;>(try simp only [hc])<;>(try simp only [go_sem] at hc)))
  refine retS_of rfl ?_ rfl; simp only [oneD,St.op,get,Nat.reduceEqDiff,↓reduceIte,Option.getD_some,bD,dI]
  simp only [idxI,idxOf_none (he ▸ hij)]
theorem plPAny (lab : Bool) (l : List PPl) (hl : l.length ≤ 2 ^ 36) (g : FuncId) (fs caps : List C) (p : PPl → Bool) (hp : ∀ x ∈ l,DCall Tryz.prog g (fs.map D.c ++ [plD x] ++ caps.map D.c) [] (bD (p x)) []) : DCall Tryz.prog 100 [lyD lab l,.c (.fn (.func g) fs caps)] [] (bD (l.any p)) [] := by
 refine DCall.of Tryz.func100 sf100 hb100 (Nat.le_of_ble_eq_true rfl) (okRes_nil fun _ => rfl) ?_; simp only [s100,idxs,Nat.reduceAdd]
 repeat' (first|(with_reducible first|apply qA|apply qB|apply qC|apply qD|apply qE|apply qF)|(simp (disch:=omega) only [go_sem,simprocAttr,qN,qO,qP,qQ])|exact qM rfl rfl rfl|(refine qG rfl ?_)|(refine qH rfl ?_)|(refine qI rfl ?_ ?_<;>intro hc<;>(try simp only [go_sem] at hc))|(refine qJ ?_ ?_<;>intro hc<;>(try simp only [hc])<;>(try simp only [go_sem] at hc)))
 refine call_c (plPIdx lab l hl g fs caps p hp) (by decide) ?_
 repeat' (first|(with_reducible first|apply qA|apply qB|apply qC|apply qD|apply qE|apply qF)|(simp (disch:=omega) only [go_sem,simprocAttr,qN,qO,qP,qQ])|exact qM rfl rfl rfl|(refine qG rfl ?_)|(refine qH rfl ?_)|(refine qI rfl ?_ ?_<;>intro hc<;>(try simp only [go_sem] at hc))|(refine qJ ?_ ?_<;>intro hc<;>(try simp only [hc])<;>(try simp only [go_sem] at hc)))
 refine retS_of rfl ?_ rfl; simp only [oneD,St.op,get,Nat.reduceEqDiff,↓reduceIte,Option.getD_some,bD,dI]
 rw [idxI_any]
def eLs (l : List PPl) : List C := [.sl false 3 (rows eP l)]
theorem eLs_nb (l : List PPl) : C.nbs (eLs l) = true := by
 simp only [eLs,C.nbs,C.nb,rows_nb eP_nb,Bool.not_false,Bool.and_self,Bool.and_true]
attribute [go_sem] eLs
def lyE : List (List PPl) → Int
 | [] => 0
 | l :: t => if (200 : Int) < (l.length : Int) then 5 else if l.any plBad then 4 else lyE t
set_option maxHeartbeats 1000000 in
theorem plLayers (lab : Bool) (ls : List (List PPl)) (hs : ls.length ≤ 1000) (hl : ∀ l ∈ ls,l.length ≤ 2 ^ 36) : DCall Tryz.prog 80 [.c (.sl lab 1 (rows eLs ls))] [] (dI (lyE ls)) [] := by
 generalize hR : lyE ls = R
 refine DCall.of Tryz.func80 sf80 hb80 (Nat.le_of_ble_eq_true rfl) (okRes_nil fun _ => rfl) ?_; simp only [s80,idxs,Nat.reduceAdd]
 repeat' (first|(with_reducible first|apply qA|apply qB|apply qC|apply qD|apply qE|apply qF)|(simp (disch:=omega) only [go_sem,simprocAttr,qN,qO,qP,qQ])|exact qM rfl rfl rfl|(refine qG rfl ?_)|(refine qH rfl ?_)|(refine qI rfl ?_ ?_<;>intro hc<;>(try simp only [go_sem] at hc))|(refine qJ ?_ ?_<;>intro hc<;>(try simp only [hc])<;>(try simp only [go_sem] at hc)))
 refine DW.loop (ι := { i : Nat // i ≤ ls.length ∧ lyE (ls.drop i) = R }) (fun i => ⟨19,[(7,dI i.1),(6,dI ls.length),(5,.c (.sl lab 1 (rows eLs ls)))],[]⟩) (fun i => ls.length - i.1) ⟨0,Nat.zero_le _,hR⟩ ?_ ?_
 ·refine Ent.to ?_ ?_ <;> simp (disch:=omega) only [qR,qS,qT,qU,get,Nat.reduceEqDiff,↓reduceIte,qV,qW,qX,qY,qZ,and_self,dI,i64_in,and_true,true_and,rA,rB,rC,rD]
  all_goals exact .refl _
 rintro ⟨i,hi,hr⟩
 dsimp only
 rcases at_or ls i hi with ⟨v,hv,hlt,hd⟩ | ⟨he,hd⟩
 ·have h1 : ls.drop i = v :: ls.drop (i + 1) := by rw [List.drop_eq_getElem_cons hlt,(List.getElem_eq_iff hlt).2 hv]
  rw [h1,lyE] at hr
  have hvl := hl v (List.mem_of_getElem? hv)
  have h2 := plPAny false v hvl 101 [] [] plBad (fun q _ => plLayer1 q)
  by_cases h200 : (200 : Int) < (v.length : Int)
  ·rw [if_pos h200] at hr
   subst hr
   have d1 : decide ((200 : Int) < (v.length : Int)) = true := decide_eq_true h200
   repeat' (first|(with_reducible first|apply qA|apply qB|apply qC|apply qD|apply qE|apply qF)|(simp (disch:=omega) only [go_sem,simprocAttr,qN,qO,qP,qQ,hd,hv,d1,rF,rG])|exact qM rfl rfl rfl|(refine qG rfl ?_)|(refine qH rfl ?_)|(refine qI rfl ?_ ?_<;>intro hc<;>(try simp only [go_sem] at hc))|(refine qJ ?_ ?_<;>intro hc<;>(try simp only [hc])<;>(try simp only [go_sem] at hc)))
  ·rw [if_neg h200] at hr
   have d1 : decide ((200 : Int) < (v.length : Int)) = false := decide_eq_false h200
   cases ha : v.any plBad with
   | true =>
    rw [ha,if_pos rfl] at hr
    rw [ha] at h2
    subst hr
    repeat' (first|(with_reducible first|apply qA|apply qB|apply qC|apply qD|apply qE|apply qF)|(simp (disch:=omega) only [go_sem,simprocAttr,qN,qO,qP,qQ,hd,hv,d1,rF,rG])|exact qM rfl rfl rfl|(refine qG rfl ?_)|(refine qK (h2) (by decide) ?_)|(refine qH rfl ?_)|(refine qI rfl ?_ ?_<;>intro hc<;>(try simp only [go_sem] at hc))|(refine qJ ?_ ?_<;>intro hc<;>(try simp only [hc])<;>(try simp only [go_sem] at hc)))
   | false =>
    rw [ha,if_neg Bool.false_ne_true] at hr
    rw [ha] at h2
    repeat' (first|(with_reducible first|apply qA|apply qB|apply qC|apply qD|apply qE|apply qF)|(simp (disch:=omega) only [go_sem,simprocAttr,qN,qO,qP,qQ,hd,hv,d1,rF,rG])|exact qM rfl rfl rfl|(refine qG rfl ?_)|(refine qK (h2) (by decide) ?_)|(refine qH rfl ?_)|(refine qI rfl ?_ ?_<;>intro hc<;>(try simp only [go_sem] at hc))|(refine qJ ?_ ?_<;>intro hc<;>(try simp only [hc])<;>(try simp only [go_sem] at hc)))
    refine ⟨⟨i + 1,hlt,hr⟩,?_,Ent.to ?_ ?_⟩ <;> first | (show _ < _; (try simp only); omega) | (simp (disch:=omega) only [qR,qS,qT,qU,get,Nat.reduceEqDiff,↓reduceIte,qV,qW,qX,qY,qZ,and_self,dI,i64_in,and_true,true_and,rA,rB,rC,rD])
    all_goals exact .refl _
 ·rw [List.drop_eq_nil_of_le (by omega),lyE] at hr
  subst hr
  repeat' (first|(with_reducible first|apply qA|apply qB|apply qC|apply qD|apply qE|apply qF)|(simp (disch:=omega) only [go_sem,simprocAttr,qN,qO,qP,qQ,hd])|exact qM rfl rfl rfl|(refine qG rfl ?_)|(refine qH rfl ?_)|(refine qI rfl ?_ ?_<;>intro hc<;>(try simp only [go_sem] at hc))|(refine qJ ?_ ?_<;>intro hc<;>(try simp only [hc])<;>(try simp only [go_sem] at hc)))
def opE (p : PBs) (b : PBx) (ls : List (List PPl)) : Int := if chkE p b ≠ 0 then chkE p b else lyE ls
theorem plOpen (lab : Bool) (p : PBs) (b : PBx) (ls : List (List PPl)) (hs : ls.length ≤ 1000) (hl : ∀ l ∈ ls,l.length ≤ 2 ^ 36) (h : chkE p b = 0) : DCall Tryz.prog 54 [bsD p,bxD b,.c (.sl lab 1 (rows eLs ls))] [] (.tup [bedD p b,dI (lyE ls)]) [] := by
 have h1 := plCheck p b
 have h2 := plLayers lab ls hs hl
 rw [h] at h1
 refine DCall.of Tryz.func54 sf54 hb54 (Nat.le_of_ble_eq_true rfl) (okRes_nil fun _ => rfl) ?_; simp only [s54,idxs,Nat.reduceAdd]
 repeat' (first|(with_reducible first|apply qA|apply qB|apply qC|apply qD|apply qE|apply qF)|(refine qL rfl (WF.of ?_) ?_; first|rfl|skip)|(simp (disch:=omega) only [go_sem,simprocAttr,qN,qO,qP,qQ])|exact qM rfl rfl rfl|(refine qG rfl ?_)|(refine qK (h1) (by decide) ?_)|(refine qK (h2) (by decide) ?_)|(refine qH rfl ?_)|(refine qI rfl ?_ ?_<;>intro hc<;>(try simp only [go_sem] at hc))|(refine qJ ?_ ?_<;>intro hc<;>(try simp only [hc])<;>(try simp only [go_sem] at hc)))
theorem plOpenE (lab : Bool) (p : PBs) (b : PBx) (ls : List (List PPl)) (h : chkE p b ≠ 0) : DCall Tryz.prog 54 [bsD p,bxD b,.c (.sl lab 1 (rows eLs ls))] [] (.tup [noneBed,dI (chkE p b)]) [] := by
 have h1 := plCheck p b
 generalize chkE p b = e at *
 have hd : (e != 0) = true := by simpa using h
 refine DCall.of Tryz.func54 sf54 hb54 (Nat.le_of_ble_eq_true rfl) (okRes_nil fun _ => rfl) ?_; simp only [s54,idxs,Nat.reduceAdd]
 repeat' (first|(with_reducible first|apply qA|apply qB|apply qC|apply qD|apply qE|apply qF)|(refine qL rfl (WF.of ?_) ?_; first|rfl|skip)|(simp (disch:=omega) only [go_sem,simprocAttr,qN,qO,qP,qQ,hd])|exact qM rfl rfl rfl|(refine qG rfl ?_)|(refine qK (h1) (by decide) ?_)|(refine qH rfl ?_)|(refine qI rfl ?_ ?_<;>intro hc<;>(try simp only [go_sem] at hc))|(refine qJ ?_ ?_<;>intro hc<;>(try simp only [hc])<;>(try simp only [go_sem] at hc)))
end Go.Dw.Seat
end
section
set_option linter.unusedSimpArgs false
set_option maxRecDepth 100000
namespace Go.Dw.Seat
open Go Go.Dw Go.Proofs Go.IntWalk
theorem rowC_snocA (b : PBx) (l : List PPl) (q : PPl) : rowC (rows (eA b) l) ++ [[D.c (.v (.int .i64 q.x)),D.c (.v (.int .i64 q.y)),D.c (.v (.int .i64 (q.x + sdX b q))),D.c (.v (.int .i64 (q.y + sdY b q)))]] = rowC (rows (eA b) (l ++ [q])) := by simp [rowC,rows,eA]
set_option maxHeartbeats 4000000 in
theorem plFlt (p : PBs) (b : PBx) (hp : p.ok) (hb : b.ok) (lab : Bool) (l : List PPl) (hl : l.length ≤ 1000) (hf : ∀ q ∈ l,q.fine) : DCall Tryz.prog 64 [bedD p b,lyD lab l] [] (.tup [dI (fltF p b l).1,dI (fltF p b l).2]) [] := by
 have hr := plRoom p b hp
 obtain ⟨R,hR⟩ : ∃ R,fltF p b l = R := ⟨_,rfl⟩
 rw [hR]
 refine DCall.of Tryz.func64 sf64 hb64 (Nat.le_of_ble_eq_true rfl) (okRes_nil fun _ => rfl) ?_; simp only [s64,idxs,Nat.reduceAdd]
 repeat' (first|(with_reducible first|apply qA|apply qB|apply qC|apply qD|apply qE|apply qF)|(simp (disch:=omega) only [go_sem,simprocAttr,qN,qO,qP,qQ])|exact qM rfl rfl rfl|(refine qG rfl ?_)|(refine qK (hr) (by decide) ?_)|(refine qH rfl ?_)|(refine qI rfl ?_ ?_<;>intro hc<;>(try simp only [go_sem] at hc))|(refine qJ ?_ ?_<;>intro hc<;>(try simp only [hc])<;>(try simp only [go_sem] at hc)))
 refine DW.loop (ι := { i : Nat // i ≤ l.length ∧ faultF p b (l.take i) (l.drop i) = R }) (fun i => ⟨48,[(16,dI i.1),(15,dI l.length),(14,lyD lab l),(7,.own 13),(6,.box 6 0),(2,.box 2 0)],[(13,.row 4 (rowC (rows (eA b) (l.take i.1)))),(6,.box [dI (rmX p),dI (rmY p)]),(2,.box [dI p.lg,dI p.wd,dI p.hi,dI p.ov,dI p.top,dI p.load,dI b.lg,dI b.wd,dI b.hi,dI b.wl,dI b.wh,dI b.sl,dI b.sh])]⟩) (fun i => l.length - i.1) ⟨0,Nat.zero_le _,hR⟩ ?_ ?_
 ·refine Ent.to ?_ ?_ <;> simp (disch:=omega) only [qR,qS,qT,qU,get,Nat.reduceEqDiff,↓reduceIte,qV,qW,qX,qY,qZ,and_self,dI,i64_in,and_true,true_and,rA,rB,rC,rD,List.take_zero]
  all_goals first | exact ⟨.refl _,.refl _,.refl _⟩ | exact ⟨.refl _,.refl _⟩ | exact .refl _
 rintro ⟨i,hi,hr2⟩
 dsimp only
 rcases at_or l i hi with ⟨q,hq,hlt,hd⟩ | ⟨he,hd⟩
 ·have h1 : l.drop i = q :: l.drop (i + 1) := by rw [List.drop_eq_getElem_cons hlt,(List.getElem_eq_iff hlt).2 hq]
  have htk : l.take (i + 1) = l.take i ++ [q] := by rw [List.take_add_one,hq]; rfl
  have htl : (l.take i).length = i := by rw [List.length_take]; omega
  rw [h1,faultF,htl,← htk] at hr2
  have hqf := hf q (List.mem_of_getElem? hq)
  have ha := plArea p b hb q hqf
  have hqx := hqf.x
  have hqy := hqf.y
  have hqs := side_pos hb q
  have hany := plAAny b true (l.take i) (by omega) 92 [] [.ro true (eA b q) 0] (fun r => decide (0 < comI b q r)) (fun r hr' => plFault1 b hb q r hqf (hf r (List.mem_of_mem_take hr')) true)
  by_cases o1 : rmX p < q.x + sdX b q
  ·have d1 : decide (rmX p < q.x + sdX b q) = true := decide_eq_true o1
   rw [outB,d1,Bool.true_or,if_pos rfl] at hr2
   subst hr2
   repeat' (first|(with_reducible first|apply qA|apply qB|apply qC|apply qD|apply qE|apply qF)|(simp (disch:=omega) only [go_sem,simprocAttr,qN,qO,qP,qQ,hd,hq,d1,rF,rG])|exact qM rfl rfl rfl|(refine qG rfl ?_)|(refine qK (ha) (by decide) ?_)|(refine qH rfl ?_)|(refine qI rfl ?_ ?_<;>intro hc<;>(try simp only [go_sem] at hc))|(refine qJ ?_ ?_<;>intro hc<;>(try simp only [hc])<;>(try simp only [go_sem] at hc)))
  have d1 : decide (rmX p < q.x + sdX b q) = false := decide_eq_false o1
  by_cases o2 : rmY p < q.y + sdY b q
  ·have d2 : decide (rmY p < q.y + sdY b q) = true := decide_eq_true o2
   rw [outB,d1,d2,Bool.or_true,if_pos rfl] at hr2
   subst hr2
   repeat' (first|(with_reducible first|apply qA|apply qB|apply qC|apply qD|apply qE|apply qF)|(simp (disch:=omega) only [go_sem,simprocAttr,qN,qO,qP,qQ,hd,hq,d1,d2,rF,rG])|exact qM rfl rfl rfl|(refine qG rfl ?_)|(refine qK (ha) (by decide) ?_)|(refine qH rfl ?_)|(refine qI rfl ?_ ?_<;>intro hc<;>(try simp only [go_sem] at hc))|(refine qJ ?_ ?_<;>intro hc<;>(try simp only [hc])<;>(try simp only [go_sem] at hc)))
  have d2 : decide (rmY p < q.y + sdY b q) = false := decide_eq_false o2
  rw [outB,d1,d2,Bool.or_false,if_neg Bool.false_ne_true,intoB] at hr2
  cases hA : (l.take i).any fun r => decide (0 < comI b q r) with
  | true =>
   rw [hA,if_pos rfl] at hr2
   rw [hA] at hany
   subst hr2
   repeat' (first|(with_reducible first|apply qA|apply qB|apply qC|apply qD|apply qE|apply qF)|(simp (disch:=omega) only [go_sem,simprocAttr,qN,qO,qP,qQ,hd,hq,d1,d2,rF,rG])|exact qM rfl rfl rfl|(refine qG rfl ?_)|(refine qK (ha) (by decide) ?_)|(refine qK (hany) (by decide) ?_)|(refine qH rfl ?_)|(refine qI rfl ?_ ?_<;>intro hc<;>(try simp only [go_sem] at hc))|(refine qJ ?_ ?_<;>intro hc<;>(try simp only [hc])<;>(try simp only [go_sem] at hc)))
   skip
  | false =>
   rw [hA,if_neg Bool.false_ne_true] at hr2
   rw [hA] at hany
   repeat' (first|(with_reducible first|apply qA|apply qB|apply qC|apply qD|apply qE|apply qF)|(simp (disch:=omega) only [go_sem,simprocAttr,qN,qO,qP,qQ,hd,hq,d1,d2,htl,rF,rG])|exact qM rfl rfl rfl|(refine qG rfl ?_)|(refine qK (ha) (by decide) ?_)|(refine qK (hany) (by decide) ?_)|(refine qH rfl ?_)|(refine qI rfl ?_ ?_<;>intro hc<;>(try simp only [go_sem] at hc))|(refine qJ ?_ ?_<;>intro hc<;>(try simp only [hc])<;>(try simp only [go_sem] at hc)))
   refine ⟨⟨i + 1,hlt,hr2⟩,?_,Ent.to ?_ ?_⟩ <;> first | (show _ < _; (try simp only); omega) | (simp (disch:=omega) only [qR,qS,qT,qU,get,Nat.reduceEqDiff,↓reduceIte,qV,qW,qX,qY,qZ,and_self,dI,i64_in,and_true,true_and,rA,rB,rC,rD,htk,rowC_snocA])
   all_goals first | exact ⟨.refl _,.refl _,.refl _⟩ | exact ⟨.refl _,.refl _⟩ | exact .refl _
 ·rw [List.drop_eq_nil_of_le (by omega),faultF] at hr2
  subst hr2
  repeat' (first|(with_reducible first|apply qA|apply qB|apply qC|apply qD|apply qE|apply qF)|(simp (disch:=omega) only [go_sem,simprocAttr,qN,qO,qP,qQ,hd])|exact qM rfl rfl rfl|(refine qG rfl ?_)|(refine qH rfl ?_)|(refine qI rfl ?_ ?_<;>intro hc<;>(try simp only [go_sem] at hc))|(refine qJ ?_ ?_<;>intro hc<;>(try simp only [hc])<;>(try simp only [go_sem] at hc)))
end Go.Dw.Seat
end
