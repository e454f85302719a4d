/- Helpers of a proof. -/
import Derived.Test.YtimgcfmeakekbaaW46
import Derived.Test.YtimgcfmeakekbaaProg
set_option linter.unusedVariables false
set_option linter.unusedSimpArgs false
section
namespace Go.Dw.Seat
open Go Go.Dw Go.Proofs
instance laysI : Lays := ⟨[]⟩
theorem laid0 (W : World) : LaidA (fun _ => False) W := fun _ hp => nomatch hp
theorem el0 : elemI Try.prog 0 = none := by kernel_rfl
theorem ty1 : tyI Try.prog 1 = some ⟨false, 1, [.nilFunc], 8⟩ := by kernel_rfl
theorem el1 : elemI Try.prog 1 = none := by kernel_rfl
theorem ty2 : tyI Try.prog 2 = some ⟨false, 1, [(.int .i64 0)], 8⟩ := by kernel_rfl
theorem el2 : elemI Try.prog 2 = none := by kernel_rfl
theorem it2 : intI Try.prog 2 = some .i64 := by kernel_rfl
theorem ty3 : tyI Try.prog 3 = some ⟨false, 1, [(.int .i64 0)], 8⟩ := by kernel_rfl
theorem el3 : elemI Try.prog 3 = none := by kernel_rfl
theorem it3 : intI Try.prog 3 = some .i64 := by kernel_rfl
theorem ty4 : tyI Try.prog 4 = some ⟨false, 1, [(.bool false)], 1⟩ := by kernel_rfl
theorem el4 : elemI Try.prog 4 = none := by kernel_rfl
theorem bl4 : blI Try.prog 4 = true := by kernel_rfl
theorem ty5 : tyI Try.prog 5 = some ⟨false, 1, [(.int .u8 0)], 1⟩ := by kernel_rfl
theorem el5 : elemI Try.prog 5 = none := by kernel_rfl
theorem it5 : intI Try.prog 5 = some .u8 := by kernel_rfl
theorem ty6 : tyI Try.prog 6 = some ⟨false, 1, [(.int .u8 0)], 1⟩ := by kernel_rfl
theorem el6 : elemI Try.prog 6 = none := by kernel_rfl
theorem it6 : intI Try.prog 6 = some .u8 := by kernel_rfl
theorem ty7 : tyI Try.prog 7 = some ⟨true, 4, [(.int .i64 0), (.int .i64 0), (.bool false), (.int .u8 0)], 24⟩ := by kernel_rfl
theorem el7 : elemI Try.prog 7 = none := by kernel_rfl
theorem eq7 : eqTy Try.prog 7 = some (.st [(0, 1, .it), (1, 1, .it), (2, 1, .bl), (3, 1, .it)]) := by kernel_rfl
theorem pl7 : placesI Try.prog 7 = some [(0, 1), (1, 1), (2, 1), (3, 1)] := by kernel_rfl
theorem fi7_0 : fieldI Try.prog 7 0 = some (0, 1, false) := by kernel_rfl
theorem fi7_1 : fieldI Try.prog 7 1 = some (1, 1, false) := by kernel_rfl
theorem fi7_2 : fieldI Try.prog 7 2 = some (2, 1, false) := by kernel_rfl
theorem fi7_3 : fieldI Try.prog 7 3 = some (3, 1, false) := by kernel_rfl
theorem ty8 : tyI Try.prog 8 = some ⟨true, 4, [(.int .i64 0), (.int .i64 0), (.bool false), (.int .u8 0)], 24⟩ := by kernel_rfl
theorem el8 : elemI Try.prog 8 = none := by kernel_rfl
theorem eq8 : eqTy Try.prog 8 = some (.st [(0, 1, .it), (1, 1, .it), (2, 1, .bl), (3, 1, .it)]) := by kernel_rfl
theorem pl8 : placesI Try.prog 8 = some [(0, 1), (1, 1), (2, 1), (3, 1)] := by kernel_rfl
theorem fi8_0 : fieldI Try.prog 8 0 = some (0, 1, false) := by kernel_rfl
theorem fi8_1 : fieldI Try.prog 8 1 = some (1, 1, false) := by kernel_rfl
theorem fi8_2 : fieldI Try.prog 8 2 = some (2, 1, false) := by kernel_rfl
theorem fi8_3 : fieldI Try.prog 8 3 = some (3, 1, false) := by kernel_rfl
theorem ty9 : tyI Try.prog 9 = some ⟨false, 1, [(.string ⟨#[]⟩)], 16⟩ := by kernel_rfl
theorem el9 : elemI Try.prog 9 = none := by kernel_rfl
theorem ty10 : tyI Try.prog 10 = some ⟨false, 1, [(.string ⟨#[]⟩)], 16⟩ := by kernel_rfl
theorem el10 : elemI Try.prog 10 = none := by kernel_rfl
theorem ty11 : tyI Try.prog 11 = some ⟨false, 1, [(.string ⟨#[]⟩)], 16⟩ := by kernel_rfl
theorem el11 : elemI Try.prog 11 = none := by kernel_rfl
theorem ty12 : tyI Try.prog 12 = some ⟨false, 1, [(.int .u64 0)], 8⟩ := by kernel_rfl
theorem el12 : elemI Try.prog 12 = none := by kernel_rfl
theorem it12 : intI Try.prog 12 = some .u64 := by kernel_rfl
theorem ty13 : tyI Try.prog 13 = some ⟨true, 2, [(.string ⟨#[]⟩), (.int .u64 0)], 24⟩ := by kernel_rfl
theorem el13 : elemI Try.prog 13 = none := by kernel_rfl
theorem pl13 : placesI Try.prog 13 = some [(0, 1), (1, 1)] := by kernel_rfl
theorem fi13_0 : fieldI Try.prog 13 0 = some (0, 1, false) := by kernel_rfl
theorem fi13_1 : fieldI Try.prog 13 1 = some (1, 1, false) := by kernel_rfl
theorem ty14 : tyI Try.prog 14 = some ⟨true, 2, [(.string ⟨#[]⟩), (.int .u64 0)], 24⟩ := by kernel_rfl
theorem el14 : elemI Try.prog 14 = none := by kernel_rfl
theorem pl14 : placesI Try.prog 14 = some [(0, 1), (1, 1)] := by kernel_rfl
theorem fi14_0 : fieldI Try.prog 14 0 = some (0, 1, false) := by kernel_rfl
theorem fi14_1 : fieldI Try.prog 14 1 = some (1, 1, false) := by kernel_rfl
theorem ty15 : tyI Try.prog 15 = some ⟨false, 1, [(.pointer none)], 8⟩ := by kernel_rfl
theorem el15 : elemI Try.prog 15 = none := by kernel_rfl
theorem ty16 : tyI Try.prog 16 = some ⟨false, 1, [(.pointer none)], 8⟩ := by kernel_rfl
theorem el16 : elemI Try.prog 16 = none := by kernel_rfl
theorem ty17 : tyI Try.prog 17 = some ⟨false, 1, [(.pointer none)], 8⟩ := by kernel_rfl
theorem el17 : elemI Try.prog 17 = none := by kernel_rfl
theorem ty18 : tyI Try.prog 18 = some ⟨true, 1, [(.pointer none)], 8⟩ := by kernel_rfl
theorem el18 : elemI Try.prog 18 = none := by kernel_rfl
theorem pl18 : placesI Try.prog 18 = some [(0, 1)] := by kernel_rfl
theorem fi18_0 : fieldI Try.prog 18 0 = some (0, 1, false) := by kernel_rfl
theorem ty19 : tyI Try.prog 19 = some ⟨true, 1, [(.pointer none)], 8⟩ := by kernel_rfl
theorem el19 : elemI Try.prog 19 = none := by kernel_rfl
theorem pl19 : placesI Try.prog 19 = some [(0, 1)] := by kernel_rfl
theorem fi19_0 : fieldI Try.prog 19 0 = some (0, 1, false) := by kernel_rfl
theorem ty20 : tyI Try.prog 20 = some ⟨false, 1, [.nilIface], 16⟩ := by kernel_rfl
theorem el20 : elemI Try.prog 20 = none := by kernel_rfl
theorem ty21 : tyI Try.prog 21 = some ⟨false, 1, [(.int .i32 0)], 4⟩ := by kernel_rfl
theorem el21 : elemI Try.prog 21 = none := by kernel_rfl
theorem it21 : intI Try.prog 21 = some .i32 := by kernel_rfl
theorem ty22 : tyI Try.prog 22 = some ⟨true, 6, [(.int .i64 0), (.int .i64 0), (.int .i64 0), (.int .i64 0), (.int .i64 0), (.int .i64 0)], 48⟩ := by kernel_rfl
theorem el22 : elemI Try.prog 22 = none := by kernel_rfl
theorem eq22 : eqTy Try.prog 22 = some (.st [(0, 1, .it), (1, 1, .it), (2, 1, .it), (3, 1, .it), (4, 1, .it), (5, 1, .it)]) := by kernel_rfl
theorem pl22 : placesI Try.prog 22 = some [(0, 1), (1, 1), (2, 1), (3, 1), (4, 1), (5, 1)] := by kernel_rfl
theorem fi22_0 : fieldI Try.prog 22 0 = some (0, 1, false) := by kernel_rfl
theorem fi22_1 : fieldI Try.prog 22 1 = some (1, 1, false) := by kernel_rfl
theorem fi22_2 : fieldI Try.prog 22 2 = some (2, 1, false) := by kernel_rfl
theorem fi22_3 : fieldI Try.prog 22 3 = some (3, 1, false) := by kernel_rfl
theorem fi22_4 : fieldI Try.prog 22 4 = some (4, 1, false) := by kernel_rfl
theorem fi22_5 : fieldI Try.prog 22 5 = some (5, 1, false) := by kernel_rfl
theorem ty23 : tyI Try.prog 23 = some ⟨true, 6, [(.int .i64 0), (.int .i64 0), (.int .i64 0), (.int .i64 0), (.int .i64 0), (.int .i64 0)], 48⟩ := by kernel_rfl
theorem el23 : elemI Try.prog 23 = none := by kernel_rfl
theorem eq23 : eqTy Try.prog 23 = some (.st [(0, 1, .it), (1, 1, .it), (2, 1, .it), (3, 1, .it), (4, 1, .it), (5, 1, .it)]) := by kernel_rfl
theorem pl23 : placesI Try.prog 23 = some [(0, 1), (1, 1), (2, 1), (3, 1), (4, 1), (5, 1)] := by kernel_rfl
theorem fi23_0 : fieldI Try.prog 23 0 = some (0, 1, false) := by kernel_rfl
theorem fi23_1 : fieldI Try.prog 23 1 = some (1, 1, false) := by kernel_rfl
theorem fi23_2 : fieldI Try.prog 23 2 = some (2, 1, false) := by kernel_rfl
theorem fi23_3 : fieldI Try.prog 23 3 = some (3, 1, false) := by kernel_rfl
theorem fi23_4 : fieldI Try.prog 23 4 = some (4, 1, false) := by kernel_rfl
theorem fi23_5 : fieldI Try.prog 23 5 = some (5, 1, false) := by kernel_rfl
theorem ty24 : tyI Try.prog 24 = some ⟨true, 2, [(.int .i64 0), (.int .i64 0)], 16⟩ := by kernel_rfl
theorem el24 : elemI Try.prog 24 = none := by kernel_rfl
theorem eq24 : eqTy Try.prog 24 = some (.st [(0, 1, .it), (1, 1, .it)]) := by kernel_rfl
theorem pl24 : placesI Try.prog 24 = some [(0, 1), (1, 1)] := by kernel_rfl
theorem fi24_0 : fieldI Try.prog 24 0 = some (0, 1, false) := by kernel_rfl
theorem fi24_1 : fieldI Try.prog 24 1 = some (1, 1, false) := by kernel_rfl
theorem ty25 : tyI Try.prog 25 = some ⟨true, 2, [(.int .i64 0), (.int .i64 0)], 16⟩ := by kernel_rfl
theorem el25 : elemI Try.prog 25 = none := by kernel_rfl
theorem eq25 : eqTy Try.prog 25 = some (.st [(0, 1, .it), (1, 1, .it)]) := by kernel_rfl
theorem pl25 : placesI Try.prog 25 = some [(0, 1), (1, 1)] := by kernel_rfl
theorem fi25_0 : fieldI Try.prog 25 0 = some (0, 1, false) := by kernel_rfl
theorem fi25_1 : fieldI Try.prog 25 1 = some (1, 1, false) := by kernel_rfl
theorem ty26 : tyI Try.prog 26 = some ⟨true, 7, [(.int .i64 0), (.int .i64 0), (.int .i64 0), (.int .i64 0), (.int .i64 0), (.int .i64 0), (.int .i64 0)], 56⟩ := by kernel_rfl
theorem el26 : elemI Try.prog 26 = none := by kernel_rfl
theorem eq26 : eqTy Try.prog 26 = some (.st [(0, 1, .it), (1, 1, .it), (2, 1, .it), (3, 2, (.st [(0, 1, .it), (1, 1, .it)])), (5, 2, (.st [(0, 1, .it), (1, 1, .it)]))]) := by kernel_rfl
theorem pl26 : placesI Try.prog 26 = some [(0, 1), (1, 1), (2, 1), (3, 2), (5, 2)] := by kernel_rfl
theorem fi26_0 : fieldI Try.prog 26 0 = some (0, 1, false) := by kernel_rfl
theorem fi26_1 : fieldI Try.prog 26 1 = some (1, 1, false) := by kernel_rfl
theorem fi26_2 : fieldI Try.prog 26 2 = some (2, 1, false) := by kernel_rfl
theorem fi26_3 : fieldI Try.prog 26 3 = some (3, 2, true) := by kernel_rfl
theorem fi26_4 : fieldI Try.prog 26 4 = some (5, 2, true) := by kernel_rfl
theorem ty27 : tyI Try.prog 27 = some ⟨true, 7, [(.int .i64 0), (.int .i64 0), (.int .i64 0), (.int .i64 0), (.int .i64 0), (.int .i64 0), (.int .i64 0)], 56⟩ := by kernel_rfl
theorem el27 : elemI Try.prog 27 = none := by kernel_rfl
theorem eq27 : eqTy Try.prog 27 = some (.st [(0, 1, .it), (1, 1, .it), (2, 1, .it), (3, 2, (.st [(0, 1, .it), (1, 1, .it)])), (5, 2, (.st [(0, 1, .it), (1, 1, .it)]))]) := by kernel_rfl
theorem pl27 : placesI Try.prog 27 = some [(0, 1), (1, 1), (2, 1), (3, 2), (5, 2)] := by kernel_rfl
theorem fi27_0 : fieldI Try.prog 27 0 = some (0, 1, false) := by kernel_rfl
theorem fi27_1 : fieldI Try.prog 27 1 = some (1, 1, false) := by kernel_rfl
theorem fi27_2 : fieldI Try.prog 27 2 = some (2, 1, false) := by kernel_rfl
theorem fi27_3 : fieldI Try.prog 27 3 = some (3, 2, true) := by kernel_rfl
theorem fi27_4 : fieldI Try.prog 27 4 = some (5, 2, true) := by kernel_rfl
theorem ty28 : tyI Try.prog 28 = some ⟨true, 13, [(.int .i64 0), (.int .i64 0), (.int .i64 0), (.int .i64 0), (.int .i64 0), (.int .i64 0), (.int .i64 0), (.int .i64 0), (.int .i64 0), (.int .i64 0), (.int .i64 0), (.int .i64 0), (.int .i64 0)], 104⟩ := by kernel_rfl
theorem el28 : elemI Try.prog 28 = none := by kernel_rfl
theorem eq28 : eqTy Try.prog 28 = some (.st [(0, 6, (.st [(0, 1, .it), (1, 1, .it), (2, 1, .it), (3, 1, .it), (4, 1, .it), (5, 1, .it)])), (6, 7, (.st [(0, 1, .it), (1, 1, .it), (2, 1, .it), (3, 2, (.st [(0, 1, .it), (1, 1, .it)])), (5, 2, (.st [(0, 1, .it), (1, 1, .it)]))]))]) := by kernel_rfl
theorem pl28 : placesI Try.prog 28 = some [(0, 6), (6, 7)] := by kernel_rfl
theorem fi28_0 : fieldI Try.prog 28 0 = some (0, 6, true) := by kernel_rfl
theorem fi28_1 : fieldI Try.prog 28 1 = some (6, 7, true) := by kernel_rfl
theorem ty29 : tyI Try.prog 29 = some ⟨true, 13, [(.int .i64 0), (.int .i64 0), (.int .i64 0), (.int .i64 0), (.int .i64 0), (.int .i64 0), (.int .i64 0), (.int .i64 0), (.int .i64 0), (.int .i64 0), (.int .i64 0), (.int .i64 0), (.int .i64 0)], 104⟩ := by kernel_rfl
theorem el29 : elemI Try.prog 29 = none := by kernel_rfl
theorem eq29 : eqTy Try.prog 29 = some (.st [(0, 6, (.st [(0, 1, .it), (1, 1, .it), (2, 1, .it), (3, 1, .it), (4, 1, .it), (5, 1, .it)])), (6, 7, (.st [(0, 1, .it), (1, 1, .it), (2, 1, .it), (3, 2, (.st [(0, 1, .it), (1, 1, .it)])), (5, 2, (.st [(0, 1, .it), (1, 1, .it)]))]))]) := by kernel_rfl
theorem pl29 : placesI Try.prog 29 = some [(0, 6), (6, 7)] := by kernel_rfl
theorem fi29_0 : fieldI Try.prog 29 0 = some (0, 6, true) := by kernel_rfl
theorem fi29_1 : fieldI Try.prog 29 1 = some (6, 7, true) := by kernel_rfl
theorem ty30 : tyI Try.prog 30 = some ⟨false, 1, [(.int .i64 0)], 8⟩ := by kernel_rfl
theorem el30 : elemI Try.prog 30 = none := by kernel_rfl
theorem it30 : intI Try.prog 30 = some .i64 := by kernel_rfl
theorem ty31 : tyI Try.prog 31 = some ⟨false, 1, [.nilFunc], 8⟩ := by kernel_rfl
theorem el31 : elemI Try.prog 31 = none := by kernel_rfl
theorem ty32 : tyI Try.prog 32 = some ⟨false, 1, [.nilFunc], 8⟩ := by kernel_rfl
theorem el32 : elemI Try.prog 32 = none := by kernel_rfl
theorem el33 : elemI Try.prog 33 = none := by kernel_rfl
theorem ty34 : tyI Try.prog 34 = some ⟨false, 1, [.nilFunc], 8⟩ := by kernel_rfl
theorem el34 : elemI Try.prog 34 = none := by kernel_rfl
theorem ty35 : tyI Try.prog 35 = some ⟨false, 1, [(.slice none 0 0)], 24⟩ := by kernel_rfl
theorem el35 : elemI Try.prog 35 = some 83 := by kernel_rfl
theorem el36 : elemI Try.prog 36 = none := by kernel_rfl
theorem ty37 : tyI Try.prog 37 = some ⟨false, 1, [.nilFunc], 8⟩ := by kernel_rfl
theorem el37 : elemI Try.prog 37 = none := by kernel_rfl
theorem ty38 : tyI Try.prog 38 = some ⟨false, 1, [.nilFunc], 8⟩ := by kernel_rfl
theorem el38 : elemI Try.prog 38 = none := by kernel_rfl
theorem ty39 : tyI Try.prog 39 = some ⟨false, 1, [.nilFunc], 8⟩ := by kernel_rfl
theorem el39 : elemI Try.prog 39 = none := by kernel_rfl
theorem ty40 : tyI Try.prog 40 = some ⟨false, 1, [(.int .i64 0)], 8⟩ := by kernel_rfl
theorem el40 : elemI Try.prog 40 = none := by kernel_rfl
theorem it40 : intI Try.prog 40 = some .i64 := by kernel_rfl
theorem el41 : elemI Try.prog 41 = none := by kernel_rfl
theorem ty42 : tyI Try.prog 42 = some ⟨false, 1, [.nilFunc], 8⟩ := by kernel_rfl
theorem el42 : elemI Try.prog 42 = none := by kernel_rfl
theorem ty43 : tyI Try.prog 43 = some ⟨false, 1, [.nilFunc], 8⟩ := by kernel_rfl
theorem el43 : elemI Try.prog 43 = none := by kernel_rfl
theorem ty44 : tyI Try.prog 44 = some ⟨false, 1, [.nilFunc], 8⟩ := by kernel_rfl
theorem el44 : elemI Try.prog 44 = none := by kernel_rfl
theorem ty45 : tyI Try.prog 45 = some ⟨false, 1, [.nilFunc], 8⟩ := by kernel_rfl
theorem el45 : elemI Try.prog 45 = none := by kernel_rfl
theorem ty46 : tyI Try.prog 46 = some ⟨false, 1, [(.slice none 0 0)], 24⟩ := by kernel_rfl
theorem el46 : elemI Try.prog 46 = some 85 := by kernel_rfl
theorem el47 : elemI Try.prog 47 = none := by kernel_rfl
theorem ty48 : tyI Try.prog 48 = some ⟨false, 1, [.nilFunc], 8⟩ := by kernel_rfl
theorem el48 : elemI Try.prog 48 = none := by kernel_rfl
theorem ty49 : tyI Try.prog 49 = some ⟨false, 1, [.nilFunc], 8⟩ := by kernel_rfl
theorem el49 : elemI Try.prog 49 = none := by kernel_rfl
theorem ty50 : tyI Try.prog 50 = some ⟨false, 1, [.nilFunc], 8⟩ := by kernel_rfl
theorem el50 : elemI Try.prog 50 = none := by kernel_rfl
theorem ty51 : tyI Try.prog 51 = some ⟨false, 1, [.nilFunc], 8⟩ := by kernel_rfl
theorem el51 : elemI Try.prog 51 = none := by kernel_rfl
theorem ty52 : tyI Try.prog 52 = some ⟨false, 1, [.nilFunc], 8⟩ := by kernel_rfl
theorem el52 : elemI Try.prog 52 = none := by kernel_rfl
theorem ty53 : tyI Try.prog 53 = some ⟨true, 5, [(.int .i64 0), (.int .i64 0), (.int .i64 0), (.int .i64 0), (.int .i64 0)], 40⟩ := by kernel_rfl
theorem el53 : elemI Try.prog 53 = none := by kernel_rfl
theorem eq53 : eqTy Try.prog 53 = some (.st [(0, 1, .it), (1, 1, .it), (2, 1, .it), (3, 1, .it), (4, 1, .it)]) := by kernel_rfl
theorem pl53 : placesI Try.prog 53 = some [(0, 1), (1, 1), (2, 1), (3, 1), (4, 1)] := by kernel_rfl
theorem fi53_0 : fieldI Try.prog 53 0 = some (0, 1, false) := by kernel_rfl
theorem fi53_1 : fieldI Try.prog 53 1 = some (1, 1, false) := by kernel_rfl
theorem fi53_2 : fieldI Try.prog 53 2 = some (2, 1, false) := by kernel_rfl
theorem fi53_3 : fieldI Try.prog 53 3 = some (3, 1, false) := by kernel_rfl
theorem fi53_4 : fieldI Try.prog 53 4 = some (4, 1, false) := by kernel_rfl
theorem ty54 : tyI Try.prog 54 = some ⟨true, 5, [(.int .i64 0), (.int .i64 0), (.int .i64 0), (.int .i64 0), (.int .i64 0)], 40⟩ := by kernel_rfl
theorem el54 : elemI Try.prog 54 = none := by kernel_rfl
theorem eq54 : eqTy Try.prog 54 = some (.st [(0, 1, .it), (1, 1, .it), (2, 1, .it), (3, 1, .it), (4, 1, .it)]) := by kernel_rfl
theorem pl54 : placesI Try.prog 54 = some [(0, 1), (1, 1), (2, 1), (3, 1), (4, 1)] := by kernel_rfl
theorem fi54_0 : fieldI Try.prog 54 0 = some (0, 1, false) := by kernel_rfl
theorem fi54_1 : fieldI Try.prog 54 1 = some (1, 1, false) := by kernel_rfl
theorem fi54_2 : fieldI Try.prog 54 2 = some (2, 1, false) := by kernel_rfl
theorem fi54_3 : fieldI Try.prog 54 3 = some (3, 1, false) := by kernel_rfl
theorem fi54_4 : fieldI Try.prog 54 4 = some (4, 1, false) := by kernel_rfl
theorem ty55 : tyI Try.prog 55 = some ⟨false, 1, [(.slice none 0 0)], 24⟩ := by kernel_rfl
theorem el55 : elemI Try.prog 55 = some 99 := by kernel_rfl
theorem ty56 : tyI Try.prog 56 = some ⟨false, 1, [.nilFunc], 8⟩ := by kernel_rfl
theorem el56 : elemI Try.prog 56 = none := by kernel_rfl
theorem el57 : elemI Try.prog 57 = none := by kernel_rfl
theorem ty58 : tyI Try.prog 58 = some ⟨false, 1, [.nilFunc], 8⟩ := by kernel_rfl
theorem el58 : elemI Try.prog 58 = none := by kernel_rfl
theorem ty59 : tyI Try.prog 59 = some ⟨false, 1, [.nilFunc], 8⟩ := by kernel_rfl
theorem el59 : elemI Try.prog 59 = none := by kernel_rfl
theorem ty60 : tyI Try.prog 60 = some ⟨false, 1, [.nilFunc], 8⟩ := by kernel_rfl
theorem el60 : elemI Try.prog 60 = none := by kernel_rfl
theorem el61 : elemI Try.prog 61 = none := by kernel_rfl
theorem ty62 : tyI Try.prog 62 = some ⟨false, 1, [.nilFunc], 8⟩ := by kernel_rfl
theorem el62 : elemI Try.prog 62 = none := by kernel_rfl
theorem ty63 : tyI Try.prog 63 = some ⟨false, 1, [.nilFunc], 8⟩ := by kernel_rfl
theorem el63 : elemI Try.prog 63 = none := by kernel_rfl
theorem ty64 : tyI Try.prog 64 = some ⟨false, 1, [(.slice none 0 0)], 24⟩ := by kernel_rfl
theorem el64 : elemI Try.prog 64 = some 3 := by kernel_rfl
theorem el65 : elemI Try.prog 65 = none := by kernel_rfl
theorem ty66 : tyI Try.prog 66 = some ⟨false, 1, [.nilFunc], 8⟩ := by kernel_rfl
theorem el66 : elemI Try.prog 66 = none := by kernel_rfl
theorem el67 : elemI Try.prog 67 = none := by kernel_rfl
theorem ty68 : tyI Try.prog 68 = some ⟨false, 1, [.nilFunc], 8⟩ := by kernel_rfl
theorem el68 : elemI Try.prog 68 = none := by kernel_rfl
theorem ty69 : tyI Try.prog 69 = some ⟨false, 1, [(.slice none 0 0)], 24⟩ := by kernel_rfl
theorem el69 : elemI Try.prog 69 = some 4 := by kernel_rfl
theorem ty70 : tyI Try.prog 70 = some ⟨false, 1, [.nilFunc], 8⟩ := by kernel_rfl
theorem el70 : elemI Try.prog 70 = none := by kernel_rfl
theorem ty71 : tyI Try.prog 71 = some ⟨true, 3, [(.int .u8 0), (.int .u8 0), (.int .u8 0)], 3⟩ := by kernel_rfl
theorem el71 : elemI Try.prog 71 = none := by kernel_rfl
theorem ar71 : arrI Try.prog 71 = some (3, 5) := by kernel_rfl
theorem pl71 : placesI Try.prog 71 = some [(0, 1), (1, 1), (2, 1)] := by kernel_rfl
theorem ty72 : tyI Try.prog 72 = some ⟨true, 6, [(.int .u8 0), (.int .u8 0), (.int .u8 0), (.int .u8 0), (.int .u8 0), (.int .u8 0)], 6⟩ := by kernel_rfl
theorem el72 : elemI Try.prog 72 = none := by kernel_rfl
theorem pl72 : placesI Try.prog 72 = some [(0, 3), (3, 3)] := by kernel_rfl
theorem fi72_0 : fieldI Try.prog 72 0 = some (0, 3, true) := by kernel_rfl
theorem fi72_1 : fieldI Try.prog 72 1 = some (3, 3, true) := by kernel_rfl
theorem ty73 : tyI Try.prog 73 = some ⟨true, 6, [(.int .u8 0), (.int .u8 0), (.int .u8 0), (.int .u8 0), (.int .u8 0), (.int .u8 0)], 6⟩ := by kernel_rfl
theorem el73 : elemI Try.prog 73 = none := by kernel_rfl
theorem pl73 : placesI Try.prog 73 = some [(0, 3), (3, 3)] := by kernel_rfl
theorem fi73_0 : fieldI Try.prog 73 0 = some (0, 3, true) := by kernel_rfl
theorem fi73_1 : fieldI Try.prog 73 1 = some (3, 3, true) := by kernel_rfl
theorem ty74 : tyI Try.prog 74 = some ⟨false, 1, [(.slice none 0 0)], 24⟩ := by kernel_rfl
theorem el74 : elemI Try.prog 74 = some 5 := by kernel_rfl
theorem el75 : elemI Try.prog 75 = none := by kernel_rfl
theorem ty76 : tyI Try.prog 76 = some ⟨false, 1, [.nilFunc], 8⟩ := by kernel_rfl
theorem el76 : elemI Try.prog 76 = none := by kernel_rfl
theorem ty77 : tyI Try.prog 77 = some ⟨false, 1, [.nilFunc], 8⟩ := by kernel_rfl
theorem el77 : elemI Try.prog 77 = none := by kernel_rfl
theorem ty78 : tyI Try.prog 78 = some ⟨false, 1, [.nilFunc], 8⟩ := by kernel_rfl
theorem el78 : elemI Try.prog 78 = none := by kernel_rfl
theorem ty79 : tyI Try.prog 79 = some ⟨false, 1, [.nilFunc], 8⟩ := by kernel_rfl
theorem el79 : elemI Try.prog 79 = none := by kernel_rfl
theorem el80 : elemI Try.prog 80 = none := by kernel_rfl
theorem ty81 : tyI Try.prog 81 = some ⟨false, 1, [.nilFunc], 8⟩ := by kernel_rfl
theorem el81 : elemI Try.prog 81 = none := by kernel_rfl
theorem ty82 : tyI Try.prog 82 = some ⟨true, 3, [(.int .i64 0), (.int .i64 0), (.bool false)], 24⟩ := by kernel_rfl
theorem el82 : elemI Try.prog 82 = none := by kernel_rfl
theorem eq82 : eqTy Try.prog 82 = some (.st [(0, 1, .it), (1, 1, .it), (2, 1, .bl)]) := by kernel_rfl
theorem pl82 : placesI Try.prog 82 = some [(0, 1), (1, 1), (2, 1)] := by kernel_rfl
theorem fi82_0 : fieldI Try.prog 82 0 = some (0, 1, false) := by kernel_rfl
theorem fi82_1 : fieldI Try.prog 82 1 = some (1, 1, false) := by kernel_rfl
theorem fi82_2 : fieldI Try.prog 82 2 = some (2, 1, false) := by kernel_rfl
theorem ty83 : tyI Try.prog 83 = some ⟨true, 3, [(.int .i64 0), (.int .i64 0), (.bool false)], 24⟩ := by kernel_rfl
theorem el83 : elemI Try.prog 83 = none := by kernel_rfl
theorem eq83 : eqTy Try.prog 83 = some (.st [(0, 1, .it), (1, 1, .it), (2, 1, .bl)]) := by kernel_rfl
theorem pl83 : placesI Try.prog 83 = some [(0, 1), (1, 1), (2, 1)] := by kernel_rfl
theorem fi83_0 : fieldI Try.prog 83 0 = some (0, 1, false) := by kernel_rfl
theorem fi83_1 : fieldI Try.prog 83 1 = some (1, 1, false) := by kernel_rfl
theorem fi83_2 : fieldI Try.prog 83 2 = some (2, 1, false) := by kernel_rfl
theorem ty84 : tyI Try.prog 84 = some ⟨true, 2, [(.slice none 0 0), (.int .i64 0)], 32⟩ := by kernel_rfl
theorem el84 : elemI Try.prog 84 = none := by kernel_rfl
theorem pl84 : placesI Try.prog 84 = some [(0, 1), (1, 1)] := by kernel_rfl
theorem fi84_0 : fieldI Try.prog 84 0 = some (0, 1, false) := by kernel_rfl
theorem fi84_1 : fieldI Try.prog 84 1 = some (1, 1, false) := by kernel_rfl
theorem ty85 : tyI Try.prog 85 = some ⟨true, 2, [(.slice none 0 0), (.int .i64 0)], 32⟩ := by kernel_rfl
theorem el85 : elemI Try.prog 85 = none := by kernel_rfl
theorem pl85 : placesI Try.prog 85 = some [(0, 1), (1, 1)] := by kernel_rfl
theorem fi85_0 : fieldI Try.prog 85 0 = some (0, 1, false) := by kernel_rfl
theorem fi85_1 : fieldI Try.prog 85 1 = some (1, 1, false) := by kernel_rfl
theorem ty86 : tyI Try.prog 86 = some ⟨false, 1, [.nilFunc], 8⟩ := by kernel_rfl
theorem el86 : elemI Try.prog 86 = none := by kernel_rfl
theorem ty87 : tyI Try.prog 87 = some ⟨false, 1, [.nilFunc], 8⟩ := by kernel_rfl
theorem el87 : elemI Try.prog 87 = none := by kernel_rfl
theorem el88 : elemI Try.prog 88 = none := by kernel_rfl
theorem ty89 : tyI Try.prog 89 = some ⟨false, 1, [.nilFunc], 8⟩ := by kernel_rfl
theorem el89 : elemI Try.prog 89 = none := by kernel_rfl
theorem ty90 : tyI Try.prog 90 = some ⟨false, 1, [.nilFunc], 8⟩ := by kernel_rfl
theorem el90 : elemI Try.prog 90 = none := by kernel_rfl
theorem ty91 : tyI Try.prog 91 = some ⟨true, 4, [(.int .u8 0), (.int .u8 0), (.int .u8 0), (.int .u8 0)], 4⟩ := by kernel_rfl
theorem el91 : elemI Try.prog 91 = none := by kernel_rfl
theorem ar91 : arrI Try.prog 91 = some (4, 5) := by kernel_rfl
theorem pl91 : placesI Try.prog 91 = some [(0, 1), (1, 1), (2, 1), (3, 1)] := by kernel_rfl
theorem ty92 : tyI Try.prog 92 = some ⟨false, 1, [(.slice none 0 0)], 24⟩ := by kernel_rfl
theorem el92 : elemI Try.prog 92 = some 71 := by kernel_rfl
theorem ty93 : tyI Try.prog 93 = some ⟨true, 5, [(.int .u8 0), (.int .u8 0), (.int .u8 0), (.int .u8 0), (.slice none 0 0)], 32⟩ := by kernel_rfl
theorem el93 : elemI Try.prog 93 = none := by kernel_rfl
theorem pl93 : placesI Try.prog 93 = some [(0, 4), (4, 1)] := by kernel_rfl
theorem fi93_0 : fieldI Try.prog 93 0 = some (0, 4, true) := by kernel_rfl
theorem fi93_1 : fieldI Try.prog 93 1 = some (4, 1, false) := by kernel_rfl
theorem ty94 : tyI Try.prog 94 = some ⟨true, 5, [(.int .u8 0), (.int .u8 0), (.int .u8 0), (.int .u8 0), (.slice none 0 0)], 32⟩ := by kernel_rfl
theorem el94 : elemI Try.prog 94 = none := by kernel_rfl
theorem pl94 : placesI Try.prog 94 = some [(0, 4), (4, 1)] := by kernel_rfl
theorem fi94_0 : fieldI Try.prog 94 0 = some (0, 4, true) := by kernel_rfl
theorem fi94_1 : fieldI Try.prog 94 1 = some (4, 1, false) := by kernel_rfl
theorem el95 : elemI Try.prog 95 = none := by kernel_rfl
theorem ty96 : tyI Try.prog 96 = some ⟨false, 1, [.nilFunc], 8⟩ := by kernel_rfl
theorem el96 : elemI Try.prog 96 = none := by kernel_rfl
theorem ty97 : tyI Try.prog 97 = some ⟨true, 2, [(.int .i64 0), (.int .i64 0)], 16⟩ := by kernel_rfl
theorem el97 : elemI Try.prog 97 = none := by kernel_rfl
theorem ar97 : arrI Try.prog 97 = some (2, 3) := by kernel_rfl
theorem pl97 : placesI Try.prog 97 = some [(0, 1), (1, 1)] := by kernel_rfl
theorem ty98 : tyI Try.prog 98 = some ⟨true, 3, [(.int .i64 0), (.int .i64 0), (.int .i64 0)], 24⟩ := by kernel_rfl
theorem el98 : elemI Try.prog 98 = none := by kernel_rfl
theorem eq98 : eqTy Try.prog 98 = some (.st [(0, 1, .it), (1, 2, (.st [(0, 1, .it), (1, 1, .it)]))]) := by kernel_rfl
theorem pl98 : placesI Try.prog 98 = some [(0, 1), (1, 2)] := by kernel_rfl
theorem fi98_0 : fieldI Try.prog 98 0 = some (0, 1, false) := by kernel_rfl
theorem fi98_1 : fieldI Try.prog 98 1 = some (1, 2, true) := by kernel_rfl
theorem ty99 : tyI Try.prog 99 = some ⟨true, 3, [(.int .i64 0), (.int .i64 0), (.int .i64 0)], 24⟩ := by kernel_rfl
theorem el99 : elemI Try.prog 99 = none := by kernel_rfl
theorem eq99 : eqTy Try.prog 99 = some (.st [(0, 1, .it), (1, 2, (.st [(0, 1, .it), (1, 1, .it)]))]) := by kernel_rfl
theorem pl99 : placesI Try.prog 99 = some [(0, 1), (1, 2)] := by kernel_rfl
theorem fi99_0 : fieldI Try.prog 99 0 = some (0, 1, false) := by kernel_rfl
theorem fi99_1 : fieldI Try.prog 99 1 = some (1, 2, true) := by kernel_rfl
theorem ty100 : tyI Try.prog 100 = some ⟨false, 1, [.nilFunc], 8⟩ := by kernel_rfl
theorem el100 : elemI Try.prog 100 = none := by kernel_rfl
theorem ty101 : tyI Try.prog 101 = some ⟨false, 1, [(.map none)], 8⟩ := by kernel_rfl
theorem el101 : elemI Try.prog 101 = none := by kernel_rfl
theorem mp101 : mapI Try.prog 101 = some ((.c (.v (.bool false))), (.int .i64)) := by kernel_rfl
theorem ty102 : tyI Try.prog 102 = some ⟨false, 1, [.nilFunc], 8⟩ := by kernel_rfl
theorem el102 : elemI Try.prog 102 = none := by kernel_rfl
theorem ty103 : tyI Try.prog 103 = some ⟨false, 1, [.nilFunc], 8⟩ := by kernel_rfl
theorem el103 : elemI Try.prog 103 = none := by kernel_rfl
theorem el104 : elemI Try.prog 104 = none := by kernel_rfl
theorem ty105 : tyI Try.prog 105 = some ⟨false, 1, [.nilFunc], 8⟩ := by kernel_rfl
theorem el105 : elemI Try.prog 105 = none := by kernel_rfl
theorem ty106 : tyI Try.prog 106 = some ⟨false, 1, [.nilFunc], 8⟩ := by kernel_rfl
theorem el106 : elemI Try.prog 106 = none := by kernel_rfl
theorem ty107 : tyI Try.prog 107 = some ⟨false, 1, [.nilFunc], 8⟩ := by kernel_rfl
theorem el107 : elemI Try.prog 107 = none := by kernel_rfl
theorem ty108 : tyI Try.prog 108 = some ⟨false, 1, [.nilFunc], 8⟩ := by kernel_rfl
theorem el108 : elemI Try.prog 108 = none := by kernel_rfl
theorem ty109 : tyI Try.prog 109 = some ⟨false, 1, [.nilFunc], 8⟩ := by kernel_rfl
theorem el109 : elemI Try.prog 109 = none := by kernel_rfl
theorem ty110 : tyI Try.prog 110 = some ⟨false, 1, [.nilFunc], 8⟩ := by kernel_rfl
theorem el110 : elemI Try.prog 110 = none := by kernel_rfl
theorem ty111 : tyI Try.prog 111 = some ⟨true, 2, [(.int .i64 0), (.int .i64 0)], 16⟩ := by kernel_rfl
theorem el111 : elemI Try.prog 111 = none := by kernel_rfl
theorem eq111 : eqTy Try.prog 111 = some (.st [(0, 1, .it), (1, 1, .it)]) := by kernel_rfl
theorem pl111 : placesI Try.prog 111 = some [(0, 1), (1, 1)] := by kernel_rfl
theorem fi111_0 : fieldI Try.prog 111 0 = some (0, 1, false) := by kernel_rfl
theorem fi111_1 : fieldI Try.prog 111 1 = some (1, 1, false) := by kernel_rfl
theorem ty112 : tyI Try.prog 112 = some ⟨true, 2, [(.int .i64 0), (.int .i64 0)], 16⟩ := by kernel_rfl
theorem el112 : elemI Try.prog 112 = none := by kernel_rfl
theorem eq112 : eqTy Try.prog 112 = some (.st [(0, 1, .it), (1, 1, .it)]) := by kernel_rfl
theorem pl112 : placesI Try.prog 112 = some [(0, 1), (1, 1)] := by kernel_rfl
theorem fi112_0 : fieldI Try.prog 112 0 = some (0, 1, false) := by kernel_rfl
theorem fi112_1 : fieldI Try.prog 112 1 = some (1, 1, false) := by kernel_rfl
theorem ty113 : tyI Try.prog 113 = some ⟨false, 1, [(.slice none 0 0)], 24⟩ := by kernel_rfl
theorem el113 : elemI Try.prog 113 = some 112 := by kernel_rfl
theorem ty114 : tyI Try.prog 114 = some ⟨false, 1, [.nilFunc], 8⟩ := by kernel_rfl
theorem el114 : elemI Try.prog 114 = none := by kernel_rfl
theorem ty115 : tyI Try.prog 115 = some ⟨false, 1, [.nilFunc], 8⟩ := by kernel_rfl
theorem el115 : elemI Try.prog 115 = none := by kernel_rfl
theorem ty116 : tyI Try.prog 116 = some ⟨false, 1, [.nilFunc], 8⟩ := by kernel_rfl
theorem el116 : elemI Try.prog 116 = none := by kernel_rfl
theorem ty117 : tyI Try.prog 117 = some ⟨false, 1, [(.slice none 0 0)], 24⟩ := by kernel_rfl
theorem el117 : elemI Try.prog 117 = some 119 := by kernel_rfl
theorem ty118 : tyI Try.prog 118 = some ⟨true, 4, [(.int .i64 0), (.int .i64 0), (.int .i64 0), (.int .i64 0)], 32⟩ := by kernel_rfl
theorem el118 : elemI Try.prog 118 = none := by kernel_rfl
theorem eq118 : eqTy Try.prog 118 = some (.st [(0, 2, (.st [(0, 1, .it), (1, 1, .it)])), (2, 2, (.st [(0, 1, .it), (1, 1, .it)]))]) := by kernel_rfl
theorem pl118 : placesI Try.prog 118 = some [(0, 2), (2, 2)] := by kernel_rfl
theorem fi118_0 : fieldI Try.prog 118 0 = some (0, 2, true) := by kernel_rfl
theorem fi118_1 : fieldI Try.prog 118 1 = some (2, 2, true) := by kernel_rfl
theorem ty119 : tyI Try.prog 119 = some ⟨true, 4, [(.int .i64 0), (.int .i64 0), (.int .i64 0), (.int .i64 0)], 32⟩ := by kernel_rfl
theorem el119 : elemI Try.prog 119 = none := by kernel_rfl
theorem eq119 : eqTy Try.prog 119 = some (.st [(0, 2, (.st [(0, 1, .it), (1, 1, .it)])), (2, 2, (.st [(0, 1, .it), (1, 1, .it)]))]) := by kernel_rfl
theorem pl119 : placesI Try.prog 119 = some [(0, 2), (2, 2)] := by kernel_rfl
theorem fi119_0 : fieldI Try.prog 119 0 = some (0, 2, true) := by kernel_rfl
theorem fi119_1 : fieldI Try.prog 119 1 = some (2, 2, true) := by kernel_rfl
theorem ty120 : tyI Try.prog 120 = some ⟨false, 1, [.nilFunc], 8⟩ := by kernel_rfl
theorem el120 : elemI Try.prog 120 = none := by kernel_rfl
theorem ty121 : tyI Try.prog 121 = some ⟨false, 1, [.nilFunc], 8⟩ := by kernel_rfl
theorem el121 : elemI Try.prog 121 = none := by kernel_rfl
theorem ty122 : tyI Try.prog 122 = some ⟨false, 1, [.nilFunc], 8⟩ := by kernel_rfl
theorem el122 : elemI Try.prog 122 = none := by kernel_rfl
theorem ty123 : tyI Try.prog 123 = some ⟨false, 1, [.nilFunc], 8⟩ := by kernel_rfl
theorem el123 : elemI Try.prog 123 = none := by kernel_rfl
theorem ty124 : tyI Try.prog 124 = some ⟨false, 1, [.nilFunc], 8⟩ := by kernel_rfl
theorem el124 : elemI Try.prog 124 = none := by kernel_rfl
theorem ty125 : tyI Try.prog 125 = some ⟨false, 1, [.nilFunc], 8⟩ := by kernel_rfl
theorem el125 : elemI Try.prog 125 = none := by kernel_rfl
theorem ty126 : tyI Try.prog 126 = some ⟨false, 1, [.nilFunc], 8⟩ := by kernel_rfl
theorem el126 : elemI Try.prog 126 = none := by kernel_rfl
theorem ty127 : tyI Try.prog 127 = some ⟨false, 1, [.nilFunc], 8⟩ := by kernel_rfl
theorem el127 : elemI Try.prog 127 = none := by kernel_rfl
theorem ty128 : tyI Try.prog 128 = some ⟨true, 2, [(.int .i64 0), (.int .i64 0)], 16⟩ := by kernel_rfl
theorem el128 : elemI Try.prog 128 = none := by kernel_rfl
theorem ar128 : arrI Try.prog 128 = some (2, 3) := by kernel_rfl
theorem pl128 : placesI Try.prog 128 = some [(0, 1), (1, 1)] := by kernel_rfl
theorem ty129 : tyI Try.prog 129 = some ⟨true, 13, [(.int .i64 0), (.int .i64 0), (.int .i64 0), (.int .i64 0), (.int .i64 0), (.int .i64 0), (.int .i64 0), (.int .i64 0), (.int .i64 0), (.int .i64 0), (.int .i64 0), (.int .i64 0), (.int .i64 0)], 104⟩ := by kernel_rfl
theorem el129 : elemI Try.prog 129 = none := by kernel_rfl
theorem eq129 : eqTy Try.prog 129 = some (.st [(0, 6, (.st [(0, 1, .it), (1, 1, .it), (2, 1, .it), (3, 1, .it), (4, 1, .it), (5, 1, .it)])), (6, 7, (.st [(0, 1, .it), (1, 1, .it), (2, 1, .it), (3, 2, (.st [(0, 1, .it), (1, 1, .it)])), (5, 2, (.st [(0, 1, .it), (1, 1, .it)]))]))]) := by kernel_rfl
theorem pl129 : placesI Try.prog 129 = some [(0, 6), (6, 7)] := by kernel_rfl
theorem fi129_0 : fieldI Try.prog 129 0 = some (0, 6, true) := by kernel_rfl
theorem fi129_1 : fieldI Try.prog 129 1 = some (6, 7, true) := by kernel_rfl
theorem ty130 : tyI Try.prog 130 = some ⟨true, 13, [(.int .i64 0), (.int .i64 0), (.int .i64 0), (.int .i64 0), (.int .i64 0), (.int .i64 0), (.int .i64 0), (.int .i64 0), (.int .i64 0), (.int .i64 0), (.int .i64 0), (.int .i64 0), (.int .i64 0)], 104⟩ := by kernel_rfl
theorem el130 : elemI Try.prog 130 = none := by kernel_rfl
theorem eq130 : eqTy Try.prog 130 = some (.st [(0, 6, (.st [(0, 1, .it), (1, 1, .it), (2, 1, .it), (3, 1, .it), (4, 1, .it), (5, 1, .it)])), (6, 7, (.st [(0, 1, .it), (1, 1, .it), (2, 1, .it), (3, 2, (.st [(0, 1, .it), (1, 1, .it)])), (5, 2, (.st [(0, 1, .it), (1, 1, .it)]))]))]) := by kernel_rfl
theorem pl130 : placesI Try.prog 130 = some [(0, 6), (6, 7)] := by kernel_rfl
theorem fi130_0 : fieldI Try.prog 130 0 = some (0, 6, true) := by kernel_rfl
theorem fi130_1 : fieldI Try.prog 130 1 = some (6, 7, true) := by kernel_rfl
theorem ty131 : tyI Try.prog 131 = some ⟨false, 1, [.nilFunc], 8⟩ := by kernel_rfl
theorem el131 : elemI Try.prog 131 = none := by kernel_rfl
theorem ty132 : tyI Try.prog 132 = some ⟨false, 1, [.nilFunc], 8⟩ := by kernel_rfl
theorem el132 : elemI Try.prog 132 = none := by kernel_rfl
theorem ty133 : tyI Try.prog 133 = some ⟨true, 2, [(.int .i64 0), (.int .i64 0)], 16⟩ := by kernel_rfl
theorem el133 : elemI Try.prog 133 = none := by kernel_rfl
theorem eq133 : eqTy Try.prog 133 = some (.st [(0, 1, .it), (1, 1, .it)]) := by kernel_rfl
theorem pl133 : placesI Try.prog 133 = some [(0, 1), (1, 1)] := by kernel_rfl
theorem fi133_0 : fieldI Try.prog 133 0 = some (0, 1, false) := by kernel_rfl
theorem fi133_1 : fieldI Try.prog 133 1 = some (1, 1, false) := by kernel_rfl
theorem ty134 : tyI Try.prog 134 = some ⟨true, 2, [(.int .i64 0), (.int .i64 0)], 16⟩ := by kernel_rfl
theorem el134 : elemI Try.prog 134 = none := by kernel_rfl
theorem eq134 : eqTy Try.prog 134 = some (.st [(0, 1, .it), (1, 1, .it)]) := by kernel_rfl
theorem pl134 : placesI Try.prog 134 = some [(0, 1), (1, 1)] := by kernel_rfl
theorem fi134_0 : fieldI Try.prog 134 0 = some (0, 1, false) := by kernel_rfl
theorem fi134_1 : fieldI Try.prog 134 1 = some (1, 1, false) := by kernel_rfl
theorem ty135 : tyI Try.prog 135 = some ⟨true, 3, [(.int .i64 0), (.int .i64 0), (.int .i64 0)], 24⟩ := by kernel_rfl
theorem el135 : elemI Try.prog 135 = none := by kernel_rfl
theorem eq135 : eqTy Try.prog 135 = some (.st [(0, 1, .it), (1, 2, (.st [(0, 1, .it), (1, 1, .it)]))]) := by kernel_rfl
theorem pl135 : placesI Try.prog 135 = some [(0, 1), (1, 2)] := by kernel_rfl
theorem fi135_0 : fieldI Try.prog 135 0 = some (0, 1, false) := by kernel_rfl
theorem fi135_1 : fieldI Try.prog 135 1 = some (1, 2, true) := by kernel_rfl
theorem ty136 : tyI Try.prog 136 = some ⟨true, 3, [(.int .i64 0), (.int .i64 0), (.int .i64 0)], 24⟩ := by kernel_rfl
theorem el136 : elemI Try.prog 136 = none := by kernel_rfl
theorem eq136 : eqTy Try.prog 136 = some (.st [(0, 1, .it), (1, 2, (.st [(0, 1, .it), (1, 1, .it)]))]) := by kernel_rfl
theorem pl136 : placesI Try.prog 136 = some [(0, 1), (1, 2)] := by kernel_rfl
theorem fi136_0 : fieldI Try.prog 136 0 = some (0, 1, false) := by kernel_rfl
theorem fi136_1 : fieldI Try.prog 136 1 = some (1, 2, true) := by kernel_rfl
theorem ty137 : tyI Try.prog 137 = some ⟨false, 1, [(.pointer none)], 8⟩ := by kernel_rfl
theorem el137 : elemI Try.prog 137 = none := by kernel_rfl
theorem ty138 : tyI Try.prog 138 = some ⟨false, 1, [.nilFunc], 8⟩ := by kernel_rfl
theorem el138 : elemI Try.prog 138 = none := by kernel_rfl
theorem ty139 : tyI Try.prog 139 = some ⟨false, 1, [.nilFunc], 8⟩ := by kernel_rfl
theorem el139 : elemI Try.prog 139 = none := by kernel_rfl
theorem ty140 : tyI Try.prog 140 = some ⟨false, 1, [.nilFunc], 8⟩ := by kernel_rfl
theorem el140 : elemI Try.prog 140 = none := by kernel_rfl
theorem ty141 : tyI Try.prog 141 = some ⟨false, 1, [.nilFunc], 8⟩ := by kernel_rfl
theorem el141 : elemI Try.prog 141 = none := by kernel_rfl
theorem ty142 : tyI Try.prog 142 = some ⟨false, 1, [.nilFunc], 8⟩ := by kernel_rfl
theorem el142 : elemI Try.prog 142 = none := by kernel_rfl
theorem ty143 : tyI Try.prog 143 = some ⟨false, 1, [(.slice none 0 0)], 24⟩ := by kernel_rfl
theorem el143 : elemI Try.prog 143 = some 64 := by kernel_rfl
theorem el144 : elemI Try.prog 144 = none := by kernel_rfl
theorem ty145 : tyI Try.prog 145 = some ⟨false, 1, [.nilFunc], 8⟩ := by kernel_rfl
theorem el145 : elemI Try.prog 145 = none := by kernel_rfl
theorem ty146 : tyI Try.prog 146 = some ⟨false, 1, [.nilFunc], 8⟩ := by kernel_rfl
theorem el146 : elemI Try.prog 146 = none := by kernel_rfl
theorem ty147 : tyI Try.prog 147 = some ⟨false, 1, [.nilFunc], 8⟩ := by kernel_rfl
theorem el147 : elemI Try.prog 147 = none := by kernel_rfl
theorem ty148 : tyI Try.prog 148 = some ⟨false, 1, [.nilFunc], 8⟩ := by kernel_rfl
theorem el148 : elemI Try.prog 148 = none := by kernel_rfl
theorem ty149 : tyI Try.prog 149 = some ⟨true, 6, [(.int .i64 0), (.int .i64 0), (.int .i64 0), (.int .i64 0), (.int .i64 0), (.slice none 0 0)], 64⟩ := by kernel_rfl
theorem el149 : elemI Try.prog 149 = none := by kernel_rfl
theorem pl149 : placesI Try.prog 149 = some [(0, 5), (5, 1)] := by kernel_rfl
theorem fi149_0 : fieldI Try.prog 149 0 = some (0, 5, true) := by kernel_rfl
theorem fi149_1 : fieldI Try.prog 149 1 = some (5, 1, false) := by kernel_rfl
theorem ty150 : tyI Try.prog 150 = some ⟨true, 6, [(.int .i64 0), (.int .i64 0), (.int .i64 0), (.int .i64 0), (.int .i64 0), (.slice none 0 0)], 64⟩ := by kernel_rfl
theorem el150 : elemI Try.prog 150 = none := by kernel_rfl
theorem pl150 : placesI Try.prog 150 = some [(0, 5), (5, 1)] := by kernel_rfl
theorem fi150_0 : fieldI Try.prog 150 0 = some (0, 5, true) := by kernel_rfl
theorem fi150_1 : fieldI Try.prog 150 1 = some (5, 1, false) := by kernel_rfl
theorem ty151 : tyI Try.prog 151 = some ⟨false, 1, [.nilFunc], 8⟩ := by kernel_rfl
theorem el151 : elemI Try.prog 151 = none := by kernel_rfl
theorem ty152 : tyI Try.prog 152 = some ⟨false, 1, [.nilFunc], 8⟩ := by kernel_rfl
theorem el152 : elemI Try.prog 152 = none := by kernel_rfl
theorem ty153 : tyI Try.prog 153 = some ⟨false, 1, [.nilFunc], 8⟩ := by kernel_rfl
theorem el153 : elemI Try.prog 153 = none := by kernel_rfl
theorem ty154 : tyI Try.prog 154 = some ⟨false, 1, [.nilFunc], 8⟩ := by kernel_rfl
theorem el154 : elemI Try.prog 154 = none := by kernel_rfl
theorem ty155 : tyI Try.prog 155 = some ⟨false, 1, [.nilFunc], 8⟩ := by kernel_rfl
theorem el155 : elemI Try.prog 155 = none := by kernel_rfl
theorem ty156 : tyI Try.prog 156 = some ⟨false, 1, [.nilFunc], 8⟩ := by kernel_rfl
theorem el156 : elemI Try.prog 156 = none := by kernel_rfl
theorem ty157 : tyI Try.prog 157 = some ⟨false, 1, [.nilFunc], 8⟩ := by kernel_rfl
theorem el157 : elemI Try.prog 157 = none := by kernel_rfl
theorem ty158 : tyI Try.prog 158 = some ⟨false, 1, [.nilFunc], 8⟩ := by kernel_rfl
theorem el158 : elemI Try.prog 158 = none := by kernel_rfl
theorem ty159 : tyI Try.prog 159 = some ⟨false, 1, [(.slice none 0 0)], 24⟩ := by kernel_rfl
theorem el159 : elemI Try.prog 159 = some 203 := by kernel_rfl
theorem ty160 : tyI Try.prog 160 = some ⟨false, 1, [.nilFunc], 8⟩ := by kernel_rfl
theorem el160 : elemI Try.prog 160 = none := by kernel_rfl
theorem ty161 : tyI Try.prog 161 = some ⟨false, 1, [.nilFunc], 8⟩ := by kernel_rfl
theorem el161 : elemI Try.prog 161 = none := by kernel_rfl
theorem ty162 : tyI Try.prog 162 = some ⟨false, 1, [.nilFunc], 8⟩ := by kernel_rfl
theorem el162 : elemI Try.prog 162 = none := by kernel_rfl
theorem ty163 : tyI Try.prog 163 = some ⟨false, 1, [.nilFunc], 8⟩ := by kernel_rfl
theorem el163 : elemI Try.prog 163 = none := by kernel_rfl
theorem ty164 : tyI Try.prog 164 = some ⟨false, 1, [.nilFunc], 8⟩ := by kernel_rfl
theorem el164 : elemI Try.prog 164 = none := by kernel_rfl
theorem ty165 : tyI Try.prog 165 = some ⟨false, 1, [.nilFunc], 8⟩ := by kernel_rfl
theorem el165 : elemI Try.prog 165 = none := by kernel_rfl
theorem ty166 : tyI Try.prog 166 = some ⟨false, 1, [.nilFunc], 8⟩ := by kernel_rfl
theorem el166 : elemI Try.prog 166 = none := by kernel_rfl
theorem ty167 : tyI Try.prog 167 = some ⟨true, 2, [(.slice none 0 0), (.int .i64 0)], 32⟩ := by kernel_rfl
theorem el167 : elemI Try.prog 167 = none := by kernel_rfl
theorem pl167 : placesI Try.prog 167 = some [(0, 1), (1, 1)] := by kernel_rfl
theorem fi167_0 : fieldI Try.prog 167 0 = some (0, 1, false) := by kernel_rfl
theorem fi167_1 : fieldI Try.prog 167 1 = some (1, 1, false) := by kernel_rfl
theorem ty168 : tyI Try.prog 168 = some ⟨true, 2, [(.slice none 0 0), (.int .i64 0)], 32⟩ := by kernel_rfl
theorem el168 : elemI Try.prog 168 = none := by kernel_rfl
theorem pl168 : placesI Try.prog 168 = some [(0, 1), (1, 1)] := by kernel_rfl
theorem fi168_0 : fieldI Try.prog 168 0 = some (0, 1, false) := by kernel_rfl
theorem fi168_1 : fieldI Try.prog 168 1 = some (1, 1, false) := by kernel_rfl
theorem el169 : elemI Try.prog 169 = none := by kernel_rfl
theorem ty170 : tyI Try.prog 170 = some ⟨false, 1, [.nilFunc], 8⟩ := by kernel_rfl
theorem el170 : elemI Try.prog 170 = none := by kernel_rfl
theorem el171 : elemI Try.prog 171 = none := by kernel_rfl
theorem ty172 : tyI Try.prog 172 = some ⟨false, 1, [.nilFunc], 8⟩ := by kernel_rfl
theorem el172 : elemI Try.prog 172 = none := by kernel_rfl
theorem ty173 : tyI Try.prog 173 = some ⟨false, 1, [.nilFunc], 8⟩ := by kernel_rfl
theorem el173 : elemI Try.prog 173 = none := by kernel_rfl
theorem ty174 : tyI Try.prog 174 = some ⟨false, 1, [(.map none)], 8⟩ := by kernel_rfl
theorem el174 : elemI Try.prog 174 = none := by kernel_rfl
theorem mp174 : mapI Try.prog 174 = some ((.agg [.c (.v (.int .i64 0)), .c (.v (.int .i64 0)), .c (.v (.int .i64 0))]), (.arr .i64 2)) := by kernel_rfl
theorem ty175 : tyI Try.prog 175 = some ⟨true, 2, [(.slice none 0 0), (.slice none 0 0)], 48⟩ := by kernel_rfl
theorem el175 : elemI Try.prog 175 = none := by kernel_rfl
theorem ar175 : arrI Try.prog 175 = some (2, 64) := by kernel_rfl
theorem pl175 : placesI Try.prog 175 = some [(0, 1), (1, 1)] := by kernel_rfl
theorem ty176 : tyI Try.prog 176 = some ⟨true, 16, [(.int .i64 0), (.int .i64 0), (.int .i64 0), (.int .i64 0), (.int .i64 0), (.int .i64 0), (.int .i64 0), (.int .i64 0), (.int .i64 0), (.int .i64 0), (.int .i64 0), (.int .i64 0), (.int .i64 0), (.slice none 0 0), (.slice none 0 0), (.map none)], 160⟩ := by kernel_rfl
theorem el176 : elemI Try.prog 176 = none := by kernel_rfl
theorem pl176 : placesI Try.prog 176 = some [(0, 13), (13, 2), (15, 1)] := by kernel_rfl
theorem fi176_0 : fieldI Try.prog 176 0 = some (0, 13, true) := by kernel_rfl
theorem fi176_1 : fieldI Try.prog 176 1 = some (13, 2, true) := by kernel_rfl
theorem fi176_2 : fieldI Try.prog 176 2 = some (15, 1, false) := by kernel_rfl
theorem ty177 : tyI Try.prog 177 = some ⟨true, 16, [(.int .i64 0), (.int .i64 0), (.int .i64 0), (.int .i64 0), (.int .i64 0), (.int .i64 0), (.int .i64 0), (.int .i64 0), (.int .i64 0), (.int .i64 0), (.int .i64 0), (.int .i64 0), (.int .i64 0), (.slice none 0 0), (.slice none 0 0), (.map none)], 160⟩ := by kernel_rfl
theorem el177 : elemI Try.prog 177 = none := by kernel_rfl
theorem pl177 : placesI Try.prog 177 = some [(0, 13), (13, 2), (15, 1)] := by kernel_rfl
theorem fi177_0 : fieldI Try.prog 177 0 = some (0, 13, true) := by kernel_rfl
theorem fi177_1 : fieldI Try.prog 177 1 = some (13, 2, true) := by kernel_rfl
theorem fi177_2 : fieldI Try.prog 177 2 = some (15, 1, false) := by kernel_rfl
theorem el178 : elemI Try.prog 178 = none := by kernel_rfl
theorem el179 : elemI Try.prog 179 = none := by kernel_rfl
theorem ty180 : tyI Try.prog 180 = some ⟨false, 1, [.nilFunc], 8⟩ := by kernel_rfl
theorem el180 : elemI Try.prog 180 = none := by kernel_rfl
theorem ty181 : tyI Try.prog 181 = some ⟨false, 1, [.nilFunc], 8⟩ := by kernel_rfl
theorem el181 : elemI Try.prog 181 = none := by kernel_rfl
theorem ty182 : tyI Try.prog 182 = some ⟨false, 1, [.nilFunc], 8⟩ := by kernel_rfl
theorem el182 : elemI Try.prog 182 = none := by kernel_rfl
theorem el183 : elemI Try.prog 183 = none := by kernel_rfl
theorem ty184 : tyI Try.prog 184 = some ⟨false, 1, [.nilFunc], 8⟩ := by kernel_rfl
theorem el184 : elemI Try.prog 184 = none := by kernel_rfl
theorem ty185 : tyI Try.prog 185 = some ⟨false, 1, [(.slice none 0 0)], 24⟩ := by kernel_rfl
theorem el185 : elemI Try.prog 185 = some 35 := by kernel_rfl
theorem ty186 : tyI Try.prog 186 = some ⟨false, 1, [.nilFunc], 8⟩ := by kernel_rfl
theorem el186 : elemI Try.prog 186 = none := by kernel_rfl
theorem ty187 : tyI Try.prog 187 = some ⟨false, 1, [.nilFunc], 8⟩ := by kernel_rfl
theorem el187 : elemI Try.prog 187 = none := by kernel_rfl
theorem ty188 : tyI Try.prog 188 = some ⟨false, 1, [.nilFunc], 8⟩ := by kernel_rfl
theorem el188 : elemI Try.prog 188 = none := by kernel_rfl
theorem ty189 : tyI Try.prog 189 = some ⟨false, 1, [.nilFunc], 8⟩ := by kernel_rfl
theorem el189 : elemI Try.prog 189 = none := by kernel_rfl
theorem ty190 : tyI Try.prog 190 = some ⟨true, 4, [(.int .i64 0), (.int .i64 0), (.int .i64 0), (.int .i64 0)], 32⟩ := by kernel_rfl
theorem el190 : elemI Try.prog 190 = none := by kernel_rfl
theorem pl190 : placesI Try.prog 190 = some [(0, 2), (2, 2)] := by kernel_rfl
theorem fi190_0 : fieldI Try.prog 190 0 = some (0, 2, true) := by kernel_rfl
theorem fi190_1 : fieldI Try.prog 190 1 = some (2, 2, true) := by kernel_rfl
theorem ty191 : tyI Try.prog 191 = some ⟨true, 4, [(.int .i64 0), (.int .i64 0), (.int .i64 0), (.int .i64 0)], 32⟩ := by kernel_rfl
theorem el191 : elemI Try.prog 191 = none := by kernel_rfl
theorem pl191 : placesI Try.prog 191 = some [(0, 2), (2, 2)] := by kernel_rfl
theorem fi191_0 : fieldI Try.prog 191 0 = some (0, 2, true) := by kernel_rfl
theorem fi191_1 : fieldI Try.prog 191 1 = some (2, 2, true) := by kernel_rfl
theorem ty192 : tyI Try.prog 192 = some ⟨false, 1, [.nilFunc], 8⟩ := by kernel_rfl
theorem el192 : elemI Try.prog 192 = none := by kernel_rfl
theorem ty193 : tyI Try.prog 193 = some ⟨false, 1, [.nilFunc], 8⟩ := by kernel_rfl
theorem el193 : elemI Try.prog 193 = none := by kernel_rfl
theorem ty194 : tyI Try.prog 194 = some ⟨false, 1, [.nilFunc], 8⟩ := by kernel_rfl
theorem el194 : elemI Try.prog 194 = none := by kernel_rfl
theorem ty195 : tyI Try.prog 195 = some ⟨false, 1, [.nilFunc], 8⟩ := by kernel_rfl
theorem el195 : elemI Try.prog 195 = none := by kernel_rfl
theorem ty196 : tyI Try.prog 196 = some ⟨false, 1, [.nilFunc], 8⟩ := by kernel_rfl
theorem el196 : elemI Try.prog 196 = none := by kernel_rfl
theorem ty197 : tyI Try.prog 197 = some ⟨false, 1, [(.int .u64 0)], 8⟩ := by kernel_rfl
theorem el197 : elemI Try.prog 197 = none := by kernel_rfl
theorem it197 : intI Try.prog 197 = some .u64 := by kernel_rfl
theorem ty198 : tyI Try.prog 198 = some ⟨false, 1, [.nilFunc], 8⟩ := by kernel_rfl
theorem el198 : elemI Try.prog 198 = none := by kernel_rfl
theorem ty199 : tyI Try.prog 199 = some ⟨false, 1, [.nilFunc], 8⟩ := by kernel_rfl
theorem el199 : elemI Try.prog 199 = none := by kernel_rfl
theorem ty200 : tyI Try.prog 200 = some ⟨false, 1, [.nilFunc], 8⟩ := by kernel_rfl
theorem el200 : elemI Try.prog 200 = none := by kernel_rfl
theorem ty201 : tyI Try.prog 201 = some ⟨false, 1, [.nilFunc], 8⟩ := by kernel_rfl
theorem el201 : elemI Try.prog 201 = none := by kernel_rfl
theorem ty202 : tyI Try.prog 202 = some ⟨false, 1, [.nilFunc], 8⟩ := by kernel_rfl
theorem el202 : elemI Try.prog 202 = none := by kernel_rfl
theorem ty203 : tyI Try.prog 203 = some ⟨true, 2, [(.bool false), (.bool false)], 2⟩ := by kernel_rfl
theorem el203 : elemI Try.prog 203 = none := by kernel_rfl
theorem ar203 : arrI Try.prog 203 = some (2, 4) := by kernel_rfl
theorem pl203 : placesI Try.prog 203 = some [(0, 1), (1, 1)] := by kernel_rfl
theorem ty204 : tyI Try.prog 204 = some ⟨false, 1, [.nilFunc], 8⟩ := by kernel_rfl
theorem el204 : elemI Try.prog 204 = none := by kernel_rfl
theorem ty205 : tyI Try.prog 205 = some ⟨false, 1, [(.slice none 0 0)], 24⟩ := by kernel_rfl
theorem el205 : elemI Try.prog 205 = some 191 := by kernel_rfl
theorem ty206 : tyI Try.prog 206 = some ⟨false, 1, [.nilFunc], 8⟩ := by kernel_rfl
theorem el206 : elemI Try.prog 206 = none := by kernel_rfl
theorem ty207 : tyI Try.prog 207 = some ⟨false, 1, [.nilFunc], 8⟩ := by kernel_rfl
theorem el207 : elemI Try.prog 207 = none := by kernel_rfl
theorem ty208 : tyI Try.prog 208 = some ⟨false, 1, [.nilFunc], 8⟩ := by kernel_rfl
theorem el208 : elemI Try.prog 208 = none := by kernel_rfl
theorem ty209 : tyI Try.prog 209 = some ⟨false, 1, [.nilFunc], 8⟩ := by kernel_rfl
theorem el209 : elemI Try.prog 209 = none := by kernel_rfl
theorem ty210 : tyI Try.prog 210 = some ⟨false, 1, [.nilFunc], 8⟩ := by kernel_rfl
theorem el210 : elemI Try.prog 210 = none := by kernel_rfl
theorem ty211 : tyI Try.prog 211 = some ⟨false, 1, [.nilFunc], 8⟩ := by kernel_rfl
theorem el211 : elemI Try.prog 211 = none := by kernel_rfl
theorem ty212 : tyI Try.prog 212 = some ⟨false, 1, [.nilFunc], 8⟩ := by kernel_rfl
theorem el212 : elemI Try.prog 212 = none := by kernel_rfl
theorem ty213 : tyI Try.prog 213 = some ⟨false, 1, [.nilFunc], 8⟩ := by kernel_rfl
theorem el213 : elemI Try.prog 213 = none := by kernel_rfl
theorem ty214 : tyI Try.prog 214 = some ⟨false, 1, [(.map none)], 8⟩ := by kernel_rfl
theorem el214 : elemI Try.prog 214 = none := by kernel_rfl
theorem mp214 : mapI Try.prog 214 = some ((.agg [.c (.v (.int .i64 0)), .c (.v (.int .i64 0))]), .bool) := by kernel_rfl
theorem ty215 : tyI Try.prog 215 = some ⟨false, 1, [.nilFunc], 8⟩ := by kernel_rfl
theorem el215 : elemI Try.prog 215 = none := by kernel_rfl
theorem ty216 : tyI Try.prog 216 = some ⟨false, 1, [.nilFunc], 8⟩ := by kernel_rfl
theorem el216 : elemI Try.prog 216 = none := by kernel_rfl
theorem ty217 : tyI Try.prog 217 = some ⟨false, 1, [.nilFunc], 8⟩ := by kernel_rfl
theorem el217 : elemI Try.prog 217 = none := by kernel_rfl
theorem ty218 : tyI Try.prog 218 = some ⟨false, 1, [.nilFunc], 8⟩ := by kernel_rfl
theorem el218 : elemI Try.prog 218 = none := by kernel_rfl
theorem ty219 : tyI Try.prog 219 = some ⟨false, 1, [.nilFunc], 8⟩ := by kernel_rfl
theorem el219 : elemI Try.prog 219 = none := by kernel_rfl
theorem ty220 : tyI Try.prog 220 = some ⟨false, 1, [.nilFunc], 8⟩ := by kernel_rfl
theorem el220 : elemI Try.prog 220 = none := by kernel_rfl
theorem ty221 : tyI Try.prog 221 = some ⟨false, 1, [.nilFunc], 8⟩ := by kernel_rfl
theorem el221 : elemI Try.prog 221 = none := by kernel_rfl
theorem ty222 : tyI Try.prog 222 = some ⟨false, 1, [.nilFunc], 8⟩ := by kernel_rfl
theorem el222 : elemI Try.prog 222 = none := by kernel_rfl
theorem ty223 : tyI Try.prog 223 = some ⟨false, 1, [.nilFunc], 8⟩ := by kernel_rfl
theorem el223 : elemI Try.prog 223 = none := by kernel_rfl
theorem ty224 : tyI Try.prog 224 = some ⟨false, 1, [.nilFunc], 8⟩ := by kernel_rfl
theorem el224 : elemI Try.prog 224 = none := by kernel_rfl
theorem ty225 : tyI Try.prog 225 = some ⟨false, 1, [.nilFunc], 8⟩ := by kernel_rfl
theorem el225 : elemI Try.prog 225 = none := by kernel_rfl
theorem ty226 : tyI Try.prog 226 = some ⟨false, 1, [.nilFunc], 8⟩ := by kernel_rfl
theorem el226 : elemI Try.prog 226 = none := by kernel_rfl
theorem ty227 : tyI Try.prog 227 = some ⟨false, 1, [.nilFunc], 8⟩ := by kernel_rfl
theorem el227 : elemI Try.prog 227 = none := by kernel_rfl
theorem ty228 : tyI Try.prog 228 = some ⟨false, 1, [.nilFunc], 8⟩ := by kernel_rfl
theorem el228 : elemI Try.prog 228 = none := by kernel_rfl
theorem ty229 : tyI Try.prog 229 = some ⟨false, 1, [.nilFunc], 8⟩ := by kernel_rfl
theorem el229 : elemI Try.prog 229 = none := by kernel_rfl
theorem ty230 : tyI Try.prog 230 = some ⟨true, 4, [(.pointer none), (.pointer none), (.pointer none), (.string ⟨#[]⟩)], 40⟩ := by kernel_rfl
theorem el230 : elemI Try.prog 230 = none := by kernel_rfl
theorem pl230 : placesI Try.prog 230 = some [(0, 1), (1, 1), (2, 1), (3, 1)] := by kernel_rfl
theorem fi230_0 : fieldI Try.prog 230 0 = some (0, 1, false) := by kernel_rfl
theorem fi230_1 : fieldI Try.prog 230 1 = some (1, 1, false) := by kernel_rfl
theorem fi230_2 : fieldI Try.prog 230 2 = some (2, 1, false) := by kernel_rfl
theorem fi230_3 : fieldI Try.prog 230 3 = some (3, 1, false) := by kernel_rfl
theorem ty231 : tyI Try.prog 231 = some ⟨true, 4, [(.pointer none), (.pointer none), (.pointer none), (.string ⟨#[]⟩)], 40⟩ := by kernel_rfl
theorem el231 : elemI Try.prog 231 = none := by kernel_rfl
theorem pl231 : placesI Try.prog 231 = some [(0, 1), (1, 1), (2, 1), (3, 1)] := by kernel_rfl
theorem fi231_0 : fieldI Try.prog 231 0 = some (0, 1, false) := by kernel_rfl
theorem fi231_1 : fieldI Try.prog 231 1 = some (1, 1, false) := by kernel_rfl
theorem fi231_2 : fieldI Try.prog 231 2 = some (2, 1, false) := by kernel_rfl
theorem fi231_3 : fieldI Try.prog 231 3 = some (3, 1, false) := by kernel_rfl
theorem ty232 : tyI Try.prog 232 = some ⟨true, 0, [], 0⟩ := by kernel_rfl
theorem el232 : elemI Try.prog 232 = none := by kernel_rfl
theorem ar232 : arrI Try.prog 232 = some (0, 16) := by kernel_rfl
theorem pl232 : placesI Try.prog 232 = some [] := by kernel_rfl
theorem ty233 : tyI Try.prog 233 = some ⟨true, 0, [], 0⟩ := by kernel_rfl
theorem el233 : elemI Try.prog 233 = none := by kernel_rfl
theorem pl233 : placesI Try.prog 233 = some [(0, 0)] := by kernel_rfl
theorem ty234 : tyI Try.prog 234 = some ⟨true, 0, [], 0⟩ := by kernel_rfl
theorem el234 : elemI Try.prog 234 = none := by kernel_rfl
theorem pl234 : placesI Try.prog 234 = some [(0, 0)] := by kernel_rfl
theorem ty235 : tyI Try.prog 235 = some ⟨false, 1, [(.int .u32 0)], 4⟩ := by kernel_rfl
theorem el235 : elemI Try.prog 235 = none := by kernel_rfl
theorem it235 : intI Try.prog 235 = some .u32 := by kernel_rfl
theorem ty236 : tyI Try.prog 236 = some ⟨false, 1, [(.int .u8 0)], 1⟩ := by kernel_rfl
theorem el236 : elemI Try.prog 236 = none := by kernel_rfl
theorem it236 : intI Try.prog 236 = some .u8 := by kernel_rfl
theorem ty237 : tyI Try.prog 237 = some ⟨false, 1, [(.int .u8 0)], 1⟩ := by kernel_rfl
theorem el237 : elemI Try.prog 237 = none := by kernel_rfl
theorem it237 : intI Try.prog 237 = some .u8 := by kernel_rfl
theorem ty238 : tyI Try.prog 238 = some ⟨false, 1, [.nilFunc], 8⟩ := by kernel_rfl
theorem el238 : elemI Try.prog 238 = none := by kernel_rfl
theorem ty239 : tyI Try.prog 239 = some ⟨false, 1, [(.pointer none)], 8⟩ := by kernel_rfl
theorem el239 : elemI Try.prog 239 = none := by kernel_rfl
theorem ty240 : tyI Try.prog 240 = some ⟨false, 1, [(.int .i32 0)], 4⟩ := by kernel_rfl
theorem el240 : elemI Try.prog 240 = none := by kernel_rfl
theorem it240 : intI Try.prog 240 = some .i32 := by kernel_rfl
theorem ty241 : tyI Try.prog 241 = some ⟨false, 1, [(.int .i32 0)], 4⟩ := by kernel_rfl
theorem el241 : elemI Try.prog 241 = none := by kernel_rfl
theorem it241 : intI Try.prog 241 = some .i32 := by kernel_rfl
theorem ty242 : tyI Try.prog 242 = some ⟨true, 11, [(.int .u64 0), (.int .u64 0), (.int .u32 0), (.int .u8 0), (.int .u8 0), (.int .u8 0), (.int .u8 0), .nilFunc, (.pointer none), (.int .i32 0), (.int .i32 0)], 48⟩ := by kernel_rfl
theorem el242 : elemI Try.prog 242 = none := by kernel_rfl
theorem pl242 : placesI Try.prog 242 = some [(0, 1), (1, 1), (2, 1), (3, 1), (4, 1), (5, 1), (6, 1), (7, 1), (8, 1), (9, 1), (10, 1)] := by kernel_rfl
theorem fi242_0 : fieldI Try.prog 242 0 = some (0, 1, false) := by kernel_rfl
theorem fi242_1 : fieldI Try.prog 242 1 = some (1, 1, false) := by kernel_rfl
theorem fi242_2 : fieldI Try.prog 242 2 = some (2, 1, false) := by kernel_rfl
theorem fi242_3 : fieldI Try.prog 242 3 = some (3, 1, false) := by kernel_rfl
theorem fi242_4 : fieldI Try.prog 242 4 = some (4, 1, false) := by kernel_rfl
theorem fi242_5 : fieldI Try.prog 242 5 = some (5, 1, false) := by kernel_rfl
theorem fi242_6 : fieldI Try.prog 242 6 = some (6, 1, false) := by kernel_rfl
theorem fi242_7 : fieldI Try.prog 242 7 = some (7, 1, false) := by kernel_rfl
theorem fi242_8 : fieldI Try.prog 242 8 = some (8, 1, false) := by kernel_rfl
theorem fi242_9 : fieldI Try.prog 242 9 = some (9, 1, false) := by kernel_rfl
theorem fi242_10 : fieldI Try.prog 242 10 = some (10, 1, false) := by kernel_rfl
theorem ty243 : tyI Try.prog 243 = some ⟨true, 11, [(.int .u64 0), (.int .u64 0), (.int .u32 0), (.int .u8 0), (.int .u8 0), (.int .u8 0), (.int .u8 0), .nilFunc, (.pointer none), (.int .i32 0), (.int .i32 0)], 48⟩ := by kernel_rfl
theorem el243 : elemI Try.prog 243 = none := by kernel_rfl
theorem pl243 : placesI Try.prog 243 = some [(0, 1), (1, 1), (2, 1), (3, 1), (4, 1), (5, 1), (6, 1), (7, 1), (8, 1), (9, 1), (10, 1)] := by kernel_rfl
theorem fi243_0 : fieldI Try.prog 243 0 = some (0, 1, false) := by kernel_rfl
theorem fi243_1 : fieldI Try.prog 243 1 = some (1, 1, false) := by kernel_rfl
theorem fi243_2 : fieldI Try.prog 243 2 = some (2, 1, false) := by kernel_rfl
theorem fi243_3 : fieldI Try.prog 243 3 = some (3, 1, false) := by kernel_rfl
theorem fi243_4 : fieldI Try.prog 243 4 = some (4, 1, false) := by kernel_rfl
theorem fi243_5 : fieldI Try.prog 243 5 = some (5, 1, false) := by kernel_rfl
theorem fi243_6 : fieldI Try.prog 243 6 = some (6, 1, false) := by kernel_rfl
theorem fi243_7 : fieldI Try.prog 243 7 = some (7, 1, false) := by kernel_rfl
theorem fi243_8 : fieldI Try.prog 243 8 = some (8, 1, false) := by kernel_rfl
theorem fi243_9 : fieldI Try.prog 243 9 = some (9, 1, false) := by kernel_rfl
theorem fi243_10 : fieldI Try.prog 243 10 = some (10, 1, false) := by kernel_rfl
theorem ty244 : tyI Try.prog 244 = some ⟨false, 1, [(.pointer none)], 8⟩ := by kernel_rfl
theorem el244 : elemI Try.prog 244 = none := by kernel_rfl
attribute [go_sem] el0 ty1 el1 ty2 el2 it2 ty3 el3 it3 ty4 el4 bl4 ty5 el5 it5 ty6 el6 it6 ty7 el7 eq7 pl7 fi7_0 fi7_1 fi7_2 fi7_3 ty8 el8 eq8 pl8 fi8_0 fi8_1 fi8_2 fi8_3 ty9 el9 ty10 el10 ty11 el11 ty12 el12 it12 ty13 el13 pl13 fi13_0 fi13_1 ty14 el14 pl14 fi14_0 fi14_1 ty15 el15 ty16 el16 ty17 el17 ty18 el18 pl18 fi18_0 ty19 el19 pl19 fi19_0 ty20 el20 ty21 el21 it21 ty22 el22 eq22 pl22 fi22_0 fi22_1 fi22_2 fi22_3 fi22_4 fi22_5 ty23 el23 eq23 pl23 fi23_0 fi23_1 fi23_2 fi23_3 fi23_4 fi23_5 ty24 el24 eq24 pl24 fi24_0 fi24_1 ty25 el25 eq25 pl25 fi25_0 fi25_1 ty26 el26 eq26 pl26 fi26_0 fi26_1 fi26_2 fi26_3 fi26_4 ty27 el27 eq27 pl27 fi27_0 fi27_1 fi27_2 fi27_3 fi27_4 ty28 el28 eq28 pl28 fi28_0 fi28_1 ty29 el29 eq29 pl29 fi29_0 fi29_1 ty30 el30 it30 ty31 el31 ty32 el32 el33 ty34 el34 ty35 el35 el36 ty37 el37 ty38 el38 ty39 el39 ty40 el40 it40 el41 ty42 el42 ty43 el43 ty44 el44 ty45 el45 ty46 el46 el47 ty48 el48 ty49 el49 ty50 el50 ty51 el51 ty52 el52 ty53 el53 eq53 pl53 fi53_0 fi53_1 fi53_2 fi53_3 fi53_4 ty54 el54 eq54 pl54 fi54_0 fi54_1 fi54_2 fi54_3 fi54_4 ty55 el55 ty56 el56 el57 ty58 el58 ty59 el59 ty60 el60 el61 ty62 el62 ty63 el63 ty64 el64 el65 ty66 el66 el67 ty68 el68 ty69 el69 ty70 el70 ty71 el71 ar71 pl71 ty72 el72 pl72 fi72_0 fi72_1 ty73 el73 pl73 fi73_0 fi73_1 ty74 el74 el75 ty76 el76 ty77 el77 ty78 el78 ty79 el79 el80 ty81 el81 ty82 el82 eq82 pl82 fi82_0 fi82_1 fi82_2 ty83 el83 eq83 pl83 fi83_0 fi83_1 fi83_2 ty84 el84 pl84 fi84_0 fi84_1 ty85 el85 pl85 fi85_0 fi85_1 ty86 el86 ty87 el87 el88 ty89 el89 ty90 el90 ty91 el91 ar91 pl91 ty92 el92 ty93 el93 pl93 fi93_0 fi93_1 ty94 el94 pl94 fi94_0 fi94_1 el95 ty96 el96 ty97 el97 ar97 pl97 ty98 el98 eq98 pl98 fi98_0 fi98_1 ty99 el99 eq99 pl99 fi99_0 fi99_1 ty100 el100 ty101 el101 mp101 ty102 el102 ty103 el103 el104 ty105 el105 ty106 el106 ty107 el107 ty108 el108 ty109 el109 ty110 el110 ty111 el111 eq111 pl111 fi111_0 fi111_1 ty112 el112 eq112 pl112 fi112_0 fi112_1 ty113 el113 ty114 el114 ty115 el115 ty116 el116 ty117 el117 ty118 el118 eq118 pl118 fi118_0 fi118_1 ty119 el119 eq119 pl119 fi119_0 fi119_1 ty120 el120 ty121 el121 ty122 el122 ty123 el123 ty124 el124 ty125 el125 ty126 el126 ty127 el127 ty128 el128 ar128 pl128 ty129 el129 eq129 pl129 fi129_0 fi129_1 ty130 el130 eq130 pl130 fi130_0 fi130_1 ty131 el131 ty132 el132 ty133 el133 eq133 pl133 fi133_0 fi133_1 ty134 el134 eq134 pl134 fi134_0 fi134_1 ty135 el135 eq135 pl135 fi135_0 fi135_1 ty136 el136 eq136 pl136 fi136_0 fi136_1 ty137 el137 ty138 el138 ty139 el139 ty140 el140 ty141 el141 ty142 el142 ty143 el143 el144 ty145 el145 ty146 el146 ty147 el147 ty148 el148 ty149 el149 pl149 fi149_0 fi149_1 ty150 el150 pl150 fi150_0 fi150_1 ty151 el151 ty152 el152 ty153 el153 ty154 el154 ty155 el155 ty156 el156 ty157 el157 ty158 el158 ty159 el159 ty160 el160 ty161 el161 ty162 el162 ty163 el163 ty164 el164 ty165 el165 ty166 el166 ty167 el167 pl167 fi167_0 fi167_1 ty168 el168 pl168 fi168_0 fi168_1 el169 ty170 el170 el171 ty172 el172 ty173 el173 ty174 el174 mp174 ty175 el175 ar175 pl175 ty176 el176 pl176 fi176_0 fi176_1 fi176_2 ty177 el177 pl177 fi177_0 fi177_1 fi177_2 el178 el179 ty180 el180 ty181 el181 ty182 el182 el183 ty184 el184 ty185 el185 ty186 el186 ty187 el187 ty188 el188 ty189 el189 ty190 el190 pl190 fi190_0 fi190_1 ty191 el191 pl191 fi191_0 fi191_1 ty192 el192 ty193 el193 ty194 el194 ty195 el195 ty196 el196 ty197 el197 it197 ty198 el198 ty199 el199 ty200 el200 ty201 el201 ty202 el202 ty203 el203 ar203 pl203 ty204 el204 ty205 el205 ty206 el206 ty207 el207 ty208 el208 ty209 el209 ty210 el210 ty211 el211 ty212 el212 ty213 el213 ty214 el214 mp214 ty215 el215 ty216 el216 ty217 el217 ty218 el218 ty219 el219 ty220 el220 ty221 el221 ty222 el222 ty223 el223 ty224 el224 ty225 el225 ty226 el226 ty227 el227 ty228 el228 ty229 el229 ty230 el230 pl230 fi230_0 fi230_1 fi230_2 fi230_3 ty231 el231 pl231 fi231_0 fi231_1 fi231_2 fi231_3 ty232 el232 ar232 pl232 ty233 el233 pl233 ty234 el234 pl234 ty235 el235 it235 ty236 el236 it236 ty237 el237 it237 ty238 el238 ty239 el239 ty240 el240 it240 ty241 el241 it241 ty242 el242 pl242 fi242_0 fi242_1 fi242_2 fi242_3 fi242_4 fi242_5 fi242_6 fi242_7 fi242_8 fi242_9 fi242_10 ty243 el243 pl243 fi243_0 fi243_1 fi243_2 fi243_3 fi243_4 fi243_5 fi243_6 fi243_7 fi243_8 fi243_9 fi243_10 ty244 el244
end Go.Dw.Seat
end
section
namespace Go.Dw.Seat
open Go Go.Dw
def Tm (n : Nat) : Operand := .tmp n
def Kn (n : Int) : Operand := .const (.int .i64 n)
def Kb (b : Bool) : Operand := .const (.bool b)
def Mv (a c : Nat) : SO := ⟨some a, .move (.tmp c), none⟩
def Sg (a c : Nat) : SO := ⟨some a, .assign (.tmp c), none⟩
def Sk (a : Nat) (c : Operand) : SO := ⟨some a, .assign c, none⟩
def Ld (a b c : Nat) : SO := ⟨some a, .load b (.tmp c), none⟩
def Fa (a b c d : Nat) : SO := ⟨some a, .fieldAddr b (.tmp c) d, none⟩
def Xt (a c d : Nat) : SO := ⟨some a, .extract (.tmp c) d, none⟩
def Ix (a b c d : Nat) : SO := ⟨some a, .indexAddr b (.tmp c) (.tmp d), none⟩
def Lq (a c t : Nat) : SO := ⟨some a, .call { callee := .builtin .len, args := #[.tmp c], argTypes := #[t] }, none⟩
def Cl (a f : Nat) (x : Array Operand) (y : Array TypeId) : SO := ⟨some a, .call { callee := .value (.func f), args := x, argTypes := y }, none⟩
def Bo (a : Nat) (o : BinOp) (t : Nat) (x y : Operand) (u : Nat) : SO := ⟨some a, .binOp o t x y u, none⟩
def Pk (a x : Nat) (y z : Operand) : SO := ⟨some a, .pick (.tmp x) y z, none⟩
def Sr (t : Nat) (x y : Operand) : SO := ⟨none, .store t x y, none⟩
def Nk (a c : Nat) : SO := ⟨some a, .nilCheck (.tmp c), none⟩
def Oo (a : Nat) (o : Op) : SO := ⟨some a, o, none⟩
def Gm (a c g : Nat) (b : Bool) : SO := ⟨some a, .move (.tmp c), some (g, b)⟩
def Gl (a t c g : Nat) (b : Bool) : SO := ⟨some a, .load t (.tmp c), some (g, b)⟩
def Gf (a t c d g : Nat) (b : Bool) : SO := ⟨some a, .fieldAddr t (.tmp c) d, some (g, b)⟩
def Gx (a t c d g : Nat) (b : Bool) : SO := ⟨some a, .indexAddr t (.tmp c) (.tmp d), some (g, b)⟩
def Gc (a f : Nat) (x : Array Operand) (y : Array TypeId) (g : Nat) (b : Bool) : SO := ⟨some a, .call { callee := .value (.func f), args := x, argTypes := y }, some (g, b)⟩
def Gb (a : Nat) (o : BinOp) (t : Nat) (x y : Operand) (u g : Nat) (b : Bool) : SO := ⟨some a, .binOp o t x y u, some (g, b)⟩
def Og (a : Nat) (o : Op) (g : Nat) (b : Bool) : SO := ⟨some a, o, some (g, b)⟩
abbrev R0 (l : List SO) : SC := .reg false l
abbrev R1 (l : List SO) : SC := .reg true l
attribute [go_sem] Tm Kn Kb Mv Sg Sk Ld Fa Xt Ix Lq Cl Bo Pk Sr Nk Oo Gm Gl Gf Gx Gc Gb Og
end Go.Dw.Seat
namespace Go.Dw.Seat
open Go Go.Dw Go.Proofs
def s3 : SF := ⟨150, [.tmp 2], (.seq (R0 [Oo 1 (.box 29 (Tm 0)), Sk 2 (Kb false)]) (.seq (R0 [Fa 12 29 1 0, Ld 13 23 12, Fa 14 29 1 1, Ld 15 27 14, Cl 16 13 #[Tm 13, Tm 15] #[23, 27], Sg 3 16]) (.seq (.seq (R0 [Mv 17 3, Bo 18 .eql 30 (Tm 17) (Kn 0) 30, Mv 19 18, Gf 20 29 1 0 19 true, Gf 21 23 20 0 19 true, Gl 22 3 21 19 true, Gf 23 29 1 0 19 true, Gf 24 23 23 3 19 true, Gl 25 3 24 19 true, Gb 26 .mul 3 (Kn 2) (Tm 25) 3 19 true, Gb 27 .add 3 (Tm 22) (Tm 26) 3 19 true, Gb 28 .gtr 3 (Tm 27) (Kn 80) 3 19 true, Gm 29 28 19 true, Gf 30 29 1 0 29 false, Gf 31 23 30 1 29 false, Gl 32 3 31 29 false, Gf 33 29 1 0 29 false, Gf 34 23 33 3 29 false, Gl 35 3 34 29 false, Gb 36 .mul 3 (Kn 2) (Tm 35) 3 29 false, Gb 37 .add 3 (Tm 32) (Tm 36) 3 29 false, Gb 38 .gtr 3 (Tm 37) (Kn 80) 3 29 false, Og 39 (.pick (Tm 29) (Kb true) (Tm 38)) 19 true, Pk 40 19 (Tm 39) (Kb false)]) (.cond (Tm 40) (.seq (R0 [Cl 41 14 #[] #[], Sg 2 41]) .ret) .skip)) (.seq (R0 [Fa 43 29 1 0, Ld 44 23 43, Fa 45 29 1 1, Ld 46 27 45, Cl 47 15 #[Tm 44, Tm 46] #[23, 27], Mv 42 47, Xt 48 42 0, Xt 49 42 1, Sg 4 48, Sg 5 49]) (.seq (R0 [Fa 51 29 1 0, Ld 52 23 51, Fa 53 29 1 1, Ld 54 27 53, Cl 55 16 #[Tm 52, Tm 54] #[23, 27], Mv 50 55, Xt 56 50 0, Xt 57 50 1, Sg 6 56, Sg 7 57]) (.seq (R0 [Fa 59 29 1 0, Ld 60 23 59, Fa 61 29 1 1, Ld 62 27 61, Cl 63 17 #[Tm 60, Tm 62] #[23, 27], Mv 58 63, Xt 64 58 0, Xt 65 58 1, Sg 8 64, Sg 9 65]) (.seq (.seq (R0 [Mv 66 3, Bo 67 .neq 30 (Tm 66) (Kn 0) 30]) (.cond (Tm 67) (.seq (R0 [Mv 68 5, Mv 69 3, Bo 70 .eql 30 (Tm 68) (Tm 69) 30, Mv 71 70, Gm 72 7 71 true, Gm 73 3 71 true, Gb 74 .eql 30 (Tm 72) (Tm 73) 30 71 true, Pk 75 71 (Tm 74) (Kb false), Mv 76 75, Gm 77 9 76 true, Gm 78 3 76 true, Gb 79 .eql 30 (Tm 77) (Tm 78) 30 76 true, Pk 80 76 (Tm 79) (Kb false), Mv 81 80, Gm 82 4 81 true, Gb 83 .eql 3 (Tm 82) (Kn 0) 3 81 true, Pk 84 81 (Tm 83) (Kb false), Mv 85 84, Gm 86 6 85 true, Gb 87 .eql 3 (Tm 86) (Kn 0) 3 85 true, Pk 88 85 (Tm 87) (Kb false), Mv 89 88, Gm 90 8 89 true, Og 91 (.call { callee := .builtin .len, args := #[Tm 90], argTypes := #[35] }) 89 true, Gb 92 .eql 3 (Tm 91) (Kn 0) 3 89 true, Pk 93 89 (Tm 92) (Kb false), Mv 94 93, Gc 95 14 #[] #[] 94 true, Pk 96 94 (Tm 95) (Kb false), Sg 2 96]) .ret) .skip)) (.seq (.seq (R0 [Mv 97 5, Bo 98 .neq 30 (Tm 97) (Kn 0) 30, Mv 99 98, Gm 100 7 99 false, Gb 101 .neq 30 (Tm 100) (Kn 0) 30 99 false, Pk 102 99 (Kb true) (Tm 101), Mv 103 102, Gm 104 9 103 false, Gb 105 .neq 30 (Tm 104) (Kn 0) 30 103 false, Pk 106 103 (Kb true) (Tm 105), Mv 107 106, Gm 108 4 107 false, Gf 109 29 1 0 107 false, Gl 110 23 109 107 false, Gf 111 29 1 1 107 false, Gl 112 27 111 107 false, Gc 113 18 #[Tm 110, Tm 112] #[23, 27] 107 false, Gb 114 .neq 3 (Tm 108) (Tm 113) 3 107 false, Pk 115 107 (Kb true) (Tm 114), Mv 116 115, Gm 117 6 116 false, Gf 118 29 1 0 116 false, Gl 119 23 118 116 false, Gf 120 29 1 1 116 false, Gl 121 27 120 116 false, Gc 122 19 #[Tm 119, Tm 121] #[23, 27] 116 false, Gb 123 .neq 3 (Tm 117) (Tm 122) 3 116 false, Pk 124 116 (Kb true) (Tm 123), Mv 125 124, Gm 126 8 125 false, Og 127 (.call { callee := .builtin .len, args := #[Tm 126], argTypes := #[35] }) 125 false, Gm 128 6 125 false, Gb 129 .neq 3 (Tm 127) (Tm 128) 3 125 false, Pk 130 125 (Kb true) (Tm 129), Mv 131 130, Gm 132 8 131 false, Gc 133 20 #[Tm 132] #[35] 131 false, Gb 134 .neq 30 (Tm 133) (Kn 0) 30 131 false, Pk 135 131 (Kb true) (Tm 134)]) (.cond (Tm 135) (.seq (R0 [Sk 2 (Kb false)]) .ret) .skip)) (.seq (R0 [Fa 137 29 1 0, Ld 138 23 137, Fa 139 29 1 1, Ld 140 27 139, Mv 141 8, Cl 142 21 #[Tm 138, Tm 140, Tm 141] #[23, 27, 35], Mv 136 142, Xt 143 136 0, Xt 144 136 1, Sg 10 143, Sg 11 144]) (.seq (R0 [Mv 145 11, Bo 146 .eql 40 (Tm 145) (Kn 0) 40, Mv 147 146, Gc 148 14 #[] #[] 147 true, Pk 149 147 (Tm 148) (Kb false), Sg 2 149]) .ret))))))))))⟩
theorem hb3 : hasBody Try.prog 3 = true := by kernel_rfl
def s4 : SF := ⟨124, [.tmp 6], (.seq (R0 [Oo 3 (.box 29 (Tm 0)), Sk 6 (Kb false)]) (.seq (R0 [Fa 16 29 3 0, Ld 17 23 16, Fa 18 29 3 1, Ld 19 27 18, Mv 20 1, Cl 21 22 #[Tm 17, Tm 19, Tm 20] #[23, 27, 35], Sg 7 21]) (.seq (.seq (R0 [Mv 22 7, Bo 23 .eql 30 (Tm 22) (Kn 0) 30]) (.cond (Tm 23) (R0 [Mv 24 2, Cl 25 20 #[Tm 24] #[35], Sg 7 25]) .skip)) (.seq (.seq (R0 [Mv 26 1, Lq 27 26 35, Bo 28 .gtr 3 (Tm 27) (Kn 220) 3, Mv 29 28, Gm 30 2 29 false, Og 31 (.call { callee := .builtin .len, args := #[Tm 30], argTypes := #[35] }) 29 false, Gb 32 .gtr 3 (Tm 31) (Kn 220) 3 29 false, Pk 33 29 (Kb true) (Tm 32), Mv 34 33, Gm 35 7 34 false, Gb 36 .eql 30 (Tm 35) (Kn 0) 30 34 false, Gm 37 36 34 false, Gm 38 1 37 true, Og 39 (.call { callee := .builtin .len, args := #[Tm 38], argTypes := #[35] }) 37 true, Gb 40 .gtr 3 (Tm 39) (Kn 60) 3 37 true, Gm 41 40 37 true, Gm 42 2 41 false, Og 43 (.call { callee := .builtin .len, args := #[Tm 42], argTypes := #[35] }) 41 false, Gb 44 .gtr 3 (Tm 43) (Kn 60) 3 41 false, Og 45 (.pick (Tm 41) (Kb true) (Tm 44)) 37 true, Og 46 (.pick (Tm 37) (Tm 45) (Kb false)) 34 false, Pk 47 34 (Kb true) (Tm 46)]) (.cond (Tm 47) (.seq (R0 [Cl 48 14 #[] #[], Sg 6 48]) .ret) .skip)) (.seq (R0 [Mv 49 1, Cl 50 23 #[Tm 49] #[35], Mv 51 2, Cl 52 23 #[Tm 51] #[35], Sg 8 50, Sg 9 52]) (.seq (R0 [Fa 54 29 3 0, Ld 55 23 54, Fa 56 29 3 1, Ld 57 27 56, Mv 58 8, Mv 59 9, Cl 60 24 #[Tm 55, Tm 57, Tm 58, Tm 59] #[23, 27, 35, 35], Mv 53 60, Xt 61 53 0, Xt 62 53 1, Sg 10 61, Sg 11 62]) (.seq (.seq (R0 [Mv 63 8, Mv 64 1, Cl 65 25 #[Tm 63, Tm 64] #[35, 35], Oo 66 (.unOp .not 4 (Tm 65)), Mv 67 66, Gm 68 9 67 false, Gm 69 2 67 false, Gc 70 25 #[Tm 68, Tm 69] #[35, 35] 67 false, Og 71 (.unOp .not 4 (Tm 70)) 67 false, Pk 72 67 (Kb true) (Tm 71)]) (.cond (Tm 72) (.seq (R0 [Sk 6 (Kb false)]) .ret) .skip)) (.seq (.seq (R0 [Mv 73 7, Bo 74 .eql 30 (Tm 73) (Kn 0) 30]) (.cond (Tm 74) (.seq (R0 [Fa 76 29 3 0, Ld 77 23 76, Fa 78 29 3 1, Ld 79 27 78, Mv 80 1, Cl 81 21 #[Tm 77, Tm 79, Tm 80] #[23, 27, 35], Mv 75 81, Xt 82 75 0, Xt 83 75 1, Sg 12 82, Sg 13 83]) (.seq (R0 [Fa 85 29 3 0, Ld 86 23 85, Fa 87 29 3 1, Ld 88 27 87, Mv 89 2, Cl 90 21 #[Tm 86, Tm 88, Tm 89] #[23, 27, 35], Mv 84 90, Xt 91 84 0, Xt 92 84 1, Sg 14 91, Sg 15 92]) (.seq (.seq (R0 [Mv 93 13, Bo 94 .eql 40 (Tm 93) (Kn 0) 40, Mv 95 94, Gm 96 15 95 true, Gb 97 .eql 40 (Tm 96) (Kn 0) 40 95 true, Pk 98 95 (Tm 97) (Kb false)]) (.cond (Tm 98) (.seq (R0 [Mv 99 11, Bo 100 .eql 30 (Tm 99) (Kn 0) 30, Mv 101 100, Gm 102 10 101 true, Gf 103 29 3 1 101 true, Gl 104 27 103 101 true, Gm 105 1 101 true, Gm 106 2 101 true, Gc 107 27 #[Tm 104, Tm 105, Tm 106] #[27, 35, 35] 101 true, Gc 108 26 #[Tm 102, Tm 107] #[46, 46] 101 true, Pk 109 101 (Tm 108) (Kb false), Mv 110 109, Gc 111 14 #[] #[] 110 true, Pk 112 110 (Tm 111) (Kb false), Sg 6 112]) .ret) .skip)) (R0 [Sk 7 (Kn 9)])))) .skip)) (.seq (R0 [Mv 113 11, Mv 114 7, Bo 115 .eql 30 (Tm 113) (Tm 114) 30, Mv 116 115, Gm 117 10 116 true, Og 118 (.call { callee := .builtin .len, args := #[Tm 117], argTypes := #[46] }) 116 true, Gb 119 .eql 3 (Tm 118) (Kn 0) 3 116 true, Pk 120 116 (Tm 119) (Kb false), Mv 121 120, Gc 122 14 #[] #[] 121 true, Pk 123 121 (Tm 122) (Kb false), Sg 6 123]) .ret)))))))))⟩
def o9_0 : SO := (Ld 33 54 7)
def o9_1 : SO := (Mv 34 8)
def o9_2 : SO := (Cl 35 28 #[Tm 34] #[55])
def o9_3 : SO := (Cl 36 29 #[Tm 33, Tm 35] #[54, 55])
def o9_4 : SO := (Mv 32 36)
def o9_5 : SO := (Xt 37 32 0)
def o9_6 : SO := (Oo 9 (.alloc 25))
def o9_7 : SO := (Oo 10 (.alloc 25))
def o9_8 : SO := (Xt 38 32 1)
def o9_9 : SO := (Xt 39 32 2)
def o9_10 : SO := (Sr 25 (Tm 9) (Tm 37))
def o9_11 : SO := (Sr 25 (Tm 10) (Tm 38))
def o9_12 : SO := (Sg 11 39)
def o9_13 : SO := (Oo 89 (.indexAddr 97 (Tm 14) (Kn 0)))
def o9_14 : SO := (Ld 90 3 89)
def o9_15 : SO := (Mv 91 18)
def o9_16 : SO := (Fa 92 54 7 2)
def o9_17 : SO := (Ld 93 3 92)
def o9_18 : SO := (Bo 94 .mul 3 (Kn 2) (Tm 93) 3)
def o9_19 : SO := (Mv 95 19)
def o9_20 : SO := (Bo 96 .sub 3 (Tm 94) (Tm 95) 3)
def o9_21 : SO := (Bo 97 .mul 3 (Tm 91) (Tm 96) 3)
def o9_22 : SO := (Bo 98 .add 3 (Tm 90) (Tm 97) 3)
def o9_23 : SO := (Oo 99 (.indexAddr 97 (Tm 14) (Kn 1)))
def o9_24 : SO := (Ld 100 3 99)
def o9_25 : SO := (Oo 112 (.indexAddr 97 (Tm 14) (Kn 0)))
def o9_26 : SO := (Sr 3 (Tm 112) (Tm 98))
def o9_27 : SO := (Mv 101 18)
def o9_28 : SO := (Mv 102 19)
def o9_29 : SO := (Fa 103 54 7 1)
def o9_30 : SO := (Ld 104 3 103)
def o9_31 : SO := (Bo 105 .mul 3 (Kn 2) (Tm 104) 3)
def o9_32 : SO := (Bo 106 .sub 3 (Tm 102) (Tm 105) 3)
def o9_33 : SO := (Bo 107 .mul 3 (Tm 101) (Tm 106) 3)
def o9_34 : SO := (Bo 108 .add 3 (Tm 100) (Tm 107) 3)
def o9_35 : SO := (Oo 113 (.indexAddr 97 (Tm 14) (Kn 1)))
def o9_36 : SO := (Sr 3 (Tm 113) (Tm 108))
def o9_37 : SO := (Mv 109 15)
def o9_38 : SO := (Mv 110 18)
def o9_39 : SO := (Bo 111 .add 3 (Tm 109) (Tm 110) 3)
def o9_40 : SO := (Sg 15 111)
def o9_41 : SO := (Oo 257 (.buildSlice 64 0 #[]))
def o9_42 : SO := (Mv 258 16)
def o9_43 : SO := (Mv 259 26)
def o9_44 : SO := (Oo 260 (.slice 64 (Tm 258) none (some (Tm 259)) none))
def o9_45 : SO := (Oo 261 (.call { callee := .builtin .append, args := #[Tm 257, Tm 260], argTypes := #[64, 64] }))
def o9_46 : SO := (Mv 262 16)
def o9_47 : SO := (Mv 263 26)
def o9_48 : SO := (Bo 264 .add 3 (Tm 263) (Kn 1) 3)
def o9_49 : SO := (Oo 265 (.slice 64 (Tm 262) (some (Tm 264)) none none))
def o9_50 : SO := (Oo 266 (.call { callee := .builtin .append, args := #[Tm 261, Tm 265], argTypes := #[64, 64] }))
def o9_51 : SO := (Sg 16 266)
def s9 : SF := ⟨281, [.tmp 6], (.seq (R0 [Oo 3 (.box 94 (Tm 0)), Sk 6 (Kb false)]) (.seq (R0 [Ld 28 94 3, Cl 29 43 #[Tm 28] #[94], Mv 27 29, Xt 30 27 0, Xt 31 27 1, Oo 7 (.alloc 54), Sr 54 (Tm 7) (Tm 30), Sg 8 31]) (.seq (.ord (.op o9_0 (.op o9_1 (.op o9_2 (.op o9_3 (.op o9_4 (.op o9_5 (.op o9_6 (.op o9_7 (.alt (.op o9_8 (.alt (.op o9_9 (.op o9_10 (.op o9_11 (.op o9_12 .done)))) (.op o9_10 (.alt (.op o9_9 (.op o9_11 (.op o9_12 .done))) (.op o9_11 (.op o9_9 (.op o9_12 .done))))))) (.alt (.op o9_9 (.alt (.op o9_8 (.op o9_10 (.op o9_11 (.op o9_12 .done)))) (.op o9_10 (.op o9_8 (.op o9_11 (.op o9_12 .done)))))) (.op o9_10 (.op o9_8 (.alt (.op o9_9 (.op o9_11 (.op o9_12 .done))) (.op o9_11 (.op o9_9 (.op o9_12 .done))))))))))))))))) (.seq (.seq (R0 [Mv 40 11, Bo 41 .neq 30 (Tm 40) (Kn 0) 30]) (.cond (Tm 41) (.seq (R0 [Sk 6 (Kb false)]) .ret) .skip)) (.seq (R0 [Fa 42 54 7 2, Ld 43 3 42, Fa 44 54 7 1, Ld 45 3 44, Bo 46 .sub 3 (Tm 43) (Tm 45) 3, Bo 47 .mul 3 (Kn 2) (Tm 46) 3, Sg 12 47]) (.seq (R0 [Oo 48 (.build 97 #[]), Oo 14 (.alloc 97), Sk 13 (Kn 0), Sr 97 (Tm 14) (Tm 48), Sk 15 (Kn 0)]) (.seq (R0 [Oo 49 (.buildSlice 64 0 #[]), Sg 16 49]) (.seq (.seq (R0 [Sk 17 (Kn 0)]) (.block 0 (.loop (.seq (.seq (R0 [Mv 50 17, Mv 51 8, Lq 52 51 55, Bo 53 .lss 3 (Tm 50) (Tm 52) 3]) (.cond (Tm 53) .skip (.exit 0))) (.seq (.block 1 (.seq (R1 [Mv 56 8, Mv 57 17, Ix 58 55 56 57, Fa 59 99 58 1, Fa 60 25 59 0, Ld 61 3 60, Mv 62 1, Mv 63 17, Cl 64 44 #[Tm 62, Tm 63] #[74, 3], Mv 65 8, Mv 66 17, Ix 67 55 65 66, Fa 68 99 67 1, Fa 69 25 68 1, Ld 70 3 69, Mv 71 8, Mv 72 17, Ix 73 55 71 72, Fa 74 99 73 1, Fa 75 25 74 0, Ld 76 3 75, Bo 77 .sub 3 (Tm 70) (Tm 76) 3, Bo 78 .mul 3 (Tm 64) (Tm 77) 3, Bo 79 .quo 3 (Tm 78) (Kn 255) 3, Bo 80 .add 3 (Tm 61) (Tm 79) 3, Sg 18 80]) (.seq (R0 [Mv 81 13, Bo 82 .mul 3 (Kn 2) (Tm 81) 3, Mv 83 8, Mv 84 17, Ix 85 55 83 84, Fa 86 99 85 0, Ld 87 3 86, Bo 88 .add 3 (Tm 82) (Tm 87) 3, Sg 19 88]) (.seq (.ord (.op o9_13 (.op o9_14 (.op o9_15 (.op o9_16 (.op o9_17 (.op o9_18 (.op o9_19 (.op o9_20 (.op o9_21 (.op o9_22 (.op o9_23 (.op o9_24 (.op o9_25 (.app o9_26 [18, 19, 7, 103, 104, 102, 105, 101, 106, 100, 107, 15, 18, 109, 110] [101, 102, 103, 104, 105, 106, 107, 108, 109, 110, 111] (.op o9_27 (.op o9_28 (.op o9_29 (.op o9_30 (.op o9_31 (.op o9_32 (.op o9_33 (.op o9_34 (.op o9_35 (.app o9_36 [15, 18, 109, 110] [109, 110, 111] (.op o9_37 (.op o9_38 (.op o9_39 (.op o9_40 .done))))))))))))))))))))))))))))) (.seq (R0 [Mv 114 13, Mv 115 8, Mv 116 17, Ix 117 55 115 116, Fa 118 99 117 0, Ld 119 3 118, Bo 120 .add 3 (Tm 114) (Tm 119) 3, Sg 13 120]) (R0 [Mv 121 16, Mv 122 17, Oo 123 (.buildSlice 64 1 #[(0, (Tm 122))]), Oo 124 (.call { callee := .builtin .append, args := #[Tm 121, Tm 123], argTypes := #[64, 64] }), Sg 16 124])))))) (R0 [Mv 54 17, Bo 55 .add 3 (Tm 54) (Kn 1) 3, Sg 17 55])))))) (.seq (.seq (R0 [Oo 125 (.indexAddr 97 (Tm 14) (Kn 0)), Ld 126 3 125, Oo 127 (.indexAddr 97 (Tm 14) (Kn 1)), Ld 128 3 127, Bo 129 .add 3 (Tm 126) (Tm 128) 3, Mv 130 15, Mv 131 12, Bo 132 .mul 3 (Tm 130) (Tm 131) 3, Bo 133 .neq 3 (Tm 129) (Tm 132) 3, Mv 134 133, Og 135 (.indexAddr 97 (Tm 14) (Kn 0)) 134 false, Gl 136 3 135 134 false, Gf 137 25 9 0 134 false, Gl 138 3 137 134 false, Gm 139 12 134 false, Gb 140 .mul 3 (Tm 138) (Tm 139) 3 134 false, Gb 141 .lss 3 (Tm 136) (Tm 140) 3 134 false, Pk 142 134 (Kb true) (Tm 141), Mv 143 142, Og 144 (.indexAddr 97 (Tm 14) (Kn 0)) 143 false, Gl 145 3 144 143 false, Gf 146 25 9 1 143 false, Gl 147 3 146 143 false, Gb 148 .add 3 (Tm 147) (Kn 1) 3 143 false, Gm 149 12 143 false, Gb 150 .mul 3 (Tm 148) (Tm 149) 3 143 false, Gb 151 .geq 3 (Tm 145) (Tm 150) 3 143 false, Pk 152 143 (Kb true) (Tm 151), Mv 153 152, Og 154 (.indexAddr 97 (Tm 14) (Kn 1)) 153 false, Gl 155 3 154 153 false, Gf 156 25 10 0 153 false, Gl 157 3 156 153 false, Gm 158 12 153 false, Gb 159 .mul 3 (Tm 157) (Tm 158) 3 153 false, Gb 160 .lss 3 (Tm 155) (Tm 159) 3 153 false, Pk 161 153 (Kb true) (Tm 160), Mv 162 161, Og 163 (.indexAddr 97 (Tm 14) (Kn 1)) 162 false, Gl 164 3 163 162 false, Gf 165 25 10 1 162 false, Gl 166 3 165 162 false, Gb 167 .add 3 (Tm 166) (Kn 1) 3 162 false, Gm 168 12 162 false, Gb 169 .mul 3 (Tm 167) (Tm 168) 3 162 false, Gb 170 .geq 3 (Tm 164) (Tm 169) 3 162 false, Pk 171 162 (Kb true) (Tm 170)]) (.cond (Tm 171) (.seq (R0 [Sk 6 (Kb false)]) .ret) .skip)) (.seq (R1 [Ld 173 54 7, Mv 174 8, Cl 175 28 #[Tm 174] #[55], Cl 176 33 #[Tm 173, Tm 175] #[54, 55], Mv 172 176, Xt 177 172 0, Xt 178 172 1, Sg 20 177, Sg 21 178]) (.seq (.seq (R0 [Mv 179 21, Bo 180 .neq 30 (Tm 179) (Kn 0) 30, Mv 181 180, Gm 182 21 181 true, Gb 183 .neq 30 (Tm 182) (Kn 9) 30 181 true, Gm 184 183 181 true, Gm 185 20 184 false, Og 186 (.call { callee := .builtin .len, args := #[Tm 185], argTypes := #[64] }) 184 false, Gb 187 .neq 3 (Tm 186) (Kn 0) 3 184 false, Og 188 (.pick (Tm 184) (Kb true) (Tm 187)) 181 true, Pk 189 181 (Tm 188) (Kb false)]) (.cond (Tm 189) (.seq (R0 [Sk 6 (Kb false)]) .ret) .skip)) (.seq (.seq (R0 [Mv 190 21, Bo 191 .eql 30 (Tm 190) (Kn 0) 30]) (.cond (Tm 191) (.seq (R0 [Oo 192 (.makeMap 101 none), Sg 22 192]) (.seq (.seq (R0 [Sk 23 (Kn 0)]) (.block 2 (.loop (.seq (.seq (R0 [Mv 193 23, Mv 194 20, Lq 195 194 64, Bo 196 .lss 3 (Tm 193) (Tm 195) 3]) (.cond (Tm 196) .skip (.exit 2))) (.seq (.block 3 (.seq (.seq (R0 [Mv 199 20, Mv 200 23, Ix 201 64 199 200, Ld 202 3 201, Bo 203 .lss 3 (Tm 202) (Kn 0) 3, Mv 204 203, Gm 205 20 204 false, Gm 206 23 204 false, Gx 207 64 205 206 204 false, Gl 208 3 207 204 false, Gm 209 8 204 false, Og 210 (.call { callee := .builtin .len, args := #[Tm 209], argTypes := #[55] }) 204 false, Gb 211 .geq 3 (Tm 208) (Tm 210) 3 204 false, Pk 212 204 (Kb true) (Tm 211), Mv 213 212, Gm 214 22 213 false, Gm 215 20 213 false, Gm 216 23 213 false, Gx 217 64 215 216 213 false, Gl 218 3 217 213 false, Og 219 (.lookup 101 (Tm 214) (Tm 218) false) 213 false, Pk 220 213 (Kb true) (Tm 219)]) (.cond (Tm 220) (.seq (R0 [Sk 6 (Kb false)]) .ret) .skip)) (R0 [Mv 221 22, Mv 222 20, Mv 223 23, Ix 224 64 222 223, Ld 225 3 224, ⟨none, .mapUpdate 101 (Tm 221) (Tm 225) (Kb true), none⟩]))) (R0 [Mv 197 23, Bo 198 .add 3 (Tm 197) (Kn 1) 3, Sg 23 198])))))) (.seq (R0 [Mv 226 20, Lq 227 226 64, Mv 228 8, Lq 229 228 55, Bo 230 .neq 3 (Tm 227) (Tm 229) 3, Mv 231 230, Gl 232 54 7 231 false, Gm 233 8 231 false, Gm 234 20 231 false, Gc 235 45 #[Tm 232, Tm 233, Tm 234] #[54, 55, 64] 231 false, Og 236 (.unOp .not 4 (Tm 235)) 231 false, Pk 237 231 (Kb true) (Tm 236)]) (.cond (Tm 237) (.seq (R0 [Sk 6 (Kb false)]) .ret) .skip)))) .skip)) (.seq (R0 [Oo 238 (.buildSlice 64 0 #[]), Sg 24 238]) (.seq (.seq (R0 [Sk 25 (Kn 0)]) (.block 4 (.loop (.seq (.seq (R0 [Mv 239 16, Lq 240 239 64, Bo 241 .gtr 3 (Tm 240) (Kn 0) 3]) (.cond (Tm 241) .skip (.exit 4))) (.seq (.block 5 (.seq (R0 [Mv 244 2, Mv 245 25, Cl 246 44 #[Tm 244, Tm 245] #[74, 3], Mv 247 16, Lq 248 247 64, Bo 249 .rem 3 (Tm 246) (Tm 248) 3, Sg 26 249]) (.seq (R0 [Mv 250 24, Mv 251 16, Mv 252 26, Ix 253 64 251 252, Ld 254 3 253, Oo 255 (.buildSlice 64 1 #[(0, (Tm 254))]), Oo 256 (.call { callee := .builtin .append, args := #[Tm 250, Tm 255], argTypes := #[64, 64] }), Sg 24 256]) (.ord (.op o9_41 (.op o9_42 (.op o9_43 (.op o9_44 (.app o9_45 [16, 26, 263, 262, 264] [262, 263, 264, 265] (.op o9_46 (.op o9_47 (.op o9_48 (.op o9_49 (.op o9_50 (.op o9_51 .done))))))))))))))) (R0 [Mv 242 25, Bo 243 .add 3 (Tm 242) (Kn 1) 3, Sg 25 243])))))) (.seq (.seq (R0 [Ld 267 54 7, Mv 268 8, Mv 269 24, Cl 270 45 #[Tm 267, Tm 268, Tm 269] #[54, 55, 64], Mv 271 270, Gm 272 21 271 true, Gb 273 .neq 30 (Tm 272) (Kn 0) 30 271 true, Gm 274 273 271 true, Gm 275 24 274 false, Gm 276 20 274 false, Gc 277 46 #[Tm 275, Tm 276] #[64, 64] 274 false, Og 278 (.pick (Tm 274) (Kb true) (Tm 277)) 271 true, Pk 279 271 (Tm 278) (Kb false)]) (.cond (Tm 279) (.seq (R0 [Sk 6 (Kb false)]) .ret) .skip)) (.seq (R0 [Cl 280 14 #[] #[], Sg 6 280]) .ret))))))))))))))))⟩
theorem sf9 : sfOf Try.f9 = some s9 := by kernel_rfl
theorem hb9 : hasBody Try.prog 9 = true := by kernel_rfl
end Go.Dw.Seat
end
section
namespace Go.Dw.Seat
open Go Go.Dw Go.Proofs
def s14 : SF := ⟨241, [.tmp 0], (.seq (R0 [Sk 0 (Kb false)]) (.seq (R0 [Cl 26 57 #[Kn 0, Kn 0] #[3, 3], Cl 27 57 #[Kn 40, Kn 0] #[3, 3], Cl 28 57 #[Kn 0, Kn 30] #[3, 3], Oo 29 (.buildSlice 35 3 #[(0, (Tm 26)), (1, (Tm 27)), (2, (Tm 28))]), Oo 30 (.buildSlice 35 0 #[]), Sg 1 29, Sg 2 30]) (.seq (.seq (R0 [Sk 3 (Kn 0)]) (.block 0 (.loop (.seq (.seq (R0 [Mv 31 3, Bo 32 .lss 3 (Tm 31) (Kn 8) 3]) (.cond (Tm 32) .skip (.exit 0))) (.seq (.block 1 (R0 [Mv 35 2, Mv 36 3, Bo 37 .rem 3 (Tm 36) (Kn 4) 3, Bo 38 .mul 3 (Kn 30) (Tm 37) 3, Mv 39 3, Bo 40 .quo 3 (Tm 39) (Kn 4) 3, Bo 41 .mul 3 (Kn 40) (Tm 40) 3, Oo 42 (.build 83 #[(0, (Tm 38)), (1, (Tm 41)), (2, (Kb true))]), Oo 43 (.buildSlice 35 1 #[(0, (Tm 42))]), Oo 44 (.call { callee := .builtin .append, args := #[Tm 35, Tm 43], argTypes := #[35, 35] }), Sg 2 44])) (R0 [Mv 33 3, Bo 34 .add 3 (Tm 33) (Kn 1) 3, Sg 3 34])))))) (.seq (R0 [Cl 46 58 #[Kn 0] #[3], Cl 47 59 #[] #[], Cl 48 15 #[Tm 46, Tm 47] #[23, 27], Mv 45 48, Xt 49 45 0, Xt 50 45 1, Sg 4 49, Sg 5 50]) (.seq (R0 [Cl 52 58 #[Kn 5] #[3], Cl 53 59 #[] #[], Cl 54 15 #[Tm 52, Tm 53] #[23, 27], Mv 51 54, Xt 55 51 0, Xt 56 51 1, Sg 6 55, Sg 7 56]) (.seq (R0 [Cl 58 58 #[Kn 5] #[3], Cl 59 59 #[] #[], Cl 60 16 #[Tm 58, Tm 59] #[23, 27], Mv 57 60, Xt 61 57 0, Xt 62 57 1, Sg 8 61, Sg 9 62]) (.seq (R0 [Cl 64 58 #[Kn 0] #[3], Cl 65 59 #[] #[], Cl 66 17 #[Tm 64, Tm 65] #[23, 27], Mv 63 66, Xt 67 63 0, Xt 68 63 1, Sg 10 67, Sg 11 68]) (.seq (R0 [Cl 70 58 #[Kn 0] #[3], Cl 71 59 #[] #[], Mv 72 1, Cl 73 23 #[Tm 72] #[35], Cl 74 38 #[Tm 70, Tm 71, Tm 73, Kn 2] #[23, 27, 35, 3], Mv 69 74, Xt 75 69 0, Xt 76 69 1, Sg 12 75, Sg 13 76]) (.seq (R0 [Cl 78 58 #[Kn 0] #[3], Cl 79 59 #[] #[], Mv 80 1, Cl 81 23 #[Tm 80] #[35], Mv 82 12, Cl 83 23 #[Tm 82] #[35], Cl 84 24 #[Tm 78, Tm 79, Tm 81, Tm 83] #[23, 27, 35, 35], Mv 77 84, Xt 85 77 0, Xt 86 77 1, Sg 14 85, Sg 15 86]) (.seq (R0 [Cl 88 58 #[Kn 0] #[3], Cl 89 59 #[] #[], Mv 90 2, Cl 91 23 #[Tm 90] #[35], Cl 92 42 #[Tm 88, Tm 89, Tm 91] #[23, 27, 35], Mv 87 92, Xt 93 87 0, Xt 94 87 1, Xt 95 87 2, Sg 16 93, Sg 17 94, Sg 18 95]) (.seq (R0 [Cl 97 58 #[Kn 0] #[3], Cl 98 59 #[] #[], Mv 99 2, Cl 100 23 #[Tm 99] #[35], Cl 101 60 #[] #[], Cl 102 52 #[Tm 97, Tm 98, Tm 100, Tm 101, Kn 0] #[23, 27, 35, 113, 3], Mv 96 102, Xt 103 96 0, Xt 104 96 1, Sg 19 103, Sg 20 104]) (.seq (R0 [Cl 106 61 #[] #[], Cl 107 54 #[Kn 1000000, Kn 1000000] #[3, 3], Oo 108 (.build 99 #[(0, (Kn 120)), (1, (Tm 107))]), Cl 109 54 #[Kn 800000, Kn 900000] #[3, 3], Oo 110 (.build 99 #[(0, (Kn 120)), (1, (Tm 109))]), Oo 111 (.buildSlice 55 2 #[(0, (Tm 108)), (1, (Tm 110))]), Cl 112 29 #[Tm 106, Tm 111] #[54, 55], Mv 105 112, Xt 113 105 0, Xt 114 105 1, Xt 115 105 2, Oo 21 (.alloc 25), Oo 22 (.alloc 25), Sr 25 (Tm 21) (Tm 113), Sr 25 (Tm 22) (Tm 114), Sg 23 115]) (.seq (R0 [Cl 117 61 #[] #[], Cl 118 54 #[Kn 1000000, Kn 1000000] #[3, 3], Oo 119 (.build 99 #[(0, (Kn 120)), (1, (Tm 118))]), Cl 120 54 #[Kn 800000, Kn 900000] #[3, 3], Oo 121 (.build 99 #[(0, (Kn 120)), (1, (Tm 120))]), Oo 122 (.buildSlice 55 2 #[(0, (Tm 119)), (1, (Tm 121))]), Cl 123 33 #[Tm 117, Tm 122] #[54, 55], Mv 116 123, Xt 124 116 0, Xt 125 116 1, Sg 24 124, Sg 25 125]) (.seq (.seq (R0 [Mv 126 5, Bo 127 .neq 30 (Tm 126) (Kn 0) 30, Mv 128 127, Gm 129 7 128 false, Gb 130 .neq 30 (Tm 129) (Kn 0) 30 128 false, Pk 131 128 (Kb true) (Tm 130), Mv 132 131, Gm 133 9 132 false, Gb 134 .neq 30 (Tm 133) (Kn 0) 30 132 false, Pk 135 132 (Kb true) (Tm 134), Mv 136 135, Gm 137 11 136 false, Gb 138 .neq 30 (Tm 137) (Kn 0) 30 136 false, Pk 139 136 (Kb true) (Tm 138), Mv 140 139, Gm 141 13 140 false, Gb 142 .neq 30 (Tm 141) (Kn 0) 30 140 false, Pk 143 140 (Kb true) (Tm 142), Mv 144 143, Gm 145 15 144 false, Gb 146 .neq 30 (Tm 145) (Kn 0) 30 144 false, Pk 147 144 (Kb true) (Tm 146), Mv 148 147, Gm 149 18 148 false, Gb 150 .neq 30 (Tm 149) (Kn 0) 30 148 false, Pk 151 148 (Kb true) (Tm 150), Mv 152 151, Gm 153 20 152 false, Gb 154 .neq 30 (Tm 153) (Kn 0) 30 152 false, Pk 155 152 (Kb true) (Tm 154), Mv 156 155, Gm 157 23 156 false, Gb 158 .neq 30 (Tm 157) (Kn 0) 30 156 false, Pk 159 156 (Kb true) (Tm 158), Mv 160 159, Gm 161 25 160 false, Gb 162 .neq 30 (Tm 161) (Kn 0) 30 160 false, Pk 163 160 (Kb true) (Tm 162), Mv 164 163, Gm 165 14 164 false, Og 166 (.call { callee := .builtin .len, args := #[Tm 165], argTypes := #[46] }) 164 false, Gb 167 .neq 3 (Tm 166) (Kn 3) 3 164 false, Pk 168 164 (Kb true) (Tm 167)]) (.cond (Tm 168) (.seq (R0 [Sk 0 (Kb false)]) .ret) .skip)) (.seq (R1 [Mv 169 4, Bo 170 .eql 3 (Tm 169) (Kn 8) 3, Mv 171 170, Gm 172 6 171 true, Gb 173 .eql 3 (Tm 172) (Kn 9) 3 171 true, Pk 174 171 (Tm 173) (Kb false), Mv 175 174, Gm 176 8 175 true, Gb 177 .eql 3 (Tm 176) (Kn 9) 3 175 true, Pk 178 175 (Tm 177) (Kb false), Mv 179 178, Gm 180 10 179 true, Og 181 (.call { callee := .builtin .len, args := #[Tm 180], argTypes := #[35] }) 179 true, Gb 182 .eql 3 (Tm 181) (Kn 8) 3 179 true, Pk 183 179 (Tm 182) (Kb false), Mv 184 183, Gm 185 12 184 true, Gc 186 57 #[Kn 80, Kn 0] #[3, 3] 184 true, Gc 187 57 #[Kn 40, Kn 0] #[3, 3] 184 true, Gc 188 57 #[Kn 80, Kn 30] #[3, 3] 184 true, Og 189 (.buildSlice 35 3 #[(0, (Tm 186)), (1, (Tm 187)), (2, (Tm 188))]) 184 true, Gc 190 25 #[Tm 185, Tm 189] #[35, 35] 184 true, Pk 191 184 (Tm 190) (Kb false), Mv 192 191, Gm 193 14 192 true, Og 194 (.indexAddr 46 (Tm 193) (Kn 0)) 192 true, Gf 195 85 194 1 192 true, Gl 196 3 195 192 true, Gb 197 .eql 3 (Tm 196) (Kn 0) 3 192 true, Pk 198 192 (Tm 197) (Kb false), Mv 199 198, Gm 200 14 199 true, Og 201 (.indexAddr 46 (Tm 200) (Kn 1)) 199 true, Gf 202 85 201 1 199 true, Gl 203 3 202 199 true, Gb 204 .eql 3 (Tm 203) (Kn 1000) 3 199 true, Pk 205 199 (Tm 204) (Kb false), Mv 206 205, Gm 207 14 206 true, Og 208 (.indexAddr 46 (Tm 207) (Kn 1)) 206 true, Gf 209 85 208 0 206 true, Gl 210 64 209 206 true, Og 211 (.buildSlice 64 1 #[(0, (Kn 1))]) 206 true, Gc 212 35 #[Tm 210, Tm 211] #[64, 64] 206 true, Pk 213 206 (Tm 212) (Kb false), Mv 214 213, Gm 215 16 214 true, Gb 216 .eql 3 (Tm 215) (Kn 0) 3 214 true, Pk 217 214 (Tm 216) (Kb false), Mv 218 217, Gm 219 17 218 true, Gb 220 .eql 3 (Tm 219) (Kn 0) 3 218 true, Pk 221 218 (Tm 220) (Kb false), Mv 222 221, Gm 223 19 222 true, Gb 224 .eql 3 (Tm 223) (Kn 6) 3 222 true, Pk 225 222 (Tm 224) (Kb false), Mv 226 225, Gl 227 25 21 226 true, Gc 228 54 #[Kn 1740000, Kn 1820000] #[3, 3] 226 true, Gb 229 .eql 25 (Tm 227) (Tm 228) 25 226 true, Pk 230 226 (Tm 229) (Kb false), Mv 231 230, Gl 232 25 22 231 true, Gc 233 54 #[Kn 60000, Kn 80000] #[3, 3] 231 true, Gb 234 .eql 25 (Tm 232) (Tm 233) 25 231 true, Pk 235 231 (Tm 234) (Kb false), Mv 236 235, Gm 237 24 236 true, Og 238 (.buildSlice 64 2 #[(0, (Kn 0)), (1, (Kn 1))]) 236 true, Gc 239 35 #[Tm 237, Tm 238] #[64, 64] 236 true, Pk 240 236 (Tm 239) (Kb false), Sg 0 240]) .ret)))))))))))))))⟩
theorem sf14 : sfOf Try.f14 = some s14 := by kernel_rfl
theorem hb14 : hasBody Try.prog 14 = true := by kernel_rfl
def s15 : SF := ⟨41, [.tmp 4, .tmp 5], (.seq (R0 [Oo 2 (.box 23 (Tm 0)), Oo 3 (.box 27 (Tm 1)), Sk 4 (Kn 0), Sk 5 (Kn 0)]) (.seq (.seq (R0 [Ld 8 23 2, Ld 9 27 3, Cl 10 47 #[Tm 8, Tm 9] #[23, 27], Sg 6 10]) (.seq (R0 [Mv 11 6, Bo 12 .neq 30 (Tm 11) (Kn 0) 30]) (.cond (Tm 12) (.seq (R0 [Mv 13 6, Sk 4 (Kn 0), Sg 5 13]) .ret) .skip))) (.seq (R0 [Ld 14 23 2, Ld 15 27 3, Oo 16 (.build 130 #[(0, (Tm 14)), (1, (Tm 15))]), Cl 17 62 #[Tm 16] #[130], Oo 7 (.alloc 128), Sr 128 (Tm 7) (Tm 17)]) (.seq (R1 [Ld 18 27 3, Oo 19 (.indexAddr 128 (Tm 7) (Kn 0)), Ld 20 3 19, Cl 21 63 #[Tm 18, Tm 20] #[27, 3], Oo 22 (.indexAddr 128 (Tm 7) (Kn 0)), Ld 23 3 22, Ix 24 64 21 23, Ld 25 3 24, Ld 26 27 3, Oo 27 (.indexAddr 128 (Tm 7) (Kn 1)), Ld 28 3 27, Cl 29 63 #[Tm 26, Tm 28] #[27, 3], Oo 30 (.indexAddr 128 (Tm 7) (Kn 1)), Ld 31 3 30, Ix 32 64 29 31, Ld 33 3 32, Bo 34 .mul 3 (Tm 25) (Tm 33) 3, Fa 35 27 3 0, Ld 36 3 35, Fa 37 27 3 1, Ld 38 3 37, Bo 39 .mul 3 (Tm 36) (Tm 38) 3, Bo 40 .quo 3 (Tm 34) (Tm 39) 3, Sg 4 40, Sk 5 (Kn 0)]) .ret))))⟩
theorem sf15 : sfOf Try.f15 = some s15 := by kernel_rfl
theorem hb15 : hasBody Try.prog 15 = true := by kernel_rfl
def o16_0 : SO := (Ld 17 130 7)
def o16_1 : SO := (Ld 19 130 7)
def o16_2 : SO := (Cl 20 62 #[Tm 19] #[130])
def o16_3 : SO := (Oo 22 (.field 136 (Tm 21) 0))
def o16_4 : SO := (Sg 4 22)
def o16_5 : SO := (Sk 5 (Kn 0))
def s16 : SF := ⟨23, [.tmp 4, .tmp 5], (.seq (R0 [Oo 2 (.box 23 (Tm 0)), Oo 3 (.box 27 (Tm 1)), Sk 4 (Kn 0), Sk 5 (Kn 0)]) (.seq (.seq (R0 [Ld 8 23 2, Ld 9 27 3, Cl 10 47 #[Tm 8, Tm 9] #[23, 27], Sg 6 10]) (.seq (R0 [Mv 11 6, Bo 12 .neq 30 (Tm 11) (Kn 0) 30]) (.cond (Tm 12) (.seq (R0 [Mv 13 6, Sk 4 (Kn 0), Sg 5 13]) .ret) .skip))) (.seq (R0 [Ld 14 23 2, Ld 15 27 3, Oo 16 (.build 130 #[(0, (Tm 14)), (1, (Tm 15))]), Oo 7 (.alloc 130), Sr 130 (Tm 7) (Tm 16)]) (.seq (.ord (.op o16_0 (.alt (.lop (Cl 18 64 #[Tm 17] #[130]) (.op o16_1 (.op o16_2 (.lop (Cl 21 65 #[Tm 18, Tm 20] #[137, 128]) (.op o16_3 (.op o16_4 (.op o16_5 .done))))))) (.op o16_1 (.lop (Cl 18 64 #[Tm 17] #[130]) (.op o16_2 (.lop (Cl 21 65 #[Tm 18, Tm 20] #[137, 128]) (.op o16_3 (.op o16_4 (.op o16_5 .done)))))))))) .ret))))⟩
theorem sf16 : sfOf Try.f16 = some s16 := by kernel_rfl
theorem hb16 : hasBody Try.prog 16 = true := by kernel_rfl
def o17_0 : SO := (Ld 17 130 7)
def o17_1 : SO := (Oo 19 (.build 128 #[]))
def o17_2 : SO := (Ld 20 130 7)
def o17_3 : SO := (Cl 21 62 #[Tm 20] #[130])
def o17_4 : SO := (Sg 4 22)
def o17_5 : SO := (Sk 5 (Kn 0))
def s17 : SF := ⟨23, [.tmp 4, .tmp 5], (.seq (R0 [Oo 2 (.box 23 (Tm 0)), Oo 3 (.box 27 (Tm 1)), Oo 4 (.assign (.const (.slice none 0 0))), Sk 5 (Kn 0)]) (.seq (.seq (R0 [Ld 8 23 2, Ld 9 27 3, Cl 10 47 #[Tm 8, Tm 9] #[23, 27], Sg 6 10]) (.seq (R0 [Mv 11 6, Bo 12 .neq 30 (Tm 11) (Kn 0) 30]) (.cond (Tm 12) (.seq (R0 [Mv 13 6, Oo 4 (.assign (.const (.slice none 0 0))), Sg 5 13]) .ret) .skip))) (.seq (R0 [Ld 14 23 2, Ld 15 27 3, Oo 16 (.build 130 #[(0, (Tm 14)), (1, (Tm 15))]), Oo 7 (.alloc 130), Sr 130 (Tm 7) (Tm 16)]) (.seq (.ord (.op o17_0 (.alt (.lop (Cl 18 64 #[Tm 17] #[130]) (.op o17_1 (.op o17_2 (.op o17_3 (.lop (Cl 22 66 #[Tm 18, Tm 19, Tm 21] #[137, 128, 128]) (.op o17_4 (.op o17_5 .done))))))) (.alt (.op o17_1 (.alt (.lop (Cl 18 64 #[Tm 17] #[130]) (.op o17_2 (.op o17_3 (.lop (Cl 22 66 #[Tm 18, Tm 19, Tm 21] #[137, 128, 128]) (.op o17_4 (.op o17_5 .done)))))) (.op o17_2 (.lop (Cl 18 64 #[Tm 17] #[130]) (.op o17_3 (.lop (Cl 22 66 #[Tm 18, Tm 19, Tm 21] #[137, 128, 128]) (.op o17_4 (.op o17_5 .done)))))))) (.op o17_2 (.alt (.lop (Cl 18 64 #[Tm 17] #[130]) (.op o17_1 (.op o17_3 (.lop (Cl 22 66 #[Tm 18, Tm 19, Tm 21] #[137, 128, 128]) (.op o17_4 (.op o17_5 .done)))))) (.op o17_1 (.lop (Cl 18 64 #[Tm 17] #[130]) (.op o17_3 (.lop (Cl 22 66 #[Tm 18, Tm 19, Tm 21] #[137, 128, 128]) (.op o17_4 (.op o17_5 .done)))))))))))) .ret))))⟩
theorem sf17 : sfOf Try.f17 = some s17 := by kernel_rfl
theorem hb17 : hasBody Try.prog 17 = true := by kernel_rfl
def s23 : SF := ⟨6, [.tmp 2], (.seq (R0 [Oo 2 (.assign (.const (.slice none 0 0)))]) (.seq (R0 [Oo 3 (.buildSlice 35 0 #[]), Mv 4 0, Oo 5 (.call { callee := .builtin .append, args := #[Tm 3, Tm 4], argTypes := #[35, 35] }), Sg 2 5]) .ret))⟩
theorem sf23 : sfOf Try.f23 = some s23 := by kernel_rfl
theorem hb23 : hasBody Try.prog 23 = true := by kernel_rfl
def s24 : SF := ⟨42, [.tmp 8, .tmp 9], (.seq (R0 [Oo 4 (.box 23 (Tm 0)), Oo 5 (.box 27 (Tm 1)), Oo 8 (.assign (.const (.slice none 0 0))), Sk 9 (Kn 0)]) (.seq (.seq (R0 [Ld 14 23 4, Ld 15 27 5, Mv 16 2, Mv 17 3, Oo 18 (.buildSlice 185 2 #[(0, (Tm 16)), (1, (Tm 17))]), Cl 19 71 #[Tm 14, Tm 15, Tm 18] #[23, 27, 185], Mv 13 19, Xt 20 13 0, Xt 21 13 1, Oo 10 (.alloc 130), Sr 130 (Tm 10) (Tm 20), Sg 11 21]) (.seq (R0 [Mv 22 11, Bo 23 .neq 30 (Tm 22) (Kn 0) 30]) (.cond (Tm 23) (.seq (R0 [Mv 24 11, Oo 8 (.assign (.const (.slice none 0 0))), Sg 9 24]) .ret) .skip))) (.seq (R0 [Ld 26 23 4, Ld 27 27 5, Mv 28 2, Mv 29 3, Oo 30 (.buildSlice 185 2 #[(0, (Tm 28)), (1, (Tm 29))]), Cl 31 72 #[Tm 26, Tm 27, Tm 30] #[23, 27, 185], Mv 25 31, Xt 32 25 0, Xt 33 25 1, Oo 12 (.alloc 130), Sr 130 (Tm 12) (Tm 32), Sg 9 33]) (.seq (.seq (R0 [Mv 34 9, Bo 35 .neq 30 (Tm 34) (Kn 0) 30]) (.cond (Tm 35) (.seq (R0 [Mv 36 9, Oo 8 (.assign (.const (.slice none 0 0))), Sg 9 36]) .ret) .skip)) (.seq (R0 [Ld 37 130 12, Mv 38 2, Mv 39 3, Cl 40 74 #[Tm 37, Tm 38, Tm 39] #[130, 35, 35], Cl 41 73 #[Tm 40] #[187], Sg 8 41, Sk 9 (Kn 0)]) .ret)))))⟩
theorem sf24 : sfOf Try.f24 = some s24 := by kernel_rfl
theorem hb24 : hasBody Try.prog 24 = true := by kernel_rfl
def s25 : SF := ⟨26, [.tmp 4], (.seq (R0 [Sk 4 (Kb false)]) (.seq (.seq (R0 [Mv 6 0, Lq 7 6 35, Mv 8 1, Lq 9 8 35, Bo 10 .neq 3 (Tm 7) (Tm 9) 3]) (.cond (Tm 10) (.seq (R0 [Sk 4 (Kb false)]) .ret) .skip)) (.seq (.seq (R0 [Sk 5 (Kn 0)]) (.block 0 (.loop (.seq (.seq (R0 [Mv 11 5, Mv 12 0, Lq 13 12 35, Bo 14 .lss 3 (Tm 11) (Tm 13) 3]) (.cond (Tm 14) .skip (.exit 0))) (.seq (.block 1 (.seq (R1 [Mv 17 0, Mv 18 5, Ix 19 35 17 18, Ld 20 83 19, Mv 21 1, Mv 22 5, Ix 23 35 21 22, Ld 24 83 23, Bo 25 .neq 83 (Tm 20) (Tm 24) 83]) (.cond (Tm 25) (.seq (R0 [Sk 4 (Kb false)]) .ret) .skip))) (R0 [Mv 15 5, Bo 16 .add 3 (Tm 15) (Kn 1) 3, Sg 5 16])))))) (.seq (R0 [Sk 4 (Kb true)]) .ret))))⟩
theorem sf25 : sfOf Try.f25 = some s25 := by kernel_rfl
theorem hb25 : hasBody Try.prog 25 = true := by kernel_rfl
def s28 : SF := ⟨6, [.tmp 2], (.seq (R0 [Oo 2 (.assign (.const (.slice none 0 0)))]) (.seq (R0 [Oo 3 (.buildSlice 55 0 #[]), Mv 4 0, Oo 5 (.call { callee := .builtin .append, args := #[Tm 3, Tm 4], argTypes := #[55, 55] }), Sg 2 5]) .ret))⟩
theorem sf28 : sfOf Try.f28 = some s28 := by kernel_rfl
theorem hb28 : hasBody Try.prog 28 = true := by kernel_rfl
def o29_0 : SO := (Ld 14 25 4)
def o29_1 : SO := (Ld 15 25 5)
def o29_2 : SO := (Mv 16 7)
def o29_3 : SO := (Sr 25 (Tm 4) (Tm 14))
def o29_4 : SO := (Sr 25 (Tm 5) (Tm 15))
def o29_5 : SO := (Sg 6 16)
def s29 : SF := ⟨33, [.cell 4 25, .cell 5 25, .tmp 6], (.seq (R0 [Oo 2 (.box 54 (Tm 0)), Oo 4 (.alloc 25), Oo 5 (.alloc 25), Sk 6 (Kn 0)]) (.seq (.seq (R0 [Ld 9 54 2, Mv 10 1, Cl 11 75 #[Tm 9, Tm 10] #[54, 55], Sg 7 11]) (.seq (R0 [Mv 12 7, Bo 13 .neq 30 (Tm 12) (Kn 0) 30]) (.cond (Tm 13) (.seq (.ord (.op o29_0 (.alt (.op o29_1 (.alt (.op o29_2 (.op o29_3 (.op o29_4 (.op o29_5 .done)))) (.op o29_3 (.alt (.op o29_2 (.op o29_4 (.op o29_5 .done))) (.op o29_4 (.op o29_2 (.op o29_5 .done))))))) (.alt (.op o29_2 (.alt (.op o29_1 (.op o29_3 (.op o29_4 (.op o29_5 .done)))) (.op o29_3 (.op o29_1 (.op o29_4 (.op o29_5 .done)))))) (.op o29_3 (.op o29_1 (.alt (.op o29_2 (.op o29_4 (.op o29_5 .done))) (.op o29_4 (.op o29_2 (.op o29_5 .done)))))))))) .ret) .skip))) (.seq (R0 [Ld 17 54 2, Mv 18 1, Oo 19 (.build 150 #[(0, (Tm 17)), (1, (Tm 18))]), Oo 8 (.alloc 150), Sr 150 (Tm 8) (Tm 19)]) (.seq (R0 [Ld 21 150 8, Cl 22 76 #[Tm 21] #[150], Mv 20 22, Xt 23 20 0, Xt 24 20 1, Sr 25 (Tm 4) (Tm 23), Sr 25 (Tm 5) (Tm 24)]) (.seq (R1 [Ld 25 25 4, Ld 26 150 8, Cl 27 78 #[Tm 26] #[150], Cl 28 77 #[Tm 25, Tm 27] #[25, 3], Ld 29 25 5, Ld 30 150 8, Cl 31 78 #[Tm 30] #[150], Cl 32 77 #[Tm 29, Tm 31] #[25, 3], Sr 25 (Tm 4) (Tm 28), Sr 25 (Tm 5) (Tm 32), Sk 6 (Kn 0)]) .ret)))))⟩
theorem sf29 : sfOf Try.f29 = some s29 := by kernel_rfl
theorem hb29 : hasBody Try.prog 29 = true := by kernel_rfl
def s33 : SF := ⟨43, [.cell 4 64, .cell 5 30], (.seq (R0 [Oo 2 (.box 54 (Tm 0)), Oo 3 (.box 55 (Tm 1)), Oo 4 (.alloc 64), Oo 5 (.alloc 30)]) (.seq (.seq (R0 [Ld 11 54 2, Ld 12 55 3, Cl 13 75 #[Tm 11, Tm 12] #[54, 55], Sg 6 13]) (.seq (R0 [Mv 14 6, Bo 15 .neq 30 (Tm 14) (Kn 0) 30]) (.cond (Tm 15) (.seq (R0 [Mv 16 6, Sr 64 (Tm 4) (.const (.slice none 0 0)), Sr 30 (Tm 5) (Tm 16)]) .ret) .skip))) (.seq (.seq (R0 [Ld 17 55 3, Lq 18 17 55, Cl 19 81 #[Tm 18] #[3]]) (.block 0 (.rng (Tm 19) [20] (R0 [Sg 7 20]) (.block 1 (.seq (R0 [Ld 21 54 2, Oo 22 (.build 150 #[(0, (Tm 21))]), Oo 8 (.alloc 150), Sr 150 (Tm 8) (Tm 22)]) (.seq (.seq (R0 [Mv 23 7, Lq 24 23 64, Oo 25 (.move (Kn 0))]) (.block 2 (.loop (.seq (R0 [Bo 26 .lss 3 (Tm 25) (Tm 24) 3]) (.seq (.cond (Tm 26) .skip (.exit 2)) (.seq (.block 3 (.seq (R0 [Ix 27 64 23 25, Ld 28 3 27, Sg 10 28]) (R1 [Fa 29 150 8 1, Ld 30 55 29, Ld 31 55 3, Mv 32 10, Ix 33 55 31 32, Ld 34 99 33, Oo 35 (.buildSlice 55 1 #[(0, (Tm 34))]), Oo 36 (.call { callee := .builtin .append, args := #[Tm 30, Tm 35], argTypes := #[55, 55] }), Fa 37 150 8 1, Sr 55 (Tm 37) (Tm 36)]))) (R0 [Bo 38 .add 3 (Tm 25) (Kn 1) 3, Mv 25 38]))))))) (.seq (R0 [Ld 39 150 8, Cl 40 82 #[Tm 39] #[150]]) (.cond (Tm 40) (.seq (R0 [Mv 41 7, Cl 42 83 #[Tm 41] #[64], Sr 64 (Tm 4) (Tm 42), Sr 30 (Tm 5) (Kn 0)]) .ret) .skip)))))))) (.seq (R0 [Sr 64 (Tm 4) (.const (.slice none 0 0)), Sr 30 (Tm 5) (Kn 9)]) .ret))))⟩
theorem sf33 : sfOf Try.f33 = some s33 := by kernel_rfl
theorem hb33 : hasBody Try.prog 33 = true := by kernel_rfl
def s35 : SF := ⟨26, [.tmp 4], (.seq (R0 [Sk 4 (Kb false)]) (.seq (.seq (R0 [Mv 6 0, Lq 7 6 64, Mv 8 1, Lq 9 8 64, Bo 10 .neq 3 (Tm 7) (Tm 9) 3]) (.cond (Tm 10) (.seq (R0 [Sk 4 (Kb false)]) .ret) .skip)) (.seq (.seq (R0 [Sk 5 (Kn 0)]) (.block 0 (.loop (.seq (.seq (R0 [Mv 11 5, Mv 12 0, Lq 13 12 64, Bo 14 .lss 3 (Tm 11) (Tm 13) 3]) (.cond (Tm 14) .skip (.exit 0))) (.seq (.block 1 (.seq (R1 [Mv 17 0, Mv 18 5, Ix 19 64 17 18, Ld 20 3 19, Mv 21 1, Mv 22 5, Ix 23 64 21 22, Ld 24 3 23, Bo 25 .neq 3 (Tm 20) (Tm 24) 3]) (.cond (Tm 25) (.seq (R0 [Sk 4 (Kb false)]) .ret) .skip))) (R0 [Mv 15 5, Bo 16 .add 3 (Tm 15) (Kn 1) 3, Sg 5 16])))))) (.seq (R0 [Sk 4 (Kb true)]) .ret))))⟩
theorem sf35 : sfOf Try.f35 = some s35 := by kernel_rfl
theorem hb35 : hasBody Try.prog 35 = true := by kernel_rfl
end Go.Dw.Seat
end
section
namespace Go.Dw.Seat
open Go Go.Dw Go.Proofs
def s38 : SF := ⟨47, [.tmp 8, .tmp 9], (.seq (R0 [Oo 4 (.box 23 (Tm 0)), Oo 5 (.box 27 (Tm 1)), Oo 8 (.assign (.const (.slice none 0 0))), Sk 9 (Kn 0)]) (.seq (.seq (R0 [Ld 15 23 4, Ld 16 27 5, Mv 17 2, Oo 18 (.buildSlice 185 1 #[(0, (Tm 17))]), Cl 19 71 #[Tm 15, Tm 16, Tm 18] #[23, 27, 185], Mv 14 19, Xt 20 14 0, Xt 21 14 1, Oo 10 (.alloc 130), Sr 130 (Tm 10) (Tm 20), Sg 11 21]) (.seq (R0 [Mv 22 11, Bo 23 .neq 30 (Tm 22) (Kn 0) 30]) (.cond (Tm 23) (.seq (R0 [Mv 24 11, Oo 8 (.assign (.const (.slice none 0 0))), Sg 9 24]) .ret) .skip))) (.seq (.seq (R0 [Cl 25 86 #[] #[], Lq 26 25 159, Bo 27 .sub 3 (Tm 26) (Kn 1) 3, Mv 28 3, Oo 29 (.buildSlice 64 1 #[(0, (Tm 28))]), Cl 30 85 #[Kn 0, Tm 27, Tm 29] #[3, 3, 64], Oo 31 (.unOp .not 4 (Tm 30))]) (.cond (Tm 31) (.seq (R0 [Oo 8 (.assign (.const (.slice none 0 0))), Sk 9 (Kn 3)]) .ret) .skip)) (.seq (R0 [Ld 33 23 4, Ld 34 27 5, Mv 35 2, Oo 36 (.buildSlice 185 1 #[(0, (Tm 35))]), Cl 37 72 #[Tm 33, Tm 34, Tm 36] #[23, 27, 185], Mv 32 37, Xt 38 32 0, Xt 39 32 1, Oo 12 (.alloc 130), Sr 130 (Tm 12) (Tm 38), Sg 13 39]) (.seq (.seq (R0 [Mv 40 13, Bo 41 .neq 30 (Tm 40) (Kn 0) 30]) (.cond (Tm 41) (.seq (R0 [Mv 42 13, Oo 8 (.assign (.const (.slice none 0 0))), Sg 9 42]) .ret) .skip)) (.seq (R0 [Ld 43 130 12, Mv 44 2, Mv 45 3, Cl 46 87 #[Tm 43, Tm 44, Tm 45] #[130, 35, 3], Sg 8 46, Sk 9 (Kn 0)]) .ret))))))⟩
theorem sf38 : sfOf Try.f38 = some s38 := by kernel_rfl
theorem hb38 : hasBody Try.prog 38 = true := by kernel_rfl
def s42 : SF := ⟨51, [.tmp 6, .tmp 7, .tmp 8], (.seq (R0 [Oo 3 (.box 23 (Tm 0)), Oo 4 (.box 27 (Tm 1)), Sk 6 (Kn 0), Sk 7 (Kn 0), Sk 8 (Kn 0)]) (.seq (R0 [Ld 14 23 3, Ld 15 27 4, Mv 16 2, Oo 17 (.buildSlice 185 1 #[(0, (Tm 16))]), Cl 18 72 #[Tm 14, Tm 15, Tm 17] #[23, 27, 185], Mv 13 18, Xt 19 13 0, Xt 20 13 1, Oo 9 (.alloc 130), Sr 130 (Tm 9) (Tm 19), Sg 8 20]) (.seq (.seq (R0 [Mv 21 8, Bo 22 .neq 30 (Tm 21) (Kn 0) 30]) (.cond (Tm 22) (.seq (R0 [Mv 23 8, Sk 6 (Kn 0), Sk 7 (Kn 0), Sg 8 23]) .ret) .skip)) (.seq (.seq (R0 [Cl 24 86 #[] #[], Lq 25 24 159, Oo 26 (.move (Kn 0))]) (.block 0 (.loop (.seq (R0 [Bo 27 .lss 3 (Tm 26) (Tm 25) 3]) (.seq (.cond (Tm 27) .skip (.exit 0)) (.seq (.block 1 (.seq (R0 [Mv 28 26, Sg 10 28]) (.seq (R0 [Oo 11 (.alloc 3), Sr 3 (Tm 11) (Kn 0)]) (.seq (.seq (R1 [Ld 29 130 9, Mv 30 2, Ld 31 130 9, Mv 32 2, Mv 33 10, Cl 34 87 #[Tm 31, Tm 32, Tm 33] #[130, 35, 3], Cl 35 74 #[Tm 29, Tm 30, Tm 34] #[130, 35, 35]]) (.block 2 (.rng (Tm 35) [36] (R0 [Oo 12 (.alloc 85), Sr 85 (Tm 12) (Tm 36)]) (.block 3 (.seq (R0 [Fa 37 85 12 0, Ld 38 64 37, Lq 39 38 64, Bo 40 .geq 3 (Tm 39) (Kn 2) 3]) (.cond (Tm 40) (R0 [Ld 41 3 11, Bo 42 .add 3 (Tm 41) (Kn 1) 3, Sr 3 (Tm 11) (Tm 42)]) .skip)))))) (.seq (R0 [Ld 43 3 11, Mv 44 7, Bo 45 .gtr 3 (Tm 43) (Tm 44) 3]) (.cond (Tm 45) (R1 [Mv 46 10, Ld 47 3 11, Sg 6 46, Sg 7 47]) .skip)))))) (R0 [Bo 48 .add 3 (Tm 26) (Kn 1) 3, Mv 26 48]))))))) (.seq (R0 [Mv 49 6, Mv 50 7, Sg 6 49, Sg 7 50, Sk 8 (Kn 0)]) .ret)))))⟩
theorem sf42 : sfOf Try.f42 = some s42 := by kernel_rfl
theorem hb42 : hasBody Try.prog 42 = true := by kernel_rfl
def o43_0 : SO := (Fa 94 94 1 0)
def o43_1 : SO := (Oo 95 (.indexAddr 91 (Tm 94) (Kn 3)))
def o43_2 : SO := (Ld 96 5 95)
def o43_3 : SO := (Oo 97 (.convert 5 3 (Tm 96)))
def o43_4 : SO := (Bo 98 .mul 3 (Kn 3000) (Tm 97) 3)
def o43_5 : SO := (Fa 105 54 4 3)
def o43_6 : SO := (Fa 99 94 1 0)
def o43_7 : SO := (Oo 100 (.indexAddr 91 (Tm 99) (Kn 3)))
def o43_8 : SO := (Ld 101 5 100)
def o43_9 : SO := (Oo 102 (.convert 5 3 (Tm 101)))
def o43_10 : SO := (Bo 103 .sub 3 (Kn 300) (Tm 102) 3)
def o43_11 : SO := (Bo 104 .mul 3 (Kn 2000) (Tm 103) 3)
def o43_12 : SO := (Sr 3 (Tm 105) (Tm 98))
def o43_13 : SO := (Fa 106 54 4 4)
def o43_14 : SO := (Sr 3 (Tm 106) (Tm 104))
def s43 : SF := ⟨109, [.cell 2 54, .tmp 3], (.seq (R0 [Oo 1 (.box 94 (Tm 0)), Oo 2 (.alloc 54), Oo 3 (.assign (.const (.slice none 0 0)))]) (.seq (R0 [Oo 9 (.build 54 #[]), Oo 4 (.alloc 54), Sr 54 (Tm 4) (Tm 9), Sk 5 (Kn 0)]) (.seq (R0 [Oo 10 (.buildSlice 55 0 #[]), Sg 6 10]) (.seq (.seq (R0 [Sk 7 (Kn 0)]) (.block 0 (.loop (.seq (.seq (R0 [Mv 11 7, Fa 12 94 1 1, Ld 13 92 12, Lq 14 13 92, Bo 15 .lss 3 (Tm 11) (Tm 14) 3, Mv 16 15, Gm 17 7 16 true, Gb 18 .lss 3 (Tm 17) (Kn 6) 3 16 true, Pk 19 16 (Tm 18) (Kb false)]) (.cond (Tm 19) .skip (.exit 0))) (.seq (.block 1 (.seq (R0 [Fa 22 94 1 1, Ld 23 92 22, Mv 24 7, Ix 25 92 23 24, Ld 26 71 25, Oo 8 (.alloc 71), Sr 71 (Tm 8) (Tm 26)]) (.seq (R1 [Mv 27 6, Oo 28 (.indexAddr 71 (Tm 8) (Kn 0)), Ld 29 5 28, Oo 30 (.convert 5 3 (Tm 29)), Bo 31 .rem 3 (Tm 30) (Kn 150) 3, Bo 32 .add 3 (Kn 20) (Tm 31) 3, Oo 33 (.indexAddr 71 (Tm 8) (Kn 1)), Ld 34 5 33, Oo 35 (.convert 5 3 (Tm 34)), Bo 36 .mul 3 (Kn 1000) (Tm 35) 3, Oo 37 (.indexAddr 71 (Tm 8) (Kn 1)), Ld 38 5 37, Oo 39 (.convert 5 3 (Tm 38)), Bo 40 .mul 3 (Kn 1000) (Tm 39) 3, Oo 41 (.indexAddr 71 (Tm 8) (Kn 2)), Ld 42 5 41, Oo 43 (.convert 5 3 (Tm 42)), Bo 44 .mul 3 (Kn 100) (Tm 43) 3, Bo 45 .add 3 (Tm 40) (Tm 44) 3, Cl 46 54 #[Tm 36, Tm 45] #[3, 3], Oo 47 (.build 99 #[(0, (Tm 32)), (1, (Tm 46))]), Oo 48 (.buildSlice 55 1 #[(0, (Tm 47))]), Oo 49 (.call { callee := .builtin .append, args := #[Tm 27, Tm 48], argTypes := #[55, 55] }), Sg 6 49]) (R0 [Mv 50 5, Oo 51 (.indexAddr 71 (Tm 8) (Kn 0)), Ld 52 5 51, Oo 53 (.convert 5 3 (Tm 52)), Bo 54 .rem 3 (Tm 53) (Kn 150) 3, Bo 55 .add 3 (Kn 20) (Tm 54) 3, Bo 56 .add 3 (Tm 50) (Tm 55) 3, Sg 5 56])))) (R0 [Mv 20 7, Bo 21 .add 3 (Tm 20) (Kn 1) 3, Sg 7 21])))))) (.seq (R0 [Mv 57 5, Bo 58 .add 3 (Tm 57) (Kn 1) 3, Fa 59 94 1 0, Oo 60 (.indexAddr 91 (Tm 59) (Kn 0)), Ld 61 5 60, Oo 62 (.convert 5 3 (Tm 61)), Bo 63 .rem 3 (Tm 62) (Kn 200) 3, Bo 64 .add 3 (Tm 58) (Tm 63) 3, Fa 65 54 4 0, Sr 3 (Tm 65) (Tm 64)]) (.seq (R0 [Fa 66 94 1 0, Oo 67 (.indexAddr 91 (Tm 66) (Kn 1)), Ld 68 5 67, Oo 69 (.convert 5 3 (Tm 68)), Bo 70 .rem 3 (Tm 69) (Kn 120) 3, Fa 71 54 4 0, Ld 72 3 71, Bo 73 .mul 3 (Tm 70) (Tm 72) 3, Bo 74 .quo 3 (Tm 73) (Kn 1000) 3, Fa 75 54 4 1, Sr 3 (Tm 75) (Tm 74)]) (.seq (R0 [Fa 76 54 4 0, Ld 77 3 76, Fa 78 54 4 1, Ld 79 3 78, Bo 80 .add 3 (Tm 79) (Kn 1) 3, Fa 81 54 4 0, Ld 82 3 81, Fa 83 94 1 0, Oo 84 (.indexAddr 91 (Tm 83) (Kn 2)), Ld 85 5 84, Oo 86 (.convert 5 3 (Tm 85)), Bo 87 .rem 3 (Tm 86) (Kn 150) 3, Bo 88 .add 3 (Kn 100) (Tm 87) 3, Bo 89 .mul 3 (Tm 82) (Tm 88) 3, Bo 90 .quo 3 (Tm 89) (Kn 300) 3, Bo 91 .add 3 (Tm 80) (Tm 90) 3, Oo 92 (.call { callee := .builtin .min, args := #[Tm 77, Tm 91], argTypes := #[3, 3] }), Fa 93 54 4 2, Sr 3 (Tm 93) (Tm 92)]) (.seq (.ord (.op o43_0 (.op o43_1 (.op o43_2 (.op o43_3 (.op o43_4 (.op o43_5 (.alt (.op o43_6 (.alt (.op o43_7 (.alt (.op o43_8 (.alt (.op o43_9 (.alt (.op o43_10 (.alt (.op o43_11 (.op o43_12 (.op o43_13 (.op o43_14 .done)))) (.op o43_12 (.op o43_11 (.op o43_13 (.op o43_14 .done)))))) (.op o43_12 (.op o43_10 (.op o43_11 (.op o43_13 (.op o43_14 .done))))))) (.op o43_12 (.op o43_9 (.op o43_10 (.op o43_11 (.op o43_13 (.op o43_14 .done)))))))) (.op o43_12 (.op o43_8 (.op o43_9 (.op o43_10 (.op o43_11 (.op o43_13 (.op o43_14 .done))))))))) (.op o43_12 (.op o43_7 (.op o43_8 (.op o43_9 (.op o43_10 (.op o43_11 (.op o43_13 (.op o43_14 .done)))))))))) (.op o43_12 (.op o43_6 (.op o43_7 (.op o43_8 (.op o43_9 (.op o43_10 (.op o43_11 (.op o43_13 (.op o43_14 .done))))))))))))))))) (.seq (R0 [Ld 107 54 4, Mv 108 6, Sr 54 (Tm 2) (Tm 107), Sg 3 108]) .ret)))))))))⟩
theorem sf43 : sfOf Try.f43 = some s43 := by kernel_rfl
theorem hb43 : hasBody Try.prog 43 = true := by kernel_rfl
def s44 : SF := ⟨16, [.tmp 4], (.seq (R0 [Sk 4 (Kn 0)]) (.seq (.seq (R0 [Mv 5 0, Lq 6 5 74, Bo 7 .eql 3 (Tm 6) (Kn 0) 3]) (.cond (Tm 7) (.seq (R0 [Sk 4 (Kn 0)]) .ret) .skip)) (.seq (R0 [Mv 8 0, Mv 9 1, Mv 10 0, Lq 11 10 74, Bo 12 .rem 3 (Tm 9) (Tm 11) 3, Ix 13 74 8 12, Ld 14 5 13, Oo 15 (.convert 5 3 (Tm 14)), Sg 4 15]) .ret)))⟩
theorem sf44 : sfOf Try.f44 = some s44 := by kernel_rfl
theorem hb44 : hasBody Try.prog 44 = true := by kernel_rfl
def s45 : SF := ⟨54, [.tmp 6], (.seq (R0 [Oo 3 (.box 54 (Tm 0)), Sk 6 (Kb false)]) (.seq (R0 [Ld 13 54 3, Mv 14 1, Mv 15 2, Cl 16 88 #[Tm 13, Tm 14, Tm 15, Kb false] #[54, 55, 64, 4], Mv 12 16, Xt 17 12 0, Xt 18 12 1, Sg 7 17, Sg 8 18]) (.seq (R0 [Ld 20 54 3, Mv 21 1, Mv 22 2, Cl 23 88 #[Tm 20, Tm 21, Tm 22, Kb true] #[54, 55, 64, 4], Mv 19 23, Xt 24 19 0, Xt 25 19 1, Sg 9 24, Sg 10 25]) (.seq (R0 [Fa 26 54 3 2, Ld 27 3 26, Fa 28 54 3 1, Ld 29 3 28, Bo 30 .sub 3 (Tm 27) (Tm 29) 3, Bo 31 .mul 3 (Kn 2) (Tm 30) 3, Sg 11 31]) (.seq (R0 [Mv 32 7, Bo 33 .geq 3 (Tm 32) (Kn 0) 3, Mv 34 33, Gm 35 8 34 true, Gb 36 .geq 3 (Tm 35) (Kn 0) 3 34 true, Pk 37 34 (Tm 36) (Kb false), Mv 38 37, Gm 39 9 38 true, Gf 40 54 3 4 38 true, Gl 41 3 40 38 true, Gm 42 11 38 true, Gb 43 .mul 3 (Tm 41) (Tm 42) 3 38 true, Gb 44 .leq 3 (Tm 39) (Tm 43) 3 38 true, Pk 45 38 (Tm 44) (Kb false), Mv 46 45, Gm 47 10 46 true, Gf 48 54 3 3 46 true, Gl 49 3 48 46 true, Gm 50 11 46 true, Gb 51 .mul 3 (Tm 49) (Tm 50) 3 46 true, Gb 52 .leq 3 (Tm 47) (Tm 51) 3 46 true, Pk 53 46 (Tm 52) (Kb false), Sg 6 53]) .ret)))))⟩
theorem sf45 : sfOf Try.f45 = some s45 := by kernel_rfl
theorem hb45 : hasBody Try.prog 45 = true := by kernel_rfl
def s46 : SF := ⟨36, [.tmp 4], (.seq (R0 [Sk 4 (Kb false)]) (.seq (.seq (R0 [Sk 5 (Kn 0)]) (.block 0 (.loop (.seq (.seq (R0 [Mv 6 5, Mv 7 0, Lq 8 7 64, Bo 9 .lss 3 (Tm 6) (Tm 8) 3, Mv 10 9, Gm 11 5 10 true, Gm 12 1 10 true, Og 13 (.call { callee := .builtin .len, args := #[Tm 12], argTypes := #[64] }) 10 true, Gb 14 .lss 3 (Tm 11) (Tm 13) 3 10 true, Pk 15 10 (Tm 14) (Kb false)]) (.cond (Tm 15) .skip (.exit 0))) (.seq (.block 1 (.seq (R1 [Mv 18 0, Mv 19 5, Ix 20 64 18 19, Ld 21 3 20, Mv 22 1, Mv 23 5, Ix 24 64 22 23, Ld 25 3 24, Bo 26 .neq 3 (Tm 21) (Tm 25) 3]) (.cond (Tm 26) (.seq (R1 [Mv 27 0, Mv 28 5, Ix 29 64 27 28, Ld 30 3 29, Mv 31 1, Mv 32 5, Ix 33 64 31 32, Ld 34 3 33, Bo 35 .lss 3 (Tm 30) (Tm 34) 3, Sg 4 35]) .ret) .skip))) (R0 [Mv 16 5, Bo 17 .add 3 (Tm 16) (Kn 1) 3, Sg 5 17])))))) (.seq (R0 [Sk 4 (Kb false)]) .ret)))⟩
theorem sf46 : sfOf Try.f46 = some s46 := by kernel_rfl
theorem hb46 : hasBody Try.prog 46 = true := by kernel_rfl
def s47 : SF := ⟨57, [.tmp 4], (.seq (R0 [Oo 2 (.box 23 (Tm 0)), Oo 3 (.box 27 (Tm 1)), Sk 4 (Kn 0)]) (.seq (R0 [Fa 7 23 2 0, Ld 8 3 7, Fa 9 23 2 1, Ld 10 3 9, Oo 11 (.buildSlice 64 2 #[(0, (Tm 8)), (1, (Tm 10))]), Cl 12 85 #[Kn 1, Kn 120, Tm 11] #[3, 3, 64], Mv 13 12, Gf 14 23 2 2 13 true, Gl 15 3 14 13 true, Gf 16 23 2 4 13 true, Gl 17 3 16 13 true, Og 18 (.buildSlice 64 2 #[(0, (Tm 15)), (1, (Tm 17))]) 13 true, Gc 19 85 #[Kn 0, Kn 400, Tm 18] #[3, 3, 64] 13 true, Pk 20 13 (Tm 19) (Kb false), Mv 21 20, Gf 22 23 2 3 21 true, Gl 23 3 22 21 true, Og 24 (.buildSlice 64 1 #[(0, (Tm 23))]) 21 true, Gc 25 85 #[Kn 0, Kn 10, Tm 24] #[3, 3, 64] 21 true, Pk 26 21 (Tm 25) (Kb false), Mv 27 26, Gf 28 23 2 5 27 true, Gl 29 3 28 27 true, Og 30 (.buildSlice 64 1 #[(0, (Tm 29))]) 27 true, Gc 31 85 #[Kn 0, Kn 5000000, Tm 30] #[3, 3, 64] 27 true, Pk 32 27 (Tm 31) (Kb false), Sg 5 32]) (.seq (R0 [Fa 33 27 3 0, Ld 34 3 33, Fa 35 27 3 1, Ld 36 3 35, Fa 37 27 3 2, Ld 38 3 37, Oo 39 (.buildSlice 64 3 #[(0, (Tm 34)), (1, (Tm 36)), (2, (Tm 38))]), Cl 40 85 #[Kn 10, Kn 100, Tm 39] #[3, 3, 64], Mv 41 40, Gf 42 27 3 3 41 true, Gl 43 25 42 41 true, Gc 44 89 #[Tm 43, Kn 0, Kn 5000000] #[25, 3, 3] 41 true, Pk 45 41 (Tm 44) (Kb false), Mv 46 45, Gf 47 27 3 4 46 true, Gl 48 25 47 46 true, Gc 49 89 #[Tm 48, Kn 0, Kn 20000000] #[25, 3, 3] 46 true, Pk 50 46 (Tm 49) (Kb false), Sg 6 50]) (.seq (.seq (R0 [Mv 51 5, Oo 52 (.unOp .not 4 (Tm 51)), Mv 53 52, Gm 54 6 53 false, Og 55 (.unOp .not 4 (Tm 54)) 53 false, Pk 56 53 (Kb true) (Tm 55)]) (.cond (Tm 56) (.seq (R0 [Sk 4 (Kn 2)]) .ret) .skip)) (.seq (R0 [Sk 4 (Kn 0)]) .ret)))))⟩
theorem sf47 : sfOf Try.f47 = some s47 := by kernel_rfl
theorem hb47 : hasBody Try.prog 47 = true := by kernel_rfl
def s52 : SF := ⟨79, [.tmp 10, .tmp 11], (.seq (R0 [Oo 5 (.box 23 (Tm 0)), Oo 6 (.box 27 (Tm 1)), Sk 10 (Kn 0), Sk 11 (Kn 0)]) (.seq (.seq (R0 [Ld 19 23 5, Ld 20 27 6, Mv 21 2, Oo 22 (.buildSlice 185 1 #[(0, (Tm 21))]), Cl 23 72 #[Tm 19, Tm 20, Tm 22] #[23, 27, 185], Mv 18 23, Xt 24 18 0, Xt 25 18 1, Oo 12 (.alloc 130), Sr 130 (Tm 12) (Tm 24), Sg 13 25]) (.seq (R0 [Mv 26 13, Bo 27 .neq 30 (Tm 26) (Kn 0) 30]) (.cond (Tm 27) (.seq (R0 [Mv 28 13, Sk 10 (Kn 0), Sg 11 28]) .ret) .skip))) (.seq (.seq (R0 [Mv 29 2, Lq 30 29 35, Bo 31 .eql 3 (Tm 30) (Kn 0) 3]) (.cond (Tm 31) (.seq (R0 [Sk 10 (Kn 0), Sk 11 (Kn 7)]) .ret) .skip)) (.seq (R1 [Fa 33 27 6 4, Ld 34 25 33, Fa 35 27 6 3, Fa 36 25 35 0, Ld 37 3 36, Cl 38 92 #[Tm 37] #[3], Fa 39 27 6 3, Fa 40 25 39 1, Ld 41 3 40, Cl 42 92 #[Tm 41] #[3], Oo 43 (.build 25 #[(0, (Tm 38)), (1, (Tm 42))]), Oo 44 (.build 119 #[(0, (Tm 34)), (1, (Tm 43))]), Mv 45 3, Mv 46 4, Cl 47 91 #[Tm 44, Tm 45, Tm 46] #[119, 113, 3], Mv 32 47, Xt 48 32 0, Xt 49 32 1, Sg 14 48, Sg 15 49]) (.seq (.seq (R0 [Mv 50 15, Bo 51 .neq 30 (Tm 50) (Kn 0) 30]) (.cond (Tm 51) (.seq (R0 [Mv 52 15, Sk 10 (Kn 0), Sg 11 52]) .ret) .skip)) (.seq (R0 [Mv 53 14, Fa 54 23 5 4, Ld 55 3 54, Fa 56 23 5 2, Ld 57 3 56, Bo 58 .sub 3 (Tm 55) (Tm 57) 3, Oo 59 (.call { callee := .builtin .max, args := #[Kn 0, Tm 58], argTypes := #[3, 3] }), Fa 60 27 6 2, Ld 61 3 60, Bo 62 .quo 3 (Tm 59) (Tm 61) 3, Oo 63 (.call { callee := .builtin .min, args := #[Kn 30, Tm 53, Tm 62], argTypes := #[3, 3, 3] }), Sg 16 63]) (.seq (.seq (R0 [Mv 64 2, Lq 65 64 35, Fa 66 27 6 3, Fa 67 25 66 1, Ld 68 3 67, Bo 69 .mul 3 (Tm 65) (Tm 68) 3, Sg 17 69]) (.seq (R0 [Mv 70 17, Bo 71 .gtr 3 (Tm 70) (Kn 0) 3]) (.cond (Tm 71) (R0 [Mv 72 16, Fa 73 23 5 5, Ld 74 3 73, Mv 75 17, Bo 76 .quo 3 (Tm 74) (Tm 75) 3, Oo 77 (.call { callee := .builtin .min, args := #[Tm 72, Tm 76], argTypes := #[3, 3] }), Sg 16 77]) .skip))) (.seq (R0 [Mv 78 16, Sg 10 78, Sk 11 (Kn 0)]) .ret))))))))⟩
theorem sf52 : sfOf Try.f52 = some s52 := by kernel_rfl
theorem hb52 : hasBody Try.prog 52 = true := by kernel_rfl
def s54 : SF := ⟨8, [.cell 4 25], (.seq (R0 [Oo 4 (.alloc 25)]) (.seq (R0 [Mv 5 0, Mv 6 1, Oo 7 (.build 25 #[(0, (Tm 5)), (1, (Tm 6))]), Sr 25 (Tm 4) (Tm 7)]) .ret))⟩
theorem sf54 : sfOf Try.f54 = some s54 := by kernel_rfl
theorem hb54 : hasBody Try.prog 54 = true := by kernel_rfl
def s57 : SF := ⟨8, [.cell 4 83], (.seq (R0 [Oo 4 (.alloc 83)]) (.seq (R0 [Mv 5 0, Mv 6 1, Oo 7 (.build 83 #[(0, (Tm 5)), (1, (Tm 6))]), Sr 83 (Tm 4) (Tm 7)]) .ret))⟩
theorem sf57 : sfOf Try.f57 = some s57 := by kernel_rfl
theorem hb57 : hasBody Try.prog 57 = true := by kernel_rfl
def s58 : SF := ⟨5, [.cell 2 23], (.seq (R0 [Oo 2 (.alloc 23)]) (.seq (R0 [Mv 3 0, Oo 4 (.build 23 #[(0, (Kn 120)), (1, (Kn 80)), (2, (Kn 15)), (3, (Tm 3)), (4, (Kn 180)), (5, (Kn 500000))]), Sr 23 (Tm 2) (Tm 4)]) .ret))⟩
theorem sf58 : sfOf Try.f58 = some s58 := by kernel_rfl
theorem hb58 : hasBody Try.prog 58 = true := by kernel_rfl
def s59 : SF := ⟨4, [.cell 0 27], (.seq (R0 [Oo 0 (.alloc 27)]) (.seq (R0 [Cl 1 54 #[Kn 5000, Kn 6000] #[3, 3], Cl 2 54 #[Kn 900, Kn 1000] #[3, 3], Oo 3 (.build 27 #[(0, (Kn 40)), (1, (Kn 30)), (2, (Kn 25)), (3, (Tm 1)), (4, (Tm 2))]), Sr 27 (Tm 0) (Tm 3)]) .ret))⟩
theorem sf59 : sfOf Try.f59 = some s59 := by kernel_rfl
theorem hb59 : hasBody Try.prog 59 = true := by kernel_rfl
def s60 : SF := ⟨3, [.tmp 0], (.seq (R0 [Oo 0 (.assign (.const (.slice none 0 0)))]) (.seq (R0 [Oo 1 (.build 112 #[(1, (Kn 1000))]), Oo 2 (.buildSlice 113 1 #[(0, (Tm 1))]), Sg 0 2]) .ret))⟩
theorem sf60 : sfOf Try.f60 = some s60 := by kernel_rfl
theorem hb60 : hasBody Try.prog 60 = true := by kernel_rfl
def s61 : SF := ⟨2, [.cell 0 54], (.seq (R0 [Oo 0 (.alloc 54)]) (.seq (R0 [Oo 1 (.build 54 #[(0, (Kn 600)), (1, (Kn 100)), (2, (Kn 500)), (3, (Kn 3000000)), (4, (Kn 3000000))]), Sr 54 (Tm 0) (Tm 1)]) .ret))⟩
theorem sf61 : sfOf Try.f61 = some s61 := by kernel_rfl
theorem hb61 : hasBody Try.prog 61 = true := by kernel_rfl
def s62 : SF := ⟨20, [.cell 2 128], (.seq (R0 [Oo 1 (.box 130 (Tm 0)), Oo 2 (.alloc 128)]) (.seq (R0 [Fa 3 130 1 0, Fa 4 23 3 0, Ld 5 3 4, Fa 6 130 1 0, Fa 7 23 6 3, Ld 8 3 7, Bo 9 .mul 3 (Kn 2) (Tm 8) 3, Bo 10 .add 3 (Tm 5) (Tm 9) 3, Fa 11 130 1 0, Fa 12 23 11 1, Ld 13 3 12, Fa 14 130 1 0, Fa 15 23 14 3, Ld 16 3 15, Bo 17 .mul 3 (Kn 2) (Tm 16) 3, Bo 18 .add 3 (Tm 13) (Tm 17) 3, Oo 19 (.build 128 #[(0, (Tm 10)), (1, (Tm 18))]), Sr 128 (Tm 2) (Tm 19)]) .ret))⟩
theorem sf62 : sfOf Try.f62 = some s62 := by kernel_rfl
theorem hb62 : hasBody Try.prog 62 = true := by kernel_rfl
def s63 : SF := ⟨29, [.tmp 4], (.seq (R0 [Oo 2 (.box 27 (Tm 0)), Oo 4 (.assign (.const (.slice none 0 0)))]) (.seq (R0 [Mv 9 1, Bo 10 .add 3 (Tm 9) (Kn 1) 3, Oo 11 (.makeSlice 64 (Tm 10) (Tm 10)), Sg 5 11, Sk 6 (Kn 0)]) (.seq (.seq (R0 [Ld 12 27 2, Mv 13 1, Cl 14 96 #[Tm 12, Tm 13] #[27, 3], Lq 15 14 69, Oo 16 (.move (Kn 0))]) (.block 0 (.loop (.seq (R0 [Bo 17 .lss 3 (Tm 16) (Tm 15) 3]) (.seq (.cond (Tm 17) .skip (.exit 0)) (.seq (.block 1 (.seq (R0 [Mv 18 16, Ix 19 69 14 16, Ld 20 4 19, Sg 7 18, Sg 8 20]) (.seq (.seq (R0 [Mv 21 8]) (.cond (Tm 21) (R0 [Mv 22 7, Sg 6 22]) .skip)) (R0 [Mv 23 5, Mv 24 7, Mv 25 6, Ix 26 64 23 24, Sr 3 (Tm 26) (Tm 25)])))) (R0 [Bo 27 .add 3 (Tm 16) (Kn 1) 3, Mv 16 27]))))))) (.seq (R0 [Mv 28 5, Sg 4 28]) .ret))))⟩
theorem sf63 : sfOf Try.f63 = some s63 := by kernel_rfl
theorem hb63 : hasBody Try.prog 63 = true := by kernel_rfl
def s64 : SF := ⟨27, [.tmp 2], (.seq (R0 [Oo 1 (.box 130 (Tm 0)), Oo 2 (.assign (.const (.pointer none)))]) (.seq (R0 [Ld 6 130 1, Oo 7 (.makeMap 174 none), Oo 8 (.build 177 #[(0, (Tm 6)), (2, (Tm 7))]), Oo 9 (.box 177 (Tm 8)), Sg 3 9]) (.seq (.seq (R0 [Ld 10 130 1, Cl 11 62 #[Tm 10] #[130], Oo 12 (.move (Kn 0))]) (.block 0 (.loop (.seq (R0 [Bo 13 .lss 3 (Tm 12) (Kn 2) 3]) (.seq (.cond (Tm 13) .skip (.exit 0)) (.seq (.block 1 (.seq (R0 [Mv 14 12, Oo 15 (.index 128 (Tm 11) (Tm 12)), Sg 4 14, Sg 5 15]) (R1 [Mv 16 3, Mv 17 4, Fa 18 130 1 1, Ld 19 27 18, Mv 20 5, Cl 21 63 #[Tm 19, Tm 20] #[27, 3], Nk 22 16, Fa 23 177 22 1, Ix 24 175 23 17, Sr 64 (Tm 24) (Tm 21)]))) (R0 [Bo 25 .add 3 (Tm 12) (Kn 1) 3, Mv 12 25]))))))) (.seq (R0 [Mv 26 3, Sg 2 26]) .ret))))⟩
theorem sf64 : sfOf Try.f64 = some s64 := by kernel_rfl
theorem hb64 : hasBody Try.prog 64 = true := by kernel_rfl
def o65_0 : SO := (Ld 33 137 2)
def o65_1 : SO := (Nk 34 33)
def o65_2 : SO := (Fa 35 177 34 2)
def o65_3 : SO := (Ld 36 174 35)
def o65_4 : SO := (Ld 37 128 3)
def o65_5 : SO := (Oo 38 (.lookup 174 (Tm 36) (Tm 37) true))
def o65_6 : SO := (Mv 32 38)
def o65_7 : SO := (Xt 39 32 0)
def o65_8 : SO := (Oo 6 (.alloc 136))
def o65_9 : SO := (Xt 40 32 1)
def o65_10 : SO := (Sr 136 (Tm 6) (Tm 39))
def o65_11 : SO := (Sg 7 40)
def o65_12 : SO := (Ld 63 137 2)
def o65_13 : SO := (Ld 64 128 12)
def o65_14 : SO := (Ld 67 137 2)
def o65_15 : SO := (Ld 68 128 13)
def o65_16 : SO := (Oo 66 (.field 136 (Tm 65) 0))
def o65_17 : SO := (Oo 70 (.field 136 (Tm 69) 0))
def o65_18 : SO := (Bo 71 .add 3 (Tm 66) (Tm 70) 3)
def o65_19 : SO := (Sg 14 71)
def s65 : SF := ⟨86, [.cell 4 136], (.seq (R0 [Oo 2 (.box 137 (Tm 0)), Oo 3 (.box 128 (Tm 1)), Oo 4 (.alloc 136)]) (.seq (.seq (R0 [Oo 15 (.move (Kn 0))]) (.block 0 (.loop (.seq (R0 [Bo 16 .lss 3 (Tm 15) (Kn 2) 3]) (.seq (.cond (Tm 16) .skip (.exit 0)) (.seq (.block 1 (.seq (R0 [Mv 17 15, Sg 5 17]) (R1 [Mv 18 5, Ld 19 137 2, Mv 20 5, Nk 21 19, Fa 22 177 21 1, Ix 23 175 22 20, Ld 24 64 23, Mv 25 5, Ix 26 128 3 25, Ld 27 3 26, Ix 28 64 24 27, Ld 29 3 28, Ix 30 128 3 18, Sr 3 (Tm 30) (Tm 29)]))) (R0 [Bo 31 .add 3 (Tm 15) (Kn 1) 3, Mv 15 31]))))))) (.seq (.seq (.ord (.op o65_0 (.op o65_1 (.op o65_2 (.op o65_3 (.op o65_4 (.op o65_5 (.op o65_6 (.op o65_7 (.op o65_8 (.alt (.op o65_9 (.op o65_10 (.op o65_11 .done))) (.op o65_10 (.op o65_9 (.op o65_11 .done)))))))))))))) (.seq (R0 [Mv 41 7]) (.cond (Tm 41) (.seq (R0 [Ld 42 136 6, Sr 136 (Tm 4) (Tm 42)]) .ret) .skip))) (.seq (R0 [Oo 43 (.build 134 #[(0, (Kn (-1))), (1, (Kn 0))]), Oo 44 (.build 136 #[(0, (Kn 0)), (1, (Tm 43))]), Oo 8 (.alloc 136), Sr 136 (Tm 8) (Tm 44)]) (.seq (.seq (R0 [Ld 46 137 2, Ld 47 128 3, Cl 48 97 #[Tm 46, Tm 47] #[137, 128], Mv 45 48, Xt 49 45 0, Xt 50 45 1, Sg 9 49, Sg 10 50]) (.seq (R0 [Mv 51 10]) (.cond (Tm 51) (.seq (R0 [Fa 52 136 8 0, Sr 3 (Tm 52) (Kn 1)]) (.seq (R0 [Ld 53 137 2, Ld 54 128 3, Cl 55 98 #[Tm 53, Tm 54] #[137, 128]]) (.block 2 (.rng (Tm 55) [56] (R0 [Oo 11 (.alloc 134), Sr 134 (Tm 11) (Tm 56)]) (.block 3 (.seq (R0 [Ld 58 134 11, Ld 59 128 3, Cl 60 99 #[Tm 58, Tm 59] #[134, 128], Mv 57 60, Xt 61 57 0, Xt 62 57 1, Oo 12 (.alloc 128), Oo 13 (.alloc 128), Sr 128 (Tm 12) (Tm 61), Sr 128 (Tm 13) (Tm 62)]) (.seq (.ord (.op o65_12 (.op o65_13 (.alt (.lop (Cl 65 65 #[Tm 63, Tm 64] #[137, 128]) (.op o65_14 (.op o65_15 (.alt (.op o65_16 (.lop (Cl 69 65 #[Tm 67, Tm 68] #[137, 128]) (.op o65_17 (.op o65_18 (.op o65_19 .done))))) (.lop (Cl 69 65 #[Tm 67, Tm 68] #[137, 128]) (.op o65_16 (.op o65_17 (.op o65_18 (.op o65_19 .done))))))))) (.alt (.op o65_14 (.alt (.lop (Cl 65 65 #[Tm 63, Tm 64] #[137, 128]) (.op o65_15 (.alt (.op o65_16 (.lop (Cl 69 65 #[Tm 67, Tm 68] #[137, 128]) (.op o65_17 (.op o65_18 (.op o65_19 .done))))) (.lop (Cl 69 65 #[Tm 67, Tm 68] #[137, 128]) (.op o65_16 (.op o65_17 (.op o65_18 (.op o65_19 .done)))))))) (.op o65_15 (.lop (Cl 65 65 #[Tm 63, Tm 64] #[137, 128]) (.alt (.op o65_16 (.lop (Cl 69 65 #[Tm 67, Tm 68] #[137, 128]) (.op o65_17 (.op o65_18 (.op o65_19 .done))))) (.lop (Cl 69 65 #[Tm 67, Tm 68] #[137, 128]) (.op o65_16 (.op o65_17 (.op o65_18 (.op o65_19 .done)))))))))) (.op o65_15 (.alt (.lop (Cl 65 65 #[Tm 63, Tm 64] #[137, 128]) (.op o65_14 (.alt (.op o65_16 (.lop (Cl 69 65 #[Tm 67, Tm 68] #[137, 128]) (.op o65_17 (.op o65_18 (.op o65_19 .done))))) (.lop (Cl 69 65 #[Tm 67, Tm 68] #[137, 128]) (.op o65_16 (.op o65_17 (.op o65_18 (.op o65_19 .done)))))))) (.op o65_14 (.lop (Cl 65 65 #[Tm 63, Tm 64] #[137, 128]) (.alt (.op o65_16 (.lop (Cl 69 65 #[Tm 67, Tm 68] #[137, 128]) (.op o65_17 (.op o65_18 (.op o65_19 .done))))) (.lop (Cl 69 65 #[Tm 67, Tm 68] #[137, 128]) (.op o65_16 (.op o65_17 (.op o65_18 (.op o65_19 .done))))))))))))))) (.seq (R0 [Mv 72 14, Fa 73 136 8 0, Ld 74 3 73, Bo 75 .gtr 3 (Tm 72) (Tm 74) 3]) (.cond (Tm 75) (R0 [Mv 76 14, Ld 77 134 11, Oo 78 (.build 136 #[(0, (Tm 76)), (1, (Tm 77))]), Sr 136 (Tm 8) (Tm 78)]) .skip))))))))) .skip))) (.seq (R1 [Ld 79 137 2, Nk 80 79, Fa 81 177 80 2, Ld 82 174 81, Ld 83 128 3, Ld 84 136 8, ⟨none, .mapUpdate 174 (Tm 82) (Tm 83) (Tm 84), none⟩]) (.seq (R0 [Ld 85 136 8, Sr 136 (Tm 4) (Tm 85)]) .ret)))))))⟩
theorem sf65 : sfOf Try.f65 = some s65 := by kernel_rfl
theorem hb65 : hasBody Try.prog 65 = true := by kernel_rfl
def o66_0 : SO := (Mv 74 0)
def o66_1 : SO := (Ld 75 128 4)
def o66_2 : SO := (Ld 76 128 11)
def o66_3 : SO := (Mv 78 0)
def o66_4 : SO := (Ld 79 128 13)
def o66_5 : SO := (Ld 80 128 12)
def o66_6 : SO := (Oo 82 (.call { callee := .builtin .append, args := #[Tm 77, Tm 81], argTypes := #[35, 35] }))
def o66_7 : SO := (Sg 6 82)
def s66 : SF := ⟨83, [.tmp 6], (.seq (R0 [Oo 4 (.box 128 (Tm 1)), Oo 5 (.box 128 (Tm 2)), Oo 6 (.assign (.const (.slice none 0 0)))]) (.seq (R0 [Mv 14 0, Ld 15 128 5, Cl 16 65 #[Tm 14, Tm 15] #[137, 128], Oo 7 (.alloc 136), Sr 136 (Tm 7) (Tm 16)]) (.seq (.block 0 (.seq (R0 [Fa 18 136 7 0, Ld 19 3 18, Bo 20 .eql 3 (Tm 19) (Kn 0) 3, Sg 17 20]) (.cond (Tm 17) (.seq (R0 [Oo 6 (.assign (.const (.slice none 0 0)))]) .ret) (.seq (R0 [Fa 22 136 7 1, Fa 23 134 22 0, Ld 24 3 23, Bo 25 .eql 3 (Tm 24) (Kn (-1)) 3, Sg 21 25]) (.cond (Tm 21) (.seq (R0 [Mv 27 0, Ld 28 128 5, Cl 29 97 #[Tm 27, Tm 28] #[137, 128], Mv 26 29, Xt 30 26 0, Xt 31 26 1, Sg 8 30, Sg 9 31]) (.seq (R0 [Oo 32 (.indexAddr 128 (Tm 4) (Kn 0)), Ld 33 3 32, Oo 34 (.indexAddr 128 (Tm 4) (Kn 1)), Ld 35 3 34, Mv 36 8, Oo 37 (.build 83 #[(0, (Tm 33)), (1, (Tm 35)), (2, (Tm 36))]), Oo 38 (.buildSlice 35 1 #[(0, (Tm 37))]), Sg 6 38]) .ret)) .skip))))) (.seq (.seq (R0 [Oo 39 (.move (Kn 0))]) (.block 1 (.loop (.seq (R0 [Bo 40 .lss 3 (Tm 39) (Kn 2) 3]) (.seq (.cond (Tm 40) .skip (.exit 1)) (.seq (.block 2 (.seq (R0 [Mv 41 39, Sg 10 41]) (R1 [Mv 42 10, Mv 43 0, Mv 44 10, Nk 45 43, Fa 46 177 45 1, Ix 47 175 46 44, Ld 48 64 47, Mv 49 10, Ix 50 128 5 49, Ld 51 3 50, Ix 52 64 48 51, Ld 53 3 52, Ix 54 128 5 42, Sr 3 (Tm 54) (Tm 53)]))) (R0 [Bo 55 .add 3 (Tm 39) (Kn 1) 3, Mv 39 55]))))))) (.seq (R0 [Fa 57 136 7 1, Ld 58 134 57, Ld 59 128 5, Cl 60 99 #[Tm 58, Tm 59] #[134, 128], Mv 56 60, Xt 61 56 0, Xt 62 56 1, Oo 11 (.alloc 128), Oo 12 (.alloc 128), Sr 128 (Tm 11) (Tm 61), Sr 128 (Tm 12) (Tm 62)]) (.seq (R0 [Ld 63 128 4, Oo 13 (.alloc 128), Sr 128 (Tm 13) (Tm 63)]) (.seq (R1 [Fa 64 136 7 1, Fa 65 134 64 0, Ld 66 3 65, Ix 67 128 13 66, Ld 68 3 67, Fa 69 136 7 1, Fa 70 134 69 1, Ld 71 3 70, Bo 72 .add 3 (Tm 68) (Tm 71) 3, Ix 73 128 13 66, Sr 3 (Tm 73) (Tm 72)]) (.seq (.ord (.op o66_0 (.op o66_1 (.op o66_2 (.alt (.lop (Cl 77 66 #[Tm 74, Tm 75, Tm 76] #[137, 128, 128]) (.op o66_3 (.op o66_4 (.op o66_5 (.lop (Cl 81 66 #[Tm 78, Tm 79, Tm 80] #[137, 128, 128]) (.op o66_6 (.op o66_7 .done))))))) (.alt (.op o66_3 (.alt (.lop (Cl 77 66 #[Tm 74, Tm 75, Tm 76] #[137, 128, 128]) (.op o66_4 (.op o66_5 (.lop (Cl 81 66 #[Tm 78, Tm 79, Tm 80] #[137, 128, 128]) (.op o66_6 (.op o66_7 .done)))))) (.alt (.op o66_4 (.alt (.lop (Cl 77 66 #[Tm 74, Tm 75, Tm 76] #[137, 128, 128]) (.op o66_5 (.lop (Cl 81 66 #[Tm 78, Tm 79, Tm 80] #[137, 128, 128]) (.op o66_6 (.op o66_7 .done))))) (.op o66_5 (.lop (Cl 77 66 #[Tm 74, Tm 75, Tm 76] #[137, 128, 128]) (.lop (Cl 81 66 #[Tm 78, Tm 79, Tm 80] #[137, 128, 128]) (.op o66_6 (.op o66_7 .done))))))) (.op o66_5 (.alt (.lop (Cl 77 66 #[Tm 74, Tm 75, Tm 76] #[137, 128, 128]) (.op o66_4 (.lop (Cl 81 66 #[Tm 78, Tm 79, Tm 80] #[137, 128, 128]) (.op o66_6 (.op o66_7 .done))))) (.op o66_4 (.lop (Cl 77 66 #[Tm 74, Tm 75, Tm 76] #[137, 128, 128]) (.lop (Cl 81 66 #[Tm 78, Tm 79, Tm 80] #[137, 128, 128]) (.op o66_6 (.op o66_7 .done)))))))))) (.alt (.op o66_4 (.alt (.lop (Cl 77 66 #[Tm 74, Tm 75, Tm 76] #[137, 128, 128]) (.op o66_3 (.op o66_5 (.lop (Cl 81 66 #[Tm 78, Tm 79, Tm 80] #[137, 128, 128]) (.op o66_6 (.op o66_7 .done)))))) (.alt (.op o66_3 (.alt (.lop (Cl 77 66 #[Tm 74, Tm 75, Tm 76] #[137, 128, 128]) (.op o66_5 (.lop (Cl 81 66 #[Tm 78, Tm 79, Tm 80] #[137, 128, 128]) (.op o66_6 (.op o66_7 .done))))) (.op o66_5 (.lop (Cl 77 66 #[Tm 74, Tm 75, Tm 76] #[137, 128, 128]) (.lop (Cl 81 66 #[Tm 78, Tm 79, Tm 80] #[137, 128, 128]) (.op o66_6 (.op o66_7 .done))))))) (.op o66_5 (.alt (.lop (Cl 77 66 #[Tm 74, Tm 75, Tm 76] #[137, 128, 128]) (.op o66_3 (.lop (Cl 81 66 #[Tm 78, Tm 79, Tm 80] #[137, 128, 128]) (.op o66_6 (.op o66_7 .done))))) (.op o66_3 (.lop (Cl 77 66 #[Tm 74, Tm 75, Tm 76] #[137, 128, 128]) (.lop (Cl 81 66 #[Tm 78, Tm 79, Tm 80] #[137, 128, 128]) (.op o66_6 (.op o66_7 .done)))))))))) (.op o66_5 (.alt (.lop (Cl 77 66 #[Tm 74, Tm 75, Tm 76] #[137, 128, 128]) (.op o66_3 (.op o66_4 (.lop (Cl 81 66 #[Tm 78, Tm 79, Tm 80] #[137, 128, 128]) (.op o66_6 (.op o66_7 .done)))))) (.alt (.op o66_3 (.alt (.lop (Cl 77 66 #[Tm 74, Tm 75, Tm 76] #[137, 128, 128]) (.op o66_4 (.lop (Cl 81 66 #[Tm 78, Tm 79, Tm 80] #[137, 128, 128]) (.op o66_6 (.op o66_7 .done))))) (.op o66_4 (.lop (Cl 77 66 #[Tm 74, Tm 75, Tm 76] #[137, 128, 128]) (.lop (Cl 81 66 #[Tm 78, Tm 79, Tm 80] #[137, 128, 128]) (.op o66_6 (.op o66_7 .done))))))) (.op o66_4 (.alt (.lop (Cl 77 66 #[Tm 74, Tm 75, Tm 76] #[137, 128, 128]) (.op o66_3 (.lop (Cl 81 66 #[Tm 78, Tm 79, Tm 80] #[137, 128, 128]) (.op o66_6 (.op o66_7 .done))))) (.op o66_3 (.lop (Cl 77 66 #[Tm 74, Tm 75, Tm 76] #[137, 128, 128]) (.lop (Cl 81 66 #[Tm 78, Tm 79, Tm 80] #[137, 128, 128]) (.op o66_6 (.op o66_7 .done))))))))))))))))) .ret))))))))⟩
theorem sf66 : sfOf Try.f66 = some s66 := by kernel_rfl
theorem hb66 : hasBody Try.prog 66 = true := by kernel_rfl
def s71 : SF := ⟨21, [.cell 6 130, .tmp 7], (.seq (R0 [Oo 3 (.box 23 (Tm 0)), Oo 4 (.box 27 (Tm 1)), Oo 6 (.alloc 130), Sk 7 (Kn 0)]) (.seq (.seq (R0 [Ld 9 23 3, Ld 10 27 4, Cl 11 47 #[Tm 9, Tm 10] #[23, 27], Sg 8 11]) (.seq (R0 [Mv 12 8, Bo 13 .neq 30 (Tm 12) (Kn 0) 30]) (.cond (Tm 13) (.seq (R0 [Oo 14 (.build 130 #[]), Mv 15 8, Sr 130 (Tm 6) (Tm 14), Sg 7 15]) .ret) .skip))) (.seq (R1 [Ld 16 23 3, Ld 17 27 4, Oo 18 (.build 130 #[(0, (Tm 16)), (1, (Tm 17))]), Mv 19 2, Cl 20 100 #[Tm 19] #[185], Sr 130 (Tm 6) (Tm 18), Sg 7 20]) .ret)))⟩
theorem sf71 : sfOf Try.f71 = some s71 := by kernel_rfl
theorem hb71 : hasBody Try.prog 71 = true := by kernel_rfl
end Go.Dw.Seat
end
section
namespace Go.Dw.Seat
open Go Go.Dw Go.Proofs
def s72 : SF := ⟨42, [.cell 6 130, .tmp 7], (.seq (R0 [Oo 3 (.box 23 (Tm 0)), Oo 4 (.box 27 (Tm 1)), Oo 6 (.alloc 130), Sk 7 (Kn 0)]) (.seq (R0 [Ld 15 23 3, Ld 16 27 4, Mv 17 2, Cl 18 71 #[Tm 15, Tm 16, Tm 17] #[23, 27, 185], Mv 14 18, Xt 19 14 0, Xt 20 14 1, Oo 8 (.alloc 130), Sr 130 (Tm 8) (Tm 19), Sg 9 20]) (.seq (.seq (R0 [Mv 21 2, Lq 22 21 185, Oo 23 (.move (Kn 0))]) (.block 0 (.loop (.seq (R0 [Bo 24 .lss 3 (Tm 23) (Tm 22) 3]) (.seq (.cond (Tm 24) .skip (.exit 0)) (.seq (.block 1 (.seq (R0 [Ix 25 185 21 23, Ld 26 35 25, Sg 11 26]) (.seq (.seq (R0 [Mv 27 9, Bo 28 .neq 30 (Tm 27) (Kn 0) 30]) (.cond (Tm 28) (.seq (R0 [Ld 29 130 8, Mv 30 9, Sr 130 (Tm 6) (Tm 29), Sg 7 30]) .ret) .skip)) (.seq (R0 [Ld 32 130 8, Mv 33 11, Cl 34 90 #[Tm 32, Tm 33] #[130, 35], Mv 31 34, Xt 35 31 0, Xt 36 31 1, Sg 12 35, Sg 13 36]) (.seq (R0 [Mv 37 13, Bo 38 .neq 40 (Tm 37) (Kn 0) 40]) (.cond (Tm 38) (R0 [Sk 9 (Kn 9)]) .skip)))))) (R0 [Bo 39 .add 3 (Tm 23) (Kn 1) 3, Mv 23 39]))))))) (.seq (R0 [Ld 40 130 8, Mv 41 9, Sr 130 (Tm 6) (Tm 40), Sg 7 41]) .ret))))⟩
theorem sf72 : sfOf Try.f72 = some s72 := by kernel_rfl
theorem hb72 : hasBody Try.prog 72 = true := by kernel_rfl
def s73 : SF := ⟨5, [.tmp 2], (.seq (R0 [Oo 2 (.assign (.const (.slice none 0 0)))]) (.seq (R0 [Mv 3 0, Cl 4 101 #[.const (.slice none 0 0), Tm 3] #[46, 187], Sg 2 4]) .ret))⟩
theorem sf73 : sfOf Try.f73 = some s73 := by kernel_rfl
theorem hb73 : hasBody Try.prog 73 = true := by kernel_rfl
def s74 : SF := ⟨8, [.tmp 6], (.seq (R0 [Oo 3 (.box 130 (Tm 0)), Oo 4 (.box 35 (Tm 1)), Oo 5 (.box 35 (Tm 2)), Oo 6 (.assign (.const .nilFunc))]) (.seq (R0 [Oo 7 (.makeFunc (.func 102) #[] #[Tm 5, Tm 4, Tm 3]), Sg 6 7]) .ret))⟩
theorem sf74 : sfOf Try.f74 = some s74 := by kernel_rfl
theorem hb74 : hasBody Try.prog 74 = true := by kernel_rfl
def s75 : SF := ⟨59, [.tmp 4], (.seq (R0 [Oo 2 (.box 54 (Tm 0)), Sk 4 (Kn 0)]) (.seq (R0 [Oo 5 (.assign (.func 105))]) (.seq (.block 0 (.seq (.seq (R0 [Fa 10 54 2 0, Ld 11 3 10, Oo 12 (.buildSlice 64 1 #[(0, (Tm 11))]), Cl 13 85 #[Kn 1, Kn 2000, Tm 12] #[3, 3, 64], Oo 14 (.unOp .not 4 (Tm 13)), Sg 9 14]) (.cond (Tm 9) .skip (.seq (R0 [Fa 15 54 2 0, Ld 16 3 15, Fa 17 54 2 1, Ld 18 3 17, Fa 19 54 2 2, Ld 20 3 19, Oo 21 (.buildSlice 64 2 #[(0, (Tm 18)), (1, (Tm 20))]), Cl 22 85 #[Kn 0, Tm 16, Tm 21] #[3, 3, 64], Oo 23 (.unOp .not 4 (Tm 22)), Sg 9 23]) (.cond (Tm 9) .skip (.seq (R0 [Fa 24 54 2 1, Ld 25 3 24, Fa 26 54 2 2, Ld 27 3 26, Bo 28 .geq 3 (Tm 25) (Tm 27) 3, Sg 9 28]) (.cond (Tm 9) .skip (R0 [Fa 29 54 2 3, Ld 30 3 29, Fa 31 54 2 4, Ld 32 3 31, Oo 33 (.buildSlice 64 2 #[(0, (Tm 30)), (1, (Tm 32))]), Cl 34 85 #[Kn 0, Kn 40000000, Tm 33] #[3, 3, 64], Oo 35 (.unOp .not 4 (Tm 34)), Sg 9 35]))))))) (.cond (Tm 9) (.seq (R0 [Sk 4 (Kn 2)]) .ret) (.seq (R0 [Mv 37 1, Lq 38 37 55, Bo 39 .gtr 3 (Tm 38) (Kn 7) 3, Sg 36 39]) (.cond (Tm 36) (.seq (R0 [Sk 4 (Kn 5)]) .ret) (.seq (R0 [Mv 41 1, Mv 42 5, Cl 43 106 #[Tm 41, Tm 42] #[55, 194], Sg 40 43]) (.cond (Tm 40) (.seq (R0 [Sk 4 (Kn 4)]) .ret) .skip))))))) (.seq (R0 [Sk 6 (Kn 0)]) (.seq (.seq (R0 [Mv 44 1, Lq 45 44 55, Oo 46 (.move (Kn 0))]) (.block 1 (.loop (.seq (R0 [Bo 47 .lss 3 (Tm 46) (Tm 45) 3]) (.seq (.cond (Tm 47) .skip (.exit 1)) (.seq (.block 2 (.seq (R0 [Ix 48 55 44 46, Ld 49 99 48, Oo 8 (.alloc 99), Sr 99 (Tm 8) (Tm 49)]) (R0 [Mv 50 6, Fa 51 99 8 0, Ld 52 3 51, Bo 53 .add 3 (Tm 50) (Tm 52) 3, Sg 6 53]))) (R0 [Bo 54 .add 3 (Tm 46) (Kn 1) 3, Mv 46 54]))))))) (.seq (.seq (R0 [Mv 55 6, Fa 56 54 2 0, Ld 57 3 56, Bo 58 .gtr 3 (Tm 55) (Tm 57) 3]) (.cond (Tm 58) (.seq (R0 [Sk 4 (Kn 3)]) .ret) .skip)) (.seq (R0 [Sk 4 (Kn 0)]) .ret)))))))⟩
theorem sf75 : sfOf Try.f75 = some s75 := by kernel_rfl
theorem hb75 : hasBody Try.prog 75 = true := by kernel_rfl
def o76_0 : SO := (Ld 47 25 2)
def o76_1 : SO := (Ld 48 25 3)
def o76_2 : SO := (Sr 25 (Tm 2) (Tm 47))
def o76_3 : SO := (Sr 25 (Tm 3) (Tm 48))
def s76 : SF := ⟨49, [.cell 2 25, .cell 3 25], (.seq (R0 [Oo 1 (.box 150 (Tm 0)), Oo 2 (.alloc 25), Oo 3 (.alloc 25)]) (.seq (R0 [Sk 4 (Kn 0)]) (.seq (.seq (R0 [Fa 8 150 1 1, Ld 9 55 8, Lq 10 9 55, Oo 11 (.move (Kn 0))]) (.block 0 (.loop (.seq (R0 [Bo 12 .lss 3 (Tm 11) (Tm 10) 3]) (.seq (.cond (Tm 12) .skip (.exit 0)) (.seq (.block 1 (.seq (R0 [Ix 13 55 9 11, Ld 14 99 13, Oo 6 (.alloc 99), Sr 99 (Tm 6) (Tm 14)]) (.seq (R0 [Mv 15 4, Bo 16 .mul 3 (Kn 2) (Tm 15) 3, Fa 17 99 6 0, Ld 18 3 17, Bo 19 .add 3 (Tm 16) (Tm 18) 3, Sg 7 19]) (.seq (R1 [Ld 20 25 2, Fa 21 99 6 1, Ld 22 25 21, Fa 23 150 1 0, Fa 24 54 23 2, Ld 25 3 24, Bo 26 .mul 3 (Kn 2) (Tm 25) 3, Mv 27 7, Bo 28 .sub 3 (Tm 26) (Tm 27) 3, Cl 29 108 #[Tm 22, Tm 28] #[25, 3], Cl 30 107 #[Tm 20, Tm 29] #[25, 25], Ld 31 25 3, Fa 32 99 6 1, Ld 33 25 32, Mv 34 7, Fa 35 150 1 0, Fa 36 54 35 1, Ld 37 3 36, Bo 38 .mul 3 (Kn 2) (Tm 37) 3, Bo 39 .sub 3 (Tm 34) (Tm 38) 3, Cl 40 108 #[Tm 33, Tm 39] #[25, 3], Cl 41 107 #[Tm 31, Tm 40] #[25, 25], Sr 25 (Tm 2) (Tm 30), Sr 25 (Tm 3) (Tm 41)]) (R0 [Mv 42 4, Fa 43 99 6 0, Ld 44 3 43, Bo 45 .add 3 (Tm 42) (Tm 44) 3, Sg 4 45]))))) (R0 [Bo 46 .add 3 (Tm 11) (Kn 1) 3, Mv 11 46]))))))) (.seq (.ord (.op o76_0 (.alt (.op o76_1 (.op o76_2 (.op o76_3 .done))) (.op o76_2 (.op o76_1 (.op o76_3 .done)))))) .ret))))⟩
theorem sf76 : sfOf Try.f76 = some s76 := by kernel_rfl
theorem hb76 : hasBody Try.prog 76 = true := by kernel_rfl
def s77 : SF := ⟨16, [.cell 4 25], (.seq (R0 [Oo 2 (.box 25 (Tm 0)), Oo 3 (.box 3 (Tm 1)), Oo 4 (.alloc 25)]) (.seq (R0 [Oo 6 (.makeFunc (.func 109) #[] #[Tm 3]), Sg 5 6]) (.seq (R1 [Mv 7 5, Fa 8 25 2 0, Ld 9 3 8, Oo 10 (.call { callee := .value (Tm 7), args := #[Tm 9], argTypes := #[3] }), Mv 11 5, Fa 12 25 2 1, Ld 13 3 12, Oo 14 (.call { callee := .value (Tm 11), args := #[Tm 13], argTypes := #[3] }), Oo 15 (.build 25 #[(0, (Tm 10)), (1, (Tm 14))]), Sr 25 (Tm 4) (Tm 15)]) .ret)))⟩
theorem sf77 : sfOf Try.f77 = some s77 := by kernel_rfl
theorem hb77 : hasBody Try.prog 77 = true := by kernel_rfl
def s78 : SF := ⟨11, [.tmp 2], (.seq (R0 [Oo 1 (.box 150 (Tm 0)), Sk 2 (Kn 0)]) (.seq (R0 [Fa 3 150 1 0, Fa 4 54 3 2, Ld 5 3 4, Fa 6 150 1 0, Fa 7 54 6 1, Ld 8 3 7, Bo 9 .sub 3 (Tm 5) (Tm 8) 3, Bo 10 .mul 3 (Kn 2) (Tm 9) 3, Sg 2 10]) .ret))⟩
theorem sf78 : sfOf Try.f78 = some s78 := by kernel_rfl
theorem hb78 : hasBody Try.prog 78 = true := by kernel_rfl
def s81 : SF := ⟨4, [.tmp 2], (.seq (R0 [Oo 1 (.box 3 (Tm 0)), Oo 2 (.assign (.const .nilFunc))]) (.seq (R0 [Oo 3 (.makeFunc (.func 111) #[] #[Tm 1]), Sg 2 3]) .ret))⟩
theorem sf81 : sfOf Try.f81 = some s81 := by kernel_rfl
theorem hb81 : hasBody Try.prog 81 = true := by kernel_rfl
def s82 : SF := ⟨28, [.tmp 2], (.seq (R0 [Oo 1 (.box 150 (Tm 0)), Sk 2 (Kb false)]) (.seq (R0 [Ld 6 150 1, Cl 7 76 #[Tm 6] #[150], Mv 5 7, Xt 8 5 0, Xt 9 5 1, Oo 3 (.alloc 25), Oo 4 (.alloc 25), Sr 25 (Tm 3) (Tm 8), Sr 25 (Tm 4) (Tm 9)]) (.seq (R1 [Ld 10 25 3, Fa 11 150 1 0, Fa 12 54 11 3, Ld 13 3 12, Ld 14 150 1, Cl 15 78 #[Tm 14] #[150], Bo 16 .mul 3 (Tm 13) (Tm 15) 3, Cl 17 89 #[Tm 10, Kn 0, Tm 16] #[25, 3, 3], Mv 18 17, Gl 19 25 4 18 true, Gf 20 150 1 0 18 true, Gf 21 54 20 4 18 true, Gl 22 3 21 18 true, Gl 23 150 1 18 true, Gc 24 78 #[Tm 23] #[150] 18 true, Gb 25 .mul 3 (Tm 22) (Tm 24) 3 18 true, Gc 26 89 #[Tm 19, Kn 0, Tm 25] #[25, 3, 3] 18 true, Pk 27 18 (Tm 26) (Kb false), Sg 2 27]) .ret)))⟩
theorem sf82 : sfOf Try.f82 = some s82 := by kernel_rfl
theorem hb82 : hasBody Try.prog 82 = true := by kernel_rfl
def s83 : SF := ⟨8, [.tmp 2], (.seq (R0 [Oo 2 (.assign (.const (.slice none 0 0)))]) (.seq (.seq (R0 [Mv 3 0, Bo 4 .eql 64 (Tm 3) (.const (.slice none 0 0)) 64]) (.cond (Tm 4) (.seq (R0 [Oo 2 (.assign (.const (.slice none 0 0)))]) .ret) .skip)) (.seq (R0 [Oo 5 (.buildSlice 64 0 #[]), Mv 6 0, Oo 7 (.call { callee := .builtin .append, args := #[Tm 5, Tm 6], argTypes := #[64, 64] }), Sg 2 7]) .ret)))⟩
theorem sf83 : sfOf Try.f83 = some s83 := by kernel_rfl
theorem hb83 : hasBody Try.prog 83 = true := by kernel_rfl
def s85 : SF := ⟨11, [.tmp 6], (.seq (R0 [Oo 3 (.box 3 (Tm 0)), Oo 4 (.box 3 (Tm 1)), Sk 6 (Kb false)]) (.seq (R0 [Mv 7 2, Oo 8 (.makeFunc (.func 114) #[] #[Tm 3, Tm 4]), Cl 9 113 #[Tm 7, Tm 8] #[64, 202], Oo 10 (.unOp .not 4 (Tm 9)), Sg 6 10]) .ret))⟩
theorem sf85 : sfOf Try.f85 = some s85 := by kernel_rfl
theorem hb85 : hasBody Try.prog 85 = true := by kernel_rfl
def s86 : SF := ⟨6, [.tmp 0], (.seq (R0 [Oo 0 (.assign (.const (.slice none 0 0)))]) (.seq (R0 [Oo 1 (.build 203 #[(0, (Kb false)), (1, (Kb false))]), Oo 2 (.build 203 #[(0, (Kb true)), (1, (Kb true))]), Oo 3 (.build 203 #[(0, (Kb true)), (1, (Kb false))]), Oo 4 (.build 203 #[(0, (Kb false)), (1, (Kb true))]), Oo 5 (.buildSlice 159 4 #[(0, (Tm 1)), (1, (Tm 2)), (2, (Tm 3)), (3, (Tm 4))]), Sg 0 5]) .ret))⟩
theorem sf86 : sfOf Try.f86 = some s86 := by kernel_rfl
theorem hb86 : hasBody Try.prog 86 = true := by kernel_rfl
def o87_0 : SO := (Ld 12 130 3)
def o87_1 : SO := (Cl 13 62 #[Tm 12] #[130])
def o87_2 : SO := (Cl 14 86 #[] #[])
def o87_3 : SO := (Oo 7 (.alloc 128))
def o87_4 : SO := (Oo 8 (.alloc 203))
def o87_5 : SO := (Mv 15 2)
def o87_6 : SO := (Ix 16 159 14 15)
def o87_7 : SO := (Ld 17 203 16)
def o87_8 : SO := (Sr 128 (Tm 7) (Tm 13))
def o87_9 : SO := (Sr 203 (Tm 8) (Tm 17))
def s87 : SF := ⟨51, [.tmp 6], (.seq (R0 [Oo 3 (.box 130 (Tm 0)), Oo 6 (.assign (.const (.slice none 0 0)))]) (.seq (.ord (.op o87_0 (.op o87_1 (.op o87_2 (.op o87_3 (.op o87_4 (.alt (.op o87_5 (.alt (.op o87_6 (.alt (.op o87_7 (.op o87_8 (.op o87_9 .done))) (.op o87_8 (.op o87_7 (.op o87_9 .done))))) (.op o87_8 (.op o87_6 (.op o87_7 (.op o87_9 .done)))))) (.op o87_8 (.op o87_5 (.op o87_6 (.op o87_7 (.op o87_9 .done)))))))))))) (.seq (.seq (R0 [Mv 18 1, Lq 19 18 35, Oo 20 (.move (Kn 0))]) (.block 0 (.loop (.seq (R0 [Bo 21 .lss 3 (Tm 20) (Tm 19) 3]) (.seq (.cond (Tm 21) .skip (.exit 0)) (.seq (.block 1 (.seq (R0 [Ix 22 35 18 20, Ld 23 83 22, Oo 10 (.alloc 83), Sr 83 (Tm 10) (Tm 23)]) (.seq (R0 [Ld 24 130 3, Ld 25 83 10, Cl 26 103 #[Tm 24, Tm 25] #[130, 83], Oo 11 (.alloc 191), Sr 191 (Tm 11) (Tm 26)]) (.seq (.seq (R0 [Oo 27 (.indexAddr 203 (Tm 8) (Kn 0)), Ld 28 4 27]) (.cond (Tm 28) (R0 [Oo 29 (.indexAddr 128 (Tm 7) (Kn 0)), Ld 30 3 29, Fa 31 191 11 1, Oo 32 (.indexAddr 128 (Tm 31) (Kn 0)), Ld 33 3 32, Bo 34 .sub 3 (Tm 30) (Tm 33) 3, Fa 35 83 10 0, Sr 3 (Tm 35) (Tm 34)]) .skip)) (.seq (.seq (R0 [Oo 36 (.indexAddr 203 (Tm 8) (Kn 1)), Ld 37 4 36]) (.cond (Tm 37) (R0 [Oo 38 (.indexAddr 128 (Tm 7) (Kn 1)), Ld 39 3 38, Fa 40 191 11 1, Oo 41 (.indexAddr 128 (Tm 40) (Kn 1)), Ld 42 3 41, Bo 43 .sub 3 (Tm 39) (Tm 42) 3, Fa 44 83 10 1, Sr 3 (Tm 44) (Tm 43)]) .skip)) (R0 [Mv 45 6, Ld 46 83 10, Oo 47 (.buildSlice 35 1 #[(0, (Tm 46))]), Oo 48 (.call { callee := .builtin .append, args := #[Tm 45, Tm 47], argTypes := #[35, 35] }), Sg 6 48])))))) (R0 [Bo 49 .add 3 (Tm 20) (Kn 1) 3, Mv 20 49]))))))) (.seq (R0 [Mv 50 6, Sg 6 50]) .ret))))⟩
theorem sf87 : sfOf Try.f87 = some s87 := by kernel_rfl
theorem hb87 : hasBody Try.prog 87 = true := by kernel_rfl
def s88 : SF := ⟨74, [.tmp 8, .tmp 9], (.seq (R0 [Oo 4 (.box 54 (Tm 0)), Sk 8 (Kn 0), Sk 9 (Kn 0)]) (.seq (R0 [Sk 10 (Kn 0), Sk 11 (Kn 0), Sk 12 (Kn 0)]) (.seq (.seq (R0 [Sk 13 (Kn 0)]) (.block 0 (.loop (.seq (.seq (R0 [Mv 18 13, Mv 19 2, Lq 20 19 64, Bo 21 .lss 3 (Tm 18) (Tm 20) 3]) (.cond (Tm 21) .skip (.exit 0))) (.seq (.block 1 (.seq (R0 [Mv 24 1, Mv 25 2, Mv 26 13, Ix 27 64 25 26, Ld 28 3 27, Ix 29 55 24 28, Ld 30 99 29, Oo 14 (.alloc 99), Sr 99 (Tm 14) (Tm 30)]) (.seq (R0 [Mv 31 10, Bo 32 .mul 3 (Kn 2) (Tm 31) 3, Fa 33 99 14 0, Ld 34 3 33, Bo 35 .add 3 (Tm 32) (Tm 34) 3, Sg 15 35]) (.seq (R1 [Mv 36 15, Fa 37 54 4 1, Ld 38 3 37, Bo 39 .mul 3 (Kn 2) (Tm 38) 3, Bo 40 .sub 3 (Tm 36) (Tm 39) 3, Fa 41 54 4 2, Ld 42 3 41, Bo 43 .mul 3 (Kn 2) (Tm 42) 3, Mv 44 15, Bo 45 .sub 3 (Tm 43) (Tm 44) 3, Sg 16 40, Sg 17 45]) (.seq (R1 [Mv 46 11, Mv 47 16, Fa 48 99 14 1, Ld 49 25 48, Mv 50 16, Bo 51 .geq 3 (Tm 50) (Kn 0) 3, Mv 52 3, Bo 53 .eql 4 (Tm 51) (Tm 52) 4, Cl 54 115 #[Tm 49, Tm 53] #[25, 4], Bo 55 .mul 3 (Tm 47) (Tm 54) 3, Bo 56 .add 3 (Tm 46) (Tm 55) 3, Mv 57 12, Mv 58 17, Fa 59 99 14 1, Ld 60 25 59, Mv 61 17, Bo 62 .geq 3 (Tm 61) (Kn 0) 3, Mv 63 3, Bo 64 .eql 4 (Tm 62) (Tm 63) 4, Cl 65 115 #[Tm 60, Tm 64] #[25, 4], Bo 66 .mul 3 (Tm 58) (Tm 65) 3, Bo 67 .add 3 (Tm 57) (Tm 66) 3, Sg 11 56, Sg 12 67]) (R0 [Mv 68 10, Fa 69 99 14 0, Ld 70 3 69, Bo 71 .add 3 (Tm 68) (Tm 70) 3, Sg 10 71])))))) (R0 [Mv 22 13, Bo 23 .add 3 (Tm 22) (Kn 1) 3, Sg 13 23])))))) (.seq (R0 [Mv 72 11, Mv 73 12, Sg 8 72, Sg 9 73]) .ret))))⟩
theorem sf88 : sfOf Try.f88 = some s88 := by kernel_rfl
theorem hb88 : hasBody Try.prog 88 = true := by kernel_rfl
def s89 : SF := ⟨22, [.tmp 6], (.seq (R0 [Oo 3 (.box 25 (Tm 0)), Sk 6 (Kb false)]) (.seq (R0 [Mv 7 1, Mv 8 2, Fa 9 25 3 0, Ld 10 3 9, Fa 11 25 3 1, Ld 12 3 11, Oo 13 (.buildSlice 64 2 #[(0, (Tm 10)), (1, (Tm 12))]), Cl 14 85 #[Tm 7, Tm 8, Tm 13] #[3, 3, 64], Mv 15 14, Gf 16 25 3 0 15 true, Gl 17 3 16 15 true, Gf 18 25 3 1 15 true, Gl 19 3 18 15 true, Gb 20 .leq 3 (Tm 17) (Tm 19) 3 15 true, Pk 21 15 (Tm 20) (Kb false), Sg 6 21]) .ret))⟩
theorem sf89 : sfOf Try.f89 = some s89 := by kernel_rfl
theorem hb89 : hasBody Try.prog 89 = true := by kernel_rfl
def s90 : SF := ⟨48, [.tmp 4, .tmp 5], (.seq (R0 [Oo 2 (.box 130 (Tm 0)), Sk 4 (Kn 0), Sk 5 (Kn 0)]) (.seq (R0 [Ld 11 130 2, Cl 12 62 #[Tm 11] #[130], Oo 13 (.buildSlice 205 0 #[]), Oo 6 (.alloc 128), Sr 128 (Tm 6) (Tm 12), Sg 7 13]) (.seq (.seq (R0 [Mv 14 1, Lq 15 14 35, Oo 16 (.move (Kn 0))]) (.block 0 (.loop (.seq (R0 [Bo 17 .lss 3 (Tm 16) (Tm 15) 3]) (.seq (.cond (Tm 17) .skip (.exit 0)) (.seq (.block 1 (.seq (R0 [Mv 18 16, Ix 19 35 14 16, Ld 20 83 19, Oo 9 (.alloc 83), Sg 8 18, Sr 83 (Tm 9) (Tm 20)]) (.seq (R0 [Ld 21 130 2, Ld 22 83 9, Cl 23 103 #[Tm 21, Tm 22] #[130, 83], Oo 10 (.alloc 191), Sr 191 (Tm 10) (Tm 23)]) (.seq (.block 2 (.seq (.seq (R0 [Fa 25 191 10 1, Oo 26 (.indexAddr 128 (Tm 25) (Kn 0)), Ld 27 3 26, Oo 28 (.indexAddr 128 (Tm 6) (Kn 0)), Ld 29 3 28, Bo 30 .gtr 3 (Tm 27) (Tm 29) 3, Sg 24 30]) (.cond (Tm 24) .skip (R0 [Fa 31 191 10 1, Oo 32 (.indexAddr 128 (Tm 31) (Kn 1)), Ld 33 3 32, Oo 34 (.indexAddr 128 (Tm 6) (Kn 1)), Ld 35 3 34, Bo 36 .gtr 3 (Tm 33) (Tm 35) 3, Sg 24 36]))) (.cond (Tm 24) (.seq (R0 [Mv 37 8, Sg 4 37, Sk 5 (Kn 1)]) .ret) (.seq (R0 [Mv 39 7, Oo 40 (.makeFunc (.func 117) #[] #[Tm 10]), Cl 41 116 #[Tm 39, Tm 40] #[205, 207], Sg 38 41]) (.cond (Tm 38) (.seq (R0 [Mv 42 8, Sg 4 42, Sk 5 (Kn 2)]) .ret) .skip))))) (R0 [Mv 43 7, Ld 44 191 10, Oo 45 (.buildSlice 205 1 #[(0, (Tm 44))]), Oo 46 (.call { callee := .builtin .append, args := #[Tm 43, Tm 45], argTypes := #[205, 205] }), Sg 7 46]))))) (R0 [Bo 47 .add 3 (Tm 16) (Kn 1) 3, Mv 16 47]))))))) (.seq (R0 [Sk 4 (Kn 0), Sk 5 (Kn 0)]) .ret))))⟩
theorem sf90 : sfOf Try.f90 = some s90 := by kernel_rfl
theorem hb90 : hasBody Try.prog 90 = true := by kernel_rfl
def s91 : SF := ⟨42, [.tmp 6, .tmp 7], (.seq (R0 [Oo 3 (.box 119 (Tm 0)), Sk 6 (Kn 0), Sk 7 (Kn 0)]) (.seq (.seq (R0 [Ld 11 119 3, Oo 12 (.buildSlice 117 1 #[(0, (Tm 11))]), Cl 13 93 #[Tm 12, Kn 1] #[117, 3], Sg 8 13]) (.seq (R0 [Mv 14 8, Bo 15 .neq 30 (Tm 14) (Kn 0) 30]) (.cond (Tm 15) (.seq (R0 [Mv 16 8, Sk 6 (Kn 0), Sg 7 16]) .ret) .skip))) (.seq (R0 [Mv 18 1, Mv 19 2, Cl 20 94 #[Tm 18, Tm 19] #[113, 3], Mv 17 20, Xt 21 17 0, Xt 22 17 1, Oo 9 (.alloc 168), Sr 168 (Tm 9) (Tm 21), Sg 10 22]) (.seq (.block 0 (.seq (R0 [Mv 24 10, Bo 25 .neq 30 (Tm 24) (Kn 0) 30, Sg 23 25]) (.cond (Tm 23) (.seq (R0 [Mv 26 10, Sk 6 (Kn 0), Sg 7 26]) .ret) (.seq (R0 [Fa 28 119 3 1, Fa 29 25 28 1, Ld 30 3 29, Bo 31 .eql 3 (Tm 30) (Kn 0) 3, Sg 27 31]) (.cond (Tm 27) (.seq (R0 [Sk 6 (Kn 50), Sk 7 (Kn 0)]) .ret) .skip))))) (.seq (R1 [Ld 32 119 3, Ld 33 168 9, Cl 34 119 #[Tm 33] #[168], Cl 35 118 #[Tm 32, Tm 34] #[119, 3], Fa 36 119 3 1, Fa 37 25 36 1, Ld 38 3 37, Bo 39 .quo 3 (Tm 35) (Tm 38) 3, Bo 40 .add 3 (Kn 1) (Tm 39) 3, Oo 41 (.call { callee := .builtin .min, args := #[Kn 50, Tm 40], argTypes := #[3, 3] }), Sg 6 41, Sk 7 (Kn 0)]) .ret)))))⟩
theorem sf91 : sfOf Try.f91 = some s91 := by kernel_rfl
theorem hb91 : hasBody Try.prog 91 = true := by kernel_rfl
def s92 : SF := ⟨6, [.tmp 2], (.seq (R0 [Sk 2 (Kn 0)]) (.seq (R0 [Mv 3 0, Bo 4 .add 3 (Tm 3) (Kn 99) 3, Bo 5 .quo 3 (Tm 4) (Kn 100) 3, Sg 2 5]) .ret))⟩
theorem sf92 : sfOf Try.f92 = some s92 := by kernel_rfl
theorem hb92 : hasBody Try.prog 92 = true := by kernel_rfl
def s93 : SF := ⟨15, [.tmp 4], (.seq (R0 [Sk 4 (Kn 0)]) (.seq (R0 [Oo 5 (.assign (.func 120))]) (.seq (.block 0 (.seq (R0 [Mv 7 0, Lq 8 7 117, Mv 9 1, Bo 10 .gtr 3 (Tm 8) (Tm 9) 3, Sg 6 10]) (.cond (Tm 6) (.seq (R0 [Sk 4 (Kn 5)]) .ret) (.seq (R0 [Mv 12 0, Mv 13 5, Cl 14 122 #[Tm 12, Tm 13] #[117, 209], Sg 11 14]) (.cond (Tm 11) (.seq (R0 [Sk 4 (Kn 2)]) .ret) .skip))))) (.seq (R0 [Sk 4 (Kn 0)]) .ret))))⟩
theorem sf93 : sfOf Try.f93 = some s93 := by kernel_rfl
theorem hb93 : hasBody Try.prog 93 = true := by kernel_rfl
def s94 : SF := ⟨76, [.cell 4 168, .tmp 5], (.seq (R0 [Oo 4 (.alloc 168), Sk 5 (Kn 0)]) (.seq (.seq (R0 [Mv 8 0, Lq 9 8 113, Oo 10 (.buildSlice 64 1 #[(0, (Tm 9))]), Cl 11 123 #[Kn 1, Kn 10, Tm 10] #[3, 3, 64], Oo 12 (.unOp .not 4 (Tm 11)), Mv 13 12, Gm 14 0 13 false, Og 15 (.indexAddr 113 (Tm 14) (Kn 0)) 13 false, Gf 16 112 15 0 13 false, Gl 17 3 16 13 false, Gb 18 .neq 3 (Tm 17) (Kn 0) 3 13 false, Pk 19 13 (Kb true) (Tm 18)]) (.cond (Tm 19) (.seq (R0 [Ld 20 168 4, Sr 168 (Tm 4) (Tm 20), Sk 5 (Kn 4)]) .ret) .skip)) (.seq (.seq (R0 [Mv 21 0, Lq 22 21 113, Oo 23 (.move (Kn 0))]) (.block 0 (.loop (.seq (R0 [Bo 24 .lss 3 (Tm 23) (Tm 22) 3]) (.seq (.cond (Tm 24) .skip (.exit 0)) (.seq (.block 1 (.seq (R0 [Mv 25 23, Ix 26 113 21 23, Ld 27 112 26, Oo 7 (.alloc 112), Sg 6 25, Sr 112 (Tm 7) (Tm 27)]) (.seq (R1 [Fa 28 112 7 0, Ld 29 3 28, Oo 30 (.buildSlice 64 1 #[(0, (Tm 29))]), Cl 31 123 #[Kn 0, Kn 10000, Tm 30] #[3, 3, 64], Oo 32 (.unOp .not 4 (Tm 31)), Mv 33 32, Gf 34 112 7 1 33 false, Gl 35 3 34 33 false, Og 36 (.buildSlice 64 1 #[(0, (Tm 35))]) 33 false, Gc 37 123 #[Kn 0, Kn 1000, Tm 36] #[3, 3, 64] 33 false, Og 38 (.unOp .not 4 (Tm 37)) 33 false, Pk 39 33 (Kb true) (Tm 38), Mv 40 39, Gm 41 6 40 false, Gb 42 .gtr 3 (Tm 41) (Kn 0) 3 40 false, Gm 43 42 40 false, Gf 44 112 7 0 43 true, Gl 45 3 44 43 true, Gm 46 0 43 true, Gm 47 6 43 true, Gb 48 .sub 3 (Tm 47) (Kn 1) 3 43 true, Gx 49 113 46 48 43 true, Gf 50 112 49 0 43 true, Gl 51 3 50 43 true, Gb 52 .leq 3 (Tm 45) (Tm 51) 3 43 true, Gm 53 52 43 true, Gf 54 112 7 1 53 false, Gl 55 3 54 53 false, Gm 56 0 53 false, Gm 57 6 53 false, Gb 58 .sub 3 (Tm 57) (Kn 1) 3 53 false, Gx 59 113 56 58 53 false, Gf 60 112 59 1 53 false, Gl 61 3 60 53 false, Gb 62 .gtr 3 (Tm 55) (Tm 61) 3 53 false, Og 63 (.pick (Tm 53) (Kb true) (Tm 62)) 43 true, Og 64 (.pick (Tm 43) (Tm 63) (Kb false)) 40 false, Pk 65 40 (Kb true) (Tm 64)]) (.cond (Tm 65) (.seq (R0 [Ld 66 168 4, Sr 168 (Tm 4) (Tm 66), Sk 5 (Kn 4)]) .ret) .skip)))) (R0 [Bo 67 .add 3 (Tm 23) (Kn 1) 3, Mv 23 67]))))))) (.seq (.seq (R0 [Mv 68 1, Oo 69 (.buildSlice 64 1 #[(0, (Tm 68))]), Cl 70 123 #[Kn 0, Kn 10000, Tm 69] #[3, 3, 64], Oo 71 (.unOp .not 4 (Tm 70))]) (.cond (Tm 71) (.seq (R0 [Ld 72 168 4, Sr 168 (Tm 4) (Tm 72), Sk 5 (Kn 3)]) .ret) .skip)) (.seq (R0 [Mv 73 0, Mv 74 1, Oo 75 (.build 168 #[(0, (Tm 73)), (1, (Tm 74))]), Sr 168 (Tm 4) (Tm 75), Sk 5 (Kn 0)]) .ret)))))⟩
theorem sf94 : sfOf Try.f94 = some s94 := by kernel_rfl
theorem hb94 : hasBody Try.prog 94 = true := by kernel_rfl
def s96 : SF := ⟨50, [.tmp 4], (.seq (R0 [Oo 2 (.box 27 (Tm 0)), Oo 4 (.assign (.const (.slice none 0 0)))]) (.seq (R0 [Mv 9 1, Bo 10 .add 3 (Tm 9) (Kn 1) 3, Oo 11 (.makeSlice 69 (Tm 10) (Tm 10)), Sg 5 11]) (.seq (R0 [Mv 12 5, Oo 13 (.indexAddr 69 (Tm 12) (Kn 0)), Sr 4 (Tm 13) (Kb true)]) (.seq (.seq (R0 [Mv 14 5, Lq 15 14 69, Oo 16 (.move (Kn 0))]) (.block 0 (.loop (.seq (R0 [Bo 17 .lss 3 (Tm 16) (Tm 15) 3]) (.seq (.cond (Tm 17) .skip (.exit 0)) (.seq (.block 1 (.seq (R0 [Mv 18 16, Sg 6 18]) (.seq (R0 [Fa 19 27 2 0, Ld 20 3 19, Fa 21 27 2 1, Ld 22 3 21, Oo 23 (.build 97 #[(0, (Tm 20)), (1, (Tm 22))]), Oo 24 (.move (Kn 0))]) (.block 2 (.loop (.seq (R0 [Bo 25 .lss 3 (Tm 24) (Kn 2) 3]) (.seq (.cond (Tm 25) .skip (.exit 2)) (.seq (.block 3 (.seq (R0 [Oo 26 (.index 97 (Tm 23) (Tm 24)), Sg 8 26]) (R0 [Mv 27 5, Mv 28 6, Mv 29 5, Mv 30 6, Ix 31 69 29 30, Ld 32 4 31, Mv 33 32, Gm 34 6 33 false, Gm 35 8 33 false, Gb 36 .geq 3 (Tm 34) (Tm 35) 3 33 false, Gm 37 36 33 false, Gm 38 5 37 true, Gm 39 6 37 true, Gm 40 8 37 true, Gb 41 .sub 3 (Tm 39) (Tm 40) 3 37 true, Gx 42 69 38 41 37 true, Gl 43 4 42 37 true, Og 44 (.pick (Tm 37) (Tm 43) (Kb false)) 33 false, Pk 45 33 (Kb true) (Tm 44), Ix 46 69 27 28, Sr 4 (Tm 46) (Tm 45)]))) (R0 [Bo 47 .add 3 (Tm 24) (Kn 1) 3, Mv 24 47]))))))))) (R0 [Bo 48 .add 3 (Tm 16) (Kn 1) 3, Mv 16 48]))))))) (.seq (R0 [Mv 49 5, Sg 4 49]) .ret)))))⟩
theorem sf96 : sfOf Try.f96 = some s96 := by kernel_rfl
theorem hb96 : hasBody Try.prog 96 = true := by kernel_rfl
def s97 : SF := ⟨35, [.tmp 4, .tmp 5], (.seq (R0 [Oo 3 (.box 128 (Tm 1)), Sk 4 (Kb false), Sk 5 (Kb false)]) (.seq (.seq (R0 [Oo 9 (.build 203 #[(0, (Kb false)), (1, (Kb true))]), Oo 10 (.move (Kn 0))]) (.block 0 (.loop (.seq (R0 [Bo 11 .lss 3 (Tm 10) (Kn 2) 3]) (.seq (.cond (Tm 11) .skip (.exit 0)) (.seq (.block 1 (.seq (R0 [Oo 12 (.index 203 (Tm 9) (Tm 10)), Sg 7 12]) (.seq (R0 [Mv 13 0, Nk 14 13, Fa 15 177 14 0, Fa 16 130 15 1, Ld 17 27 16, Cl 18 125 #[Tm 17] #[27], Mv 19 7, Oo 20 (.lookup 214 (Tm 18) (Tm 19) false), Oo 8 (.alloc 128), Sr 128 (Tm 8) (Tm 20)]) (.seq (R0 [Oo 21 (.indexAddr 128 (Tm 8) (Kn 0)), Ld 22 3 21, Oo 23 (.indexAddr 128 (Tm 3) (Kn 0)), Ld 24 3 23, Bo 25 .leq 3 (Tm 22) (Tm 24) 3, Mv 26 25, Og 27 (.indexAddr 128 (Tm 8) (Kn 1)) 26 true, Gl 28 3 27 26 true, Og 29 (.indexAddr 128 (Tm 3) (Kn 1)) 26 true, Gl 30 3 29 26 true, Gb 31 .leq 3 (Tm 28) (Tm 30) 3 26 true, Pk 32 26 (Tm 31) (Kb false)]) (.cond (Tm 32) (.seq (R0 [Mv 33 7, Sg 4 33, Sk 5 (Kb true)]) .ret) .skip))))) (R0 [Bo 34 .add 3 (Tm 10) (Kn 1) 3, Mv 10 34]))))))) (.seq (R0 [Sk 4 (Kb false), Sk 5 (Kb false)]) .ret)))⟩
theorem sf97 : sfOf Try.f97 = some s97 := by kernel_rfl
theorem hb97 : hasBody Try.prog 97 = true := by kernel_rfl
def s98 : SF := ⟨6, [.tmp 4], (.seq (R0 [Oo 2 (.box 137 (Tm 0)), Oo 3 (.box 128 (Tm 1)), Oo 4 (.assign (.const .nilFunc))]) (.seq (R0 [Oo 5 (.makeFunc (.func 126) #[] #[Tm 3, Tm 2]), Sg 4 5]) .ret))⟩
theorem sf98 : sfOf Try.f98 = some s98 := by kernel_rfl
theorem hb98 : hasBody Try.prog 98 = true := by kernel_rfl
def o99_0 : SO := (Ld 6 128 3)
def o99_1 : SO := (Ld 7 128 3)
def o99_2 : SO := (Sr 128 (Tm 4) (Tm 6))
def o99_3 : SO := (Sr 128 (Tm 5) (Tm 7))
def o99_4 : SO := (Fa 8 134 2 0)
def o99_5 : SO := (Ld 9 3 8)
def o99_6 : SO := (Fa 12 134 2 1)
def o99_7 : SO := (Ld 13 3 12)
def o99_8 : SO := (Ix 21 128 4 9)
def o99_9 : SO := (Sr 3 (Tm 21) (Tm 13))
def o99_10 : SO := (Fa 10 134 2 0)
def o99_11 : SO := (Ld 11 3 10)
def o99_12 : SO := (Fa 14 134 2 0)
def o99_13 : SO := (Ld 15 3 14)
def o99_14 : SO := (Ix 16 128 3 15)
def o99_15 : SO := (Ld 17 3 16)
def o99_16 : SO := (Fa 18 134 2 1)
def o99_17 : SO := (Ld 19 3 18)
def o99_18 : SO := (Bo 20 .sub 3 (Tm 17) (Tm 19) 3)
def o99_19 : SO := (Ix 22 128 5 11)
def o99_20 : SO := (Sr 3 (Tm 22) (Tm 20))
def o99_21 : SO := (Ld 23 128 4)
def o99_22 : SO := (Ld 24 128 5)
def o99_23 : SO := (Sr 128 (Tm 4) (Tm 23))
def o99_24 : SO := (Sr 128 (Tm 5) (Tm 24))
def s99 : SF := ⟨25, [.cell 4 128, .cell 5 128], (.seq (R0 [Oo 2 (.box 134 (Tm 0)), Oo 3 (.box 128 (Tm 1)), Oo 4 (.alloc 128), Oo 5 (.alloc 128)]) (.seq (.ord (.op o99_0 (.alt (.op o99_1 (.op o99_2 (.op o99_3 .done))) (.op o99_2 (.op o99_1 (.op o99_3 .done)))))) (.seq (.ord (.op o99_4 (.op o99_5 (.op o99_6 (.op o99_7 (.op o99_8 (.app o99_9 [2, 10, 2, 14, 3, 15, 16, 2, 18, 17, 19] [10, 11, 14, 15, 16, 17, 18, 19, 20] (.op o99_10 (.op o99_11 (.op o99_12 (.op o99_13 (.op o99_14 (.op o99_15 (.op o99_16 (.op o99_17 (.op o99_18 (.op o99_19 (.op o99_20 .done)))))))))))))))))) (.seq (.ord (.op o99_21 (.alt (.op o99_22 (.op o99_23 (.op o99_24 .done))) (.op o99_23 (.op o99_22 (.op o99_24 .done)))))) .ret))))⟩
theorem sf99 : sfOf Try.f99 = some s99 := by kernel_rfl
theorem hb99 : hasBody Try.prog 99 = true := by kernel_rfl
def s100 : SF := ⟨19, [.tmp 2], (.seq (R0 [Sk 2 (Kn 0)]) (.seq (.seq (R0 [Mv 5 0, Lq 6 5 185, Oo 7 (.move (Kn 0))]) (.block 0 (.loop (.seq (R0 [Bo 8 .lss 3 (Tm 7) (Tm 6) 3]) (.seq (.cond (Tm 8) .skip (.exit 0)) (.seq (.block 1 (.seq (R0 [Ix 9 185 5 7, Ld 10 35 9, Sg 4 10]) (.block 2 (.seq (R0 [Mv 12 4, Lq 13 12 35, Bo 14 .gtr 3 (Tm 13) (Kn 200) 3, Sg 11 14]) (.cond (Tm 11) (.seq (R0 [Sk 2 (Kn 5)]) .ret) (.seq (R0 [Mv 16 4, Cl 17 127 #[Tm 16, .func 128] #[35, 218], Sg 15 17]) (.cond (Tm 15) (.seq (R0 [Sk 2 (Kn 4)]) .ret) .skip))))))) (R0 [Bo 18 .add 3 (Tm 7) (Kn 1) 3, Mv 7 18]))))))) (.seq (R0 [Sk 2 (Kn 0)]) .ret)))⟩
theorem sf100 : sfOf Try.f100 = some s100 := by kernel_rfl
theorem hb100 : hasBody Try.prog 100 = true := by kernel_rfl
def s101 : SF := ⟨13, [.tmp 4], (.seq (R0 [Oo 2 (.box 46 (Tm 0)), Oo 4 (.assign (.const (.slice none 0 0)))]) (.seq (.seq (R0 [Mv 6 1]) (.block 0 (.rng (Tm 6) [7] (R0 [Oo 5 (.alloc 85), Sr 85 (Tm 5) (Tm 7)]) (.block 1 (R0 [Ld 8 46 2, Ld 9 85 5, Oo 10 (.buildSlice 46 1 #[(0, (Tm 9))]), Oo 11 (.call { callee := .builtin .append, args := #[Tm 8, Tm 10], argTypes := #[46, 46] }), Sr 46 (Tm 2) (Tm 11)]))))) (.seq (R0 [Ld 12 46 2, Sg 4 12]) .ret)))⟩
theorem sf101 : sfOf Try.f101 = some s101 := by kernel_rfl
theorem hb101 : hasBody Try.prog 101 = true := by kernel_rfl
def s102 : SF := ⟨60, [], (.seq (R0 [Ld 12 35 1, Lq 13 12 35, Oo 14 (.move (Kn 0))]) (.block 0 (.loop (.seq (R0 [Bo 15 .lss 3 (Tm 14) (Tm 13) 3]) (.seq (.cond (Tm 15) .skip (.exit 0)) (.seq (.block 1 (.seq (R0 [Ix 16 35 12 14, Ld 17 83 16, Oo 6 (.alloc 83), Sr 83 (Tm 6) (Tm 17)]) (.seq (R0 [Oo 7 (.alloc 85)]) (.seq (R0 [Sk 8 (Kn 0)]) (.seq (.seq (R0 [Ld 18 35 2, Lq 19 18 35, Oo 20 (.move (Kn 0))]) (.block 2 (.loop (.seq (R0 [Bo 21 .lss 3 (Tm 20) (Tm 19) 3]) (.seq (.cond (Tm 21) .skip (.exit 2)) (.seq (.block 3 (.seq (R0 [Mv 22 20, Ix 23 35 18 20, Ld 24 83 23, Oo 10 (.alloc 83), Sg 9 22, Sr 83 (Tm 10) (Tm 24)]) (.seq (R1 [Ld 25 130 3, Ld 26 83 6, Cl 27 103 #[Tm 25, Tm 26] #[130, 83], Ld 28 130 3, Ld 29 83 10, Cl 30 103 #[Tm 28, Tm 29] #[130, 83], Cl 31 104 #[Tm 27, Tm 30] #[191, 191], Sg 11 31]) (.seq (R0 [Mv 32 11, Bo 33 .gtr 3 (Tm 32) (Kn 0) 3]) (.cond (Tm 33) (.seq (R0 [Fa 34 85 7 0, Ld 35 64 34, Mv 36 9, Oo 37 (.buildSlice 64 1 #[(0, (Tm 36))]), Oo 38 (.call { callee := .builtin .append, args := #[Tm 35, Tm 37], argTypes := #[64, 64] }), Fa 39 85 7 0, Sr 64 (Tm 39) (Tm 38)]) (R0 [Mv 40 8, Mv 41 11, Bo 42 .add 3 (Tm 40) (Tm 41) 3, Sg 8 42])) .skip))))) (R0 [Bo 43 .add 3 (Tm 20) (Kn 1) 3, Mv 20 43]))))))) (.seq (R0 [Mv 44 8, Bo 45 .mul 3 (Kn 1000) (Tm 44) 3, Fa 46 130 3 1, Fa 47 27 46 0, Ld 48 3 47, Fa 49 130 3 1, Fa 50 27 49 1, Ld 51 3 50, Bo 52 .mul 3 (Tm 48) (Tm 51) 3, Bo 53 .quo 3 (Tm 45) (Tm 52) 3, Fa 54 85 7 1, Sr 3 (Tm 54) (Tm 53)]) (.seq (R0 [Mv 55 0, Ld 56 85 7, Oo 57 (.call { callee := .value (Tm 55), args := #[Tm 56], argTypes := #[85] }), Oo 58 (.unOp .not 4 (Tm 57))]) (.cond (Tm 58) .ret .skip)))))))) (R0 [Bo 59 .add 3 (Tm 14) (Kn 1) 3, Mv 14 59])))))))⟩
theorem sf102 : sfOf Try.f102 = some s102 := by kernel_rfl
theorem hb102 : hasBody Try.prog 102 = true := by kernel_rfl
def s103 : SF := ⟨29, [.cell 4 191], (.seq (R0 [Oo 2 (.box 130 (Tm 0)), Oo 3 (.box 83 (Tm 1)), Oo 4 (.alloc 191)]) (.seq (R1 [Fa 6 130 2 1, Ld 7 27 6, Cl 8 125 #[Tm 7] #[27], Fa 9 83 3 2, Ld 10 4 9, Oo 11 (.lookup 214 (Tm 8) (Tm 10) false), Oo 5 (.alloc 128), Sr 128 (Tm 5) (Tm 11)]) (.seq (R0 [Fa 12 83 3 0, Ld 13 3 12, Fa 14 83 3 1, Ld 15 3 14, Oo 16 (.build 128 #[(0, (Tm 13)), (1, (Tm 15))]), Fa 17 83 3 0, Ld 18 3 17, Oo 19 (.indexAddr 128 (Tm 5) (Kn 0)), Ld 20 3 19, Bo 21 .add 3 (Tm 18) (Tm 20) 3, Fa 22 83 3 1, Ld 23 3 22, Oo 24 (.indexAddr 128 (Tm 5) (Kn 1)), Ld 25 3 24, Bo 26 .add 3 (Tm 23) (Tm 25) 3, Oo 27 (.build 128 #[(0, (Tm 21)), (1, (Tm 26))]), Oo 28 (.build 191 #[(0, (Tm 16)), (1, (Tm 27))]), Sr 191 (Tm 4) (Tm 28)]) .ret)))⟩
theorem sf103 : sfOf Try.f103 = some s103 := by kernel_rfl
theorem hb103 : hasBody Try.prog 103 = true := by kernel_rfl
def s104 : SF := ⟨34, [.tmp 4], (.seq (R0 [Oo 2 (.box 191 (Tm 0)), Oo 3 (.box 191 (Tm 1)), Sk 4 (Kn 0)]) (.seq (R0 [Sk 5 (Kn 1)]) (.seq (.seq (R0 [Oo 7 (.move (Kn 0))]) (.block 0 (.loop (.seq (R0 [Bo 8 .lss 3 (Tm 7) (Kn 2) 3]) (.seq (.cond (Tm 8) .skip (.exit 0)) (.seq (.block 1 (.seq (R0 [Mv 9 7, Sg 6 9]) (R1 [Mv 10 5, Mv 11 6, Fa 12 191 2 1, Ix 13 128 12 11, Ld 14 3 13, Mv 15 6, Fa 16 191 3 1, Ix 17 128 16 15, Ld 18 3 17, Oo 19 (.call { callee := .builtin .min, args := #[Tm 14, Tm 18], argTypes := #[3, 3] }), Mv 20 6, Fa 21 191 2 0, Ix 22 128 21 20, Ld 23 3 22, Mv 24 6, Fa 25 191 3 0, Ix 26 128 25 24, Ld 27 3 26, Oo 28 (.call { callee := .builtin .max, args := #[Tm 23, Tm 27], argTypes := #[3, 3] }), Bo 29 .sub 3 (Tm 19) (Tm 28) 3, Oo 30 (.call { callee := .builtin .max, args := #[Kn 0, Tm 29], argTypes := #[3, 3] }), Bo 31 .mul 3 (Tm 10) (Tm 30) 3, Sg 5 31]))) (R0 [Bo 32 .add 3 (Tm 7) (Kn 1) 3, Mv 7 32]))))))) (.seq (R0 [Mv 33 5, Sg 4 33]) .ret))))⟩
theorem sf104 : sfOf Try.f104 = some s104 := by kernel_rfl
theorem hb104 : hasBody Try.prog 104 = true := by kernel_rfl
def s105 : SF := ⟨14, [.tmp 2], (.seq (R0 [Oo 1 (.box 99 (Tm 0)), Sk 2 (Kb false)]) (.seq (R0 [Fa 3 99 1 0, Ld 4 3 3, Oo 5 (.buildSlice 64 1 #[(0, (Tm 4))]), Cl 6 85 #[Kn 1, Kn 2000, Tm 5] #[3, 3, 64], Oo 7 (.unOp .not 4 (Tm 6)), Mv 8 7, Gf 9 99 1 1 8 false, Gl 10 25 9 8 false, Gc 11 89 #[Tm 10, Kn 0, Kn 5000000] #[25, 3, 3] 8 false, Og 12 (.unOp .not 4 (Tm 11)) 8 false, Pk 13 8 (Kb true) (Tm 12), Sg 2 13]) .ret))⟩
theorem sf105 : sfOf Try.f105 = some s105 := by kernel_rfl
theorem hb105 : hasBody Try.prog 105 = true := by kernel_rfl
def s106 : SF := ⟨9, [.tmp 4], (.seq (R0 [Sk 4 (Kb false)]) (.seq (R0 [Mv 5 0, Mv 6 1, Cl 7 129 #[Tm 5, Tm 6] #[55, 194], Bo 8 .geq 3 (Tm 7) (Kn 0) 3, Sg 4 8]) .ret))⟩
theorem sf106 : sfOf Try.f106 = some s106 := by kernel_rfl
theorem hb106 : hasBody Try.prog 106 = true := by kernel_rfl
def s107 : SF := ⟨16, [.cell 4 25], (.seq (R0 [Oo 2 (.box 25 (Tm 0)), Oo 3 (.box 25 (Tm 1)), Oo 4 (.alloc 25)]) (.seq (R0 [Fa 5 25 2 0, Ld 6 3 5, Fa 7 25 3 0, Ld 8 3 7, Bo 9 .add 3 (Tm 6) (Tm 8) 3, Fa 10 25 2 1, Ld 11 3 10, Fa 12 25 3 1, Ld 13 3 12, Bo 14 .add 3 (Tm 11) (Tm 13) 3, Oo 15 (.build 25 #[(0, (Tm 9)), (1, (Tm 14))]), Sr 25 (Tm 4) (Tm 15)]) .ret))⟩
theorem sf107 : sfOf Try.f107 = some s107 := by kernel_rfl
theorem hb107 : hasBody Try.prog 107 = true := by kernel_rfl
def s108 : SF := ⟨24, [.cell 4 25], (.seq (R0 [Oo 2 (.box 25 (Tm 0)), Oo 4 (.alloc 25)]) (.seq (R0 [Fa 5 25 2 0, Ld 6 3 5, Mv 7 1, Bo 8 .mul 3 (Tm 6) (Tm 7) 3, Fa 9 25 2 1, Ld 10 3 9, Mv 11 1, Bo 12 .mul 3 (Tm 10) (Tm 11) 3, Oo 13 (.call { callee := .builtin .min, args := #[Tm 8, Tm 12], argTypes := #[3, 3] }), Fa 14 25 2 0, Ld 15 3 14, Mv 16 1, Bo 17 .mul 3 (Tm 15) (Tm 16) 3, Fa 18 25 2 1, Ld 19 3 18, Mv 20 1, Bo 21 .mul 3 (Tm 19) (Tm 20) 3, Oo 22 (.call { callee := .builtin .max, args := #[Tm 17, Tm 21], argTypes := #[3, 3] }), Oo 23 (.build 25 #[(0, (Tm 13)), (1, (Tm 22))]), Sr 25 (Tm 4) (Tm 23)]) .ret))⟩
theorem sf108 : sfOf Try.f108 = some s108 := by kernel_rfl
theorem hb108 : hasBody Try.prog 108 = true := by kernel_rfl
def s109 : SF := ⟨15, [.tmp 3], (.seq (R0 [Sk 3 (Kn 0)]) (.seq (R1 [Mv 4 0, Mv 5 0, Ld 6 3 1, Bo 7 .rem 3 (Tm 5) (Tm 6) 3, Ld 8 3 1, Bo 9 .add 3 (Tm 7) (Tm 8) 3, Ld 10 3 1, Bo 11 .rem 3 (Tm 9) (Tm 10) 3, Bo 12 .sub 3 (Tm 4) (Tm 11) 3, Ld 13 3 1, Bo 14 .quo 3 (Tm 12) (Tm 13) 3, Sg 3 14]) .ret))⟩
theorem sf109 : sfOf Try.f109 = some s109 := by kernel_rfl
theorem hb109 : hasBody Try.prog 109 = true := by kernel_rfl
def s111 : SF := ⟨77, [], (.seq (R0 [Oo 9 (.buildSlice 64 0 #[]), Sg 3 9]) (.seq (.seq (R0 [Ld 10 3 1, Oo 11 (.move (Kn 0))]) (.block 0 (.loop (.seq (R0 [Bo 12 .lss 3 (Tm 11) (Tm 10) 3]) (.seq (.cond (Tm 12) .skip (.exit 0)) (.seq (.block 1 (.seq (R0 [Mv 13 11, Sg 4 13]) (R0 [Mv 14 3, Mv 15 4, Oo 16 (.buildSlice 64 1 #[(0, (Tm 15))]), Oo 17 (.call { callee := .builtin .append, args := #[Tm 14, Tm 16], argTypes := #[64, 64] }), Sg 3 17]))) (R0 [Bo 18 .add 3 (Tm 11) (Kn 1) 3, Mv 11 18]))))))) (.block 2 (.loop (.block 3 (.seq (.seq (R0 [Mv 19 0, Mv 20 3, Oo 21 (.call { callee := .value (Tm 19), args := #[Tm 20], argTypes := #[64] }), Oo 22 (.unOp .not 4 (Tm 21))]) (.cond (Tm 22) .ret .skip)) (.seq (R0 [Ld 23 3 1, Bo 24 .sub 3 (Tm 23) (Kn 2) 3, Sg 5 24]) (.seq (.block 4 (.loop (.seq (.seq (R1 [Mv 25 5, Bo 26 .geq 3 (Tm 25) (Kn 0) 3, Mv 27 26, Gm 28 3 27 true, Gm 29 5 27 true, Gx 30 64 28 29 27 true, Gl 31 3 30 27 true, Gm 32 3 27 true, Gm 33 5 27 true, Gb 34 .add 3 (Tm 33) (Kn 1) 3 27 true, Gx 35 64 32 34 27 true, Gl 36 3 35 27 true, Gb 37 .gtr 3 (Tm 31) (Tm 36) 3 27 true, Pk 38 27 (Tm 37) (Kb false)]) (.cond (Tm 38) .skip (.exit 4))) (.block 5 (R0 [Mv 39 5, Bo 40 .sub 3 (Tm 39) (Kn 1) 3, Sg 5 40]))))) (.seq (.seq (R0 [Mv 41 5, Bo 42 .lss 3 (Tm 41) (Kn 0) 3]) (.cond (Tm 42) .ret .skip)) (.seq (R0 [Ld 43 3 1, Bo 44 .sub 3 (Tm 43) (Kn 1) 3, Sg 6 44]) (.seq (.block 6 (.loop (.seq (.seq (R1 [Mv 45 3, Mv 46 6, Ix 47 64 45 46, Ld 48 3 47, Mv 49 3, Mv 50 5, Ix 51 64 49 50, Ld 52 3 51, Bo 53 .lss 3 (Tm 48) (Tm 52) 3]) (.cond (Tm 53) .skip (.exit 6))) (.block 7 (R0 [Mv 54 6, Bo 55 .sub 3 (Tm 54) (Kn 1) 3, Sg 6 55]))))) (.seq (R1 [Mv 56 3, Mv 57 5, Ix 58 64 56 57, Ld 59 3 58, Mv 60 3, Mv 61 6, Ix 62 64 60 61, Ld 63 3 62, Sg 7 59, Sg 8 63]) (.seq (R0 [Mv 64 3, Mv 65 5, Mv 66 8, Ix 67 64 64 65, Sr 3 (Tm 67) (Tm 66)]) (.seq (R0 [Mv 68 3, Mv 69 6, Mv 70 7, Ix 71 64 68 69, Sr 3 (Tm 71) (Tm 70)]) (R0 [Mv 72 3, Mv 73 5, Bo 74 .add 3 (Tm 73) (Kn 1) 3, Oo 75 (.slice 64 (Tm 72) (some (Tm 74)) none none), Cl 76 112 #[Tm 75] #[64]])))))))))))))))⟩
theorem sf111 : sfOf Try.f111 = some s111 := by kernel_rfl
theorem hb111 : hasBody Try.prog 111 = true := by kernel_rfl
def o112_0 : SO := (Mv 14 0)
def o112_1 : SO := (Mv 15 2)
def o112_2 : SO := (Mv 18 0)
def o112_3 : SO := (Mv 19 3)
def o112_4 : SO := (Ix 20 64 18 19)
def o112_5 : SO := (Ld 21 3 20)
def o112_6 : SO := (Mv 22 0)
def o112_7 : SO := (Mv 23 2)
def o112_8 : SO := (Ix 24 64 22 23)
def o112_9 : SO := (Ld 25 3 24)
def o112_10 : SO := (Ix 26 64 14 15)
def o112_11 : SO := (Mv 16 0)
def o112_12 : SO := (Mv 17 3)
def o112_13 : SO := (Sr 3 (Tm 26) (Tm 21))
def o112_14 : SO := (Ix 27 64 16 17)
def o112_15 : SO := (Sr 3 (Tm 27) (Tm 25))
def s112 : SF := ⟨28, [], (.seq (R0 [Mv 4 0, Lq 5 4 64, Bo 6 .sub 3 (Tm 5) (Kn 1) 3, Sk 2 (Kn 0), Sg 3 6]) (.block 0 (.loop (.seq (.seq (R0 [Mv 7 2, Mv 8 3, Bo 9 .lss 3 (Tm 7) (Tm 8) 3]) (.cond (Tm 9) .skip (.exit 0))) (.seq (.block 1 (.ord (.op o112_0 (.op o112_1 (.op o112_2 (.op o112_3 (.op o112_4 (.op o112_5 (.op o112_6 (.op o112_7 (.op o112_8 (.op o112_9 (.op o112_10 (.alt (.op o112_11 (.alt (.op o112_12 (.op o112_13 (.op o112_14 (.op o112_15 .done)))) (.op o112_13 (.op o112_12 (.op o112_14 (.op o112_15 .done)))))) (.alt (.op o112_12 (.alt (.op o112_11 (.op o112_13 (.op o112_14 (.op o112_15 .done)))) (.op o112_13 (.op o112_11 (.op o112_14 (.op o112_15 .done)))))) (.op o112_13 (.op o112_11 (.op o112_12 (.op o112_14 (.op o112_15 .done)))))))))))))))))))) (R0 [Mv 10 2, Bo 11 .add 3 (Tm 10) (Kn 1) 3, Mv 12 3, Bo 13 .sub 3 (Tm 12) (Kn 1) 3, Sg 2 11, Sg 3 13]))))))⟩
theorem sf112 : sfOf Try.f112 = some s112 := by kernel_rfl
theorem hb112 : hasBody Try.prog 112 = true := by kernel_rfl
def s113 : SF := ⟨9, [.tmp 4], (.seq (R0 [Sk 4 (Kb false)]) (.seq (R0 [Mv 5 0, Mv 6 1, Cl 7 130 #[Tm 5, Tm 6] #[64, 202], Bo 8 .geq 3 (Tm 7) (Kn 0) 3, Sg 4 8]) .ret))⟩
theorem sf113 : sfOf Try.f113 = some s113 := by kernel_rfl
theorem hb113 : hasBody Try.prog 113 = true := by kernel_rfl
def s114 : SF := ⟨13, [.tmp 4], (.seq (R0 [Sk 4 (Kb false)]) (.seq (R0 [Mv 5 0, Ld 6 3 1, Bo 7 .lss 3 (Tm 5) (Tm 6) 3, Mv 8 7, Gm 9 0 8 false, Gl 10 3 2 8 false, Gb 11 .gtr 3 (Tm 9) (Tm 10) 3 8 false, Pk 12 8 (Kb true) (Tm 11), Sg 4 12]) .ret))⟩
theorem sf114 : sfOf Try.f114 = some s114 := by kernel_rfl
theorem hb114 : hasBody Try.prog 114 = true := by kernel_rfl
def s115 : SF := ⟨10, [.tmp 4], (.seq (R0 [Oo 2 (.box 25 (Tm 0)), Sk 4 (Kn 0)]) (.seq (.seq (R0 [Mv 5 1]) (.cond (Tm 5) (.seq (R0 [Fa 6 25 2 1, Ld 7 3 6, Sg 4 7]) .ret) .skip)) (.seq (R0 [Fa 8 25 2 0, Ld 9 3 8, Sg 4 9]) .ret)))⟩
theorem sf115 : sfOf Try.f115 = some s115 := by kernel_rfl
theorem hb115 : hasBody Try.prog 115 = true := by kernel_rfl
def s116 : SF := ⟨9, [.tmp 4], (.seq (R0 [Sk 4 (Kb false)]) (.seq (R0 [Mv 5 0, Mv 6 1, Cl 7 131 #[Tm 5, Tm 6] #[205, 207], Bo 8 .geq 3 (Tm 7) (Kn 0) 3, Sg 4 8]) .ret))⟩
theorem sf116 : sfOf Try.f116 = some s116 := by kernel_rfl
theorem hb116 : hasBody Try.prog 116 = true := by kernel_rfl
def s117 : SF := ⟨8, [.tmp 3], (.seq (R0 [Oo 2 (.box 191 (Tm 0)), Sk 3 (Kb false)]) (.seq (R0 [Ld 4 191 1, Ld 5 191 2, Cl 6 104 #[Tm 4, Tm 5] #[191, 191], Bo 7 .gtr 3 (Tm 6) (Kn 0) 3, Sg 3 7]) .ret))⟩
theorem sf117 : sfOf Try.f117 = some s117 := by kernel_rfl
theorem hb117 : hasBody Try.prog 117 = true := by kernel_rfl
def s118 : SF := ⟨11, [.tmp 4], (.seq (R0 [Oo 2 (.box 119 (Tm 0)), Sk 4 (Kn 0)]) (.seq (R0 [Fa 5 119 2 0, Fa 6 25 5 0, Ld 7 3 6, Mv 8 1, Bo 9 .mul 3 (Tm 7) (Tm 8) 3, Bo 10 .quo 3 (Tm 9) (Kn 1000) 3, Sg 4 10]) .ret))⟩
theorem sf118 : sfOf Try.f118 = some s118 := by kernel_rfl
theorem hb118 : hasBody Try.prog 118 = true := by kernel_rfl
def s119 : SF := ⟨21, [.tmp 2], (.seq (R0 [Oo 1 (.box 168 (Tm 0)), Sk 2 (Kn 0)]) (.seq (.seq (R0 [Fa 5 168 1 0, Ld 6 113 5, Lq 7 6 113, Oo 8 (.move (Kn 0))]) (.block 0 (.loop (.seq (R0 [Bo 9 .lss 3 (Tm 8) (Tm 7) 3]) (.seq (.cond (Tm 9) .skip (.exit 0)) (.seq (.block 1 (.seq (R0 [Ix 10 113 6 8, Ld 11 112 10, Oo 4 (.alloc 112), Sr 112 (Tm 4) (Tm 11)]) (.seq (R0 [Fa 12 112 4 0, Ld 13 3 12, Fa 14 168 1 1, Ld 15 3 14, Bo 16 .leq 3 (Tm 13) (Tm 15) 3]) (.cond (Tm 16) (R0 [Fa 17 112 4 1, Ld 18 3 17, Sg 2 18]) .skip)))) (R0 [Bo 19 .add 3 (Tm 8) (Kn 1) 3, Mv 8 19]))))))) (.seq (R0 [Mv 20 2, Sg 2 20]) .ret)))⟩
theorem sf119 : sfOf Try.f119 = some s119 := by kernel_rfl
theorem hb119 : hasBody Try.prog 119 = true := by kernel_rfl
def s120 : SF := ⟨13, [.tmp 2], (.seq (R0 [Oo 1 (.box 119 (Tm 0)), Sk 2 (Kb false)]) (.seq (R0 [Fa 3 119 1 0, Ld 4 25 3, Cl 5 121 #[Tm 4, Kn 0, Kn 20000000] #[25, 3, 3], Oo 6 (.unOp .not 4 (Tm 5)), Mv 7 6, Gf 8 119 1 1 7 false, Gl 9 25 8 7 false, Gc 10 121 #[Tm 9, Kn 0, Kn 100000] #[25, 3, 3] 7 false, Og 11 (.unOp .not 4 (Tm 10)) 7 false, Pk 12 7 (Kb true) (Tm 11), Sg 2 12]) .ret))⟩
theorem sf120 : sfOf Try.f120 = some s120 := by kernel_rfl
theorem hb120 : hasBody Try.prog 120 = true := by kernel_rfl
def s121 : SF := ⟨22, [.tmp 6], (.seq (R0 [Oo 3 (.box 25 (Tm 0)), Sk 6 (Kb false)]) (.seq (R0 [Mv 7 1, Mv 8 2, Fa 9 25 3 0, Ld 10 3 9, Fa 11 25 3 1, Ld 12 3 11, Oo 13 (.buildSlice 64 2 #[(0, (Tm 10)), (1, (Tm 12))]), Cl 14 123 #[Tm 7, Tm 8, Tm 13] #[3, 3, 64], Mv 15 14, Gf 16 25 3 0 15 true, Gl 17 3 16 15 true, Gf 18 25 3 1 15 true, Gl 19 3 18 15 true, Gb 20 .leq 3 (Tm 17) (Tm 19) 3 15 true, Pk 21 15 (Tm 20) (Kb false), Sg 6 21]) .ret))⟩
theorem sf121 : sfOf Try.f121 = some s121 := by kernel_rfl
theorem hb121 : hasBody Try.prog 121 = true := by kernel_rfl
def s122 : SF := ⟨9, [.tmp 4], (.seq (R0 [Sk 4 (Kb false)]) (.seq (R0 [Mv 5 0, Mv 6 1, Cl 7 132 #[Tm 5, Tm 6] #[117, 209], Bo 8 .geq 3 (Tm 7) (Kn 0) 3, Sg 4 8]) .ret))⟩
theorem sf122 : sfOf Try.f122 = some s122 := by kernel_rfl
theorem hb122 : hasBody Try.prog 122 = true := by kernel_rfl
def s123 : SF := ⟨11, [.tmp 6], (.seq (R0 [Oo 3 (.box 3 (Tm 0)), Oo 4 (.box 3 (Tm 1)), Sk 6 (Kb false)]) (.seq (R0 [Mv 7 2, Oo 8 (.makeFunc (.func 133) #[] #[Tm 3, Tm 4]), Cl 9 113 #[Tm 7, Tm 8] #[64, 202], Oo 10 (.unOp .not 4 (Tm 9)), Sg 6 10]) .ret))⟩
theorem sf123 : sfOf Try.f123 = some s123 := by kernel_rfl
theorem hb123 : hasBody Try.prog 123 = true := by kernel_rfl
def s125 : SF := ⟨15, [.tmp 2], (.seq (R0 [Oo 1 (.box 27 (Tm 0)), Oo 2 (.assign (.const (.map none)))]) (.seq (R0 [Oo 3 (.makeMap 214 none), Fa 4 27 1 0, Ld 5 3 4, Fa 6 27 1 1, Ld 7 3 6, Oo 8 (.build 128 #[(0, (Tm 5)), (1, (Tm 7))]), ⟨none, .insert 214 (Tm 3) (Kb false) (Tm 8), none⟩, Fa 9 27 1 1, Ld 10 3 9, Fa 11 27 1 0, Ld 12 3 11, Oo 13 (.build 128 #[(0, (Tm 10)), (1, (Tm 12))]), ⟨none, .insert 214 (Tm 3) (Kb true) (Tm 13), none⟩, Mv 14 3, Sg 2 14]) .ret))⟩
theorem sf125 : sfOf Try.f125 = some s125 := by kernel_rfl
theorem hb125 : hasBody Try.prog 125 = true := by kernel_rfl
def s126 : SF := ⟨37, [], (.seq (R0 [Oo 6 (.move (Kn 0))]) (.block 0 (.loop (.seq (R0 [Bo 7 .lss 3 (Tm 6) (Kn 2) 3]) (.seq (.cond (Tm 7) .skip (.exit 0)) (.seq (.block 1 (.seq (R0 [Mv 8 6, Sg 4 8]) (.seq (R0 [Sk 5 (Kn 1)]) (.block 2 (.loop (.seq (.seq (R0 [Mv 9 5, Bo 10 .mul 3 (Kn 2) (Tm 9) 3, Mv 11 4, Ix 12 128 1 11, Ld 13 3 12, Bo 14 .leq 3 (Tm 10) (Tm 13) 3]) (.cond (Tm 14) .skip (.exit 2))) (.seq (.block 3 (.seq (R0 [Ld 17 137 2, Mv 18 4, Nk 19 17, Fa 20 177 19 1, Ix 21 175 20 18, Ld 22 64 21, Mv 23 5, Ix 24 64 22 23, Ld 25 3 24, Mv 26 5, Bo 27 .eql 3 (Tm 25) (Tm 26) 3, Mv 28 27, Gm 29 0 28 true, Gm 30 4 28 true, Gm 31 5 28 true, Og 32 (.build 134 #[(0, (Tm 30)), (1, (Tm 31))]) 28 true, Og 33 (.call { callee := .value (Tm 29), args := #[Tm 32], argTypes := #[134] }) 28 true, Og 34 (.unOp .not 4 (Tm 33)) 28 true, Pk 35 28 (Tm 34) (Kb false)]) (.cond (Tm 35) .ret .skip))) (R0 [Mv 15 5, Bo 16 .add 3 (Tm 15) (Kn 1) 3, Sg 5 16])))))))) (R0 [Bo 36 .add 3 (Tm 6) (Kn 1) 3, Mv 6 36])))))))⟩
theorem sf126 : sfOf Try.f126 = some s126 := by kernel_rfl
theorem hb126 : hasBody Try.prog 126 = true := by kernel_rfl
def s127 : SF := ⟨9, [.tmp 4], (.seq (R0 [Sk 4 (Kb false)]) (.seq (R0 [Mv 5 0, Mv 6 1, Cl 7 136 #[Tm 5, Tm 6] #[35, 218], Bo 8 .geq 3 (Tm 7) (Kn 0) 3, Sg 4 8]) .ret))⟩
theorem sf127 : sfOf Try.f127 = some s127 := by kernel_rfl
theorem hb127 : hasBody Try.prog 127 = true := by kernel_rfl
def s128 : SF := ⟨10, [.tmp 2], (.seq (R0 [Oo 1 (.box 83 (Tm 0)), Sk 2 (Kb false)]) (.seq (R0 [Fa 3 83 1 0, Ld 4 3 3, Fa 5 83 1 1, Ld 6 3 5, Oo 7 (.buildSlice 64 2 #[(0, (Tm 4)), (1, (Tm 6))]), Cl 8 85 #[Kn 0, Kn 140, Tm 7] #[3, 3, 64], Oo 9 (.unOp .not 4 (Tm 8)), Sg 2 9]) .ret))⟩
theorem sf128 : sfOf Try.f128 = some s128 := by kernel_rfl
theorem hb128 : hasBody Try.prog 128 = true := by kernel_rfl
def s129 : SF := ⟨19, [.tmp 4], (.seq (R0 [Sk 4 (Kn 0)]) (.seq (.seq (R0 [Mv 6 0, Lq 7 6 55, Oo 8 (.move (Kn 0))]) (.block 0 (.loop (.seq (R0 [Bo 9 .lss 3 (Tm 8) (Tm 7) 3]) (.seq (.cond (Tm 9) .skip (.exit 0)) (.seq (.block 1 (.seq (R0 [Mv 10 8, Sg 5 10]) (.seq (R0 [Mv 11 1, Mv 12 0, Mv 13 5, Ix 14 55 12 13, Ld 15 99 14, Oo 16 (.call { callee := .value (Tm 11), args := #[Tm 15], argTypes := #[99] })]) (.cond (Tm 16) (.seq (R0 [Mv 17 5, Sg 4 17]) .ret) .skip)))) (R0 [Bo 18 .add 3 (Tm 8) (Kn 1) 3, Mv 8 18]))))))) (.seq (R0 [Sk 4 (Kn (-1))]) .ret)))⟩
theorem sf129 : sfOf Try.f129 = some s129 := by kernel_rfl
theorem hb129 : hasBody Try.prog 129 = true := by kernel_rfl
def s130 : SF := ⟨19, [.tmp 4], (.seq (R0 [Sk 4 (Kn 0)]) (.seq (.seq (R0 [Mv 6 0, Lq 7 6 64, Oo 8 (.move (Kn 0))]) (.block 0 (.loop (.seq (R0 [Bo 9 .lss 3 (Tm 8) (Tm 7) 3]) (.seq (.cond (Tm 9) .skip (.exit 0)) (.seq (.block 1 (.seq (R0 [Mv 10 8, Sg 5 10]) (.seq (R0 [Mv 11 1, Mv 12 0, Mv 13 5, Ix 14 64 12 13, Ld 15 3 14, Oo 16 (.call { callee := .value (Tm 11), args := #[Tm 15], argTypes := #[3] })]) (.cond (Tm 16) (.seq (R0 [Mv 17 5, Sg 4 17]) .ret) .skip)))) (R0 [Bo 18 .add 3 (Tm 8) (Kn 1) 3, Mv 8 18]))))))) (.seq (R0 [Sk 4 (Kn (-1))]) .ret)))⟩
theorem sf130 : sfOf Try.f130 = some s130 := by kernel_rfl
theorem hb130 : hasBody Try.prog 130 = true := by kernel_rfl
def s131 : SF := ⟨19, [.tmp 4], (.seq (R0 [Sk 4 (Kn 0)]) (.seq (.seq (R0 [Mv 6 0, Lq 7 6 205, Oo 8 (.move (Kn 0))]) (.block 0 (.loop (.seq (R0 [Bo 9 .lss 3 (Tm 8) (Tm 7) 3]) (.seq (.cond (Tm 9) .skip (.exit 0)) (.seq (.block 1 (.seq (R0 [Mv 10 8, Sg 5 10]) (.seq (R0 [Mv 11 1, Mv 12 0, Mv 13 5, Ix 14 205 12 13, Ld 15 191 14, Oo 16 (.call { callee := .value (Tm 11), args := #[Tm 15], argTypes := #[191] })]) (.cond (Tm 16) (.seq (R0 [Mv 17 5, Sg 4 17]) .ret) .skip)))) (R0 [Bo 18 .add 3 (Tm 8) (Kn 1) 3, Mv 8 18]))))))) (.seq (R0 [Sk 4 (Kn (-1))]) .ret)))⟩
theorem sf131 : sfOf Try.f131 = some s131 := by kernel_rfl
theorem hb131 : hasBody Try.prog 131 = true := by kernel_rfl
end Go.Dw.Seat
end
section
namespace Go.Dw.Seat
open Go Go.Dw Go.Proofs
def s132 : SF := ⟨19, [.tmp 4], (.seq (R0 [Sk 4 (Kn 0)]) (.seq (.seq (R0 [Mv 6 0, Lq 7 6 117, Oo 8 (.move (Kn 0))]) (.block 0 (.loop (.seq (R0 [Bo 9 .lss 3 (Tm 8) (Tm 7) 3]) (.seq (.cond (Tm 9) .skip (.exit 0)) (.seq (.block 1 (.seq (R0 [Mv 10 8, Sg 5 10]) (.seq (R0 [Mv 11 1, Mv 12 0, Mv 13 5, Ix 14 117 12 13, Ld 15 119 14, Oo 16 (.call { callee := .value (Tm 11), args := #[Tm 15], argTypes := #[119] })]) (.cond (Tm 16) (.seq (R0 [Mv 17 5, Sg 4 17]) .ret) .skip)))) (R0 [Bo 18 .add 3 (Tm 8) (Kn 1) 3, Mv 8 18]))))))) (.seq (R0 [Sk 4 (Kn (-1))]) .ret)))⟩
theorem sf132 : sfOf Try.f132 = some s132 := by kernel_rfl
theorem hb132 : hasBody Try.prog 132 = true := by kernel_rfl
def s133 : SF := ⟨13, [.tmp 4], (.seq (R0 [Sk 4 (Kb false)]) (.seq (R0 [Mv 5 0, Ld 6 3 1, Bo 7 .lss 3 (Tm 5) (Tm 6) 3, Mv 8 7, Gm 9 0 8 false, Gl 10 3 2 8 false, Gb 11 .gtr 3 (Tm 9) (Tm 10) 3 8 false, Pk 12 8 (Kb true) (Tm 11), Sg 4 12]) .ret))⟩
theorem sf133 : sfOf Try.f133 = some s133 := by kernel_rfl
theorem hb133 : hasBody Try.prog 133 = true := by kernel_rfl
def s136 : SF := ⟨19, [.tmp 4], (.seq (R0 [Sk 4 (Kn 0)]) (.seq (.seq (R0 [Mv 6 0, Lq 7 6 35, Oo 8 (.move (Kn 0))]) (.block 0 (.loop (.seq (R0 [Bo 9 .lss 3 (Tm 8) (Tm 7) 3]) (.seq (.cond (Tm 9) .skip (.exit 0)) (.seq (.block 1 (.seq (R0 [Mv 10 8, Sg 5 10]) (.seq (R0 [Mv 11 1, Mv 12 0, Mv 13 5, Ix 14 35 12 13, Ld 15 83 14, Oo 16 (.call { callee := .value (Tm 11), args := #[Tm 15], argTypes := #[83] })]) (.cond (Tm 16) (.seq (R0 [Mv 17 5, Sg 4 17]) .ret) .skip)))) (R0 [Bo 18 .add 3 (Tm 8) (Kn 1) 3, Mv 8 18]))))))) (.seq (R0 [Sk 4 (Kn (-1))]) .ret)))⟩
theorem sf136 : sfOf Try.f136 = some s136 := by kernel_rfl
theorem hb136 : hasBody Try.prog 136 = true := by kernel_rfl
end Go.Dw.Seat
end
section
namespace Go.Dw.Seat
open Go Go.Dw Go.Proofs Go.IntWalk
theorem qA : type_of% @DW.seq := @DW.seq
theorem qB : type_of% @DW.block := @DW.block
theorem qC : type_of% @DW.skip := @DW.skip
theorem qD : type_of% @DW.exit := @DW.exit
theorem qE : type_of% @DW.ret := @DW.ret
theorem qF : type_of% @DW.reg := @DW.reg
theorem qG : type_of% @DW.cond_tt := @DW.cond_tt
theorem qH : type_of% @DW.cond_ff := @DW.cond_ff
theorem qI : type_of% @DW.cond := @DW.cond
theorem qJ : type_of% @g_split := @g_split
theorem qK : type_of% @call_c := @call_c
theorem qL : type_of% @DW.dreg := @DW.dreg
theorem qM : type_of% @retS_of := @retS_of
theorem qN : type_of% @bm_box := @bm_box
theorem qO : type_of% @bm_row := @bm_row
theorem qP : type_of% @bk_box := @bk_box
theorem qQ : type_of% @bk_row := @bk_row
theorem qR : type_of% @wkT_cons := @wkT_cons
theorem qS : type_of% @wkX_cons := @wkX_cons
theorem qTw : type_of% @wkT_nil := @wkT_nil
theorem qU : type_of% @wkX_nil := @wkX_nil
theorem qV : type_of% @ex_some := @ex_some
theorem qW : type_of% @wk_self := @wk_self
theorem qX : type_of% @wk_top := @wk_top
theorem qY : type_of% @wk_nil := @wk_nil
theorem qZ : type_of% @wkB_self := @wkB_self
theorem rA : type_of% @Int.natCast_add := @Int.natCast_add
theorem rB : type_of% @Int.natCast_one := @Int.natCast_one
theorem rC : type_of% @Int.ofNat_zero := @Int.ofNat_zero
theorem rD : type_of% @Int.natCast_zero := @Int.natCast_zero
theorem rE : type_of% @IntWalk.i64_in := @IntWalk.i64_in
theorem rF : type_of% @List.map_cons := @List.map_cons
theorem rG : type_of% @List.map_nil := @List.map_nil
end Go.Dw.Seat
end
section
set_option linter.unusedSimpArgs false
set_option maxRecDepth 100000
namespace Go.Dw.Seat
open Go Go.Dw Go.Proofs Go.IntWalk
theorem plIdxI (b : Bool) (l : List (Int)) (hl : l.length ≤ 2 ^ 36) (g : FuncId) (fs caps : List C) (p : Int → Bool) (hp : ∀ x ∈ l, DCall Try.prog g (fs.map D.c ++ [dI x] ++ caps.map D.c) [] (bD (p x)) []) : DCall Try.prog 130 [.c (.sl b 1 (rows eI l)), .c (.fn (.func g) fs caps)] [] (dI (idxI p l)) [] := by
 refine DCall.of Try.func130 sf130 hb130 (Nat.le_of_ble_eq_true rfl) (okRes_nil fun _ => rfl) ?_; simp only [s130, idxs, Nat.reduceAdd]
 repeat' (first|(with_reducible first|apply qA|apply qB|apply qC|apply qD|apply qE|apply qF)|(simp (disch:=omega) only [go_sem, simprocAttr, Blk.men, Blk.keysIn])|exact qM rfl rfl rfl|(refine qG rfl ?_)|(refine qH rfl ?_)|(refine qI rfl ?_ ?_<;>intro hc<;>(try simp only [go_sem] at hc))|(refine qJ ?_ ?_<;>intro hc<;>(try simp only [hc])<;>(try simp only [go_sem] at hc)))
 refine DW.loop (ι := { i : Nat // i ≤ l.length ∧ ∀ j u, j < i → l[j]? = some u → p u = false }) (fun i => ⟨19, [(8, dI i.1), (7, dI l.length), (1, .c (.fn (.func g) fs caps)), (0, .c (.sl b 1 (rows eI l)))], []⟩) (fun i => l.length - i.1) ⟨0, Nat.zero_le _, fun j u h => by omega⟩ ?_ ?_
 ·refine Ent.to ?_ ?_ <;> simp (disch:=omega) only [qR,qS,qTw,qU,get,Nat.reduceEqDiff,↓reduceIte,qV,qW,qX,qY,qZ,and_self,dI,i64_in,and_true,true_and,rA,rB,rC,rD]
 rintro ⟨i, hi, hij⟩
 rcases at_or l i hi with ⟨v, hv, hlt, hd⟩ | ⟨he, hd⟩
 ·have hcall := hp v (List.mem_of_getElem? hv)
  repeat' (first|(with_reducible first|apply qA|apply qB|apply qC|apply qD|apply qE|apply qF)|(simp (disch:=omega) only [go_sem, simprocAttr, Blk.men, Blk.keysIn, hd, hv, closeDs_fn, rF, rG])|exact qM rfl rfl rfl|(refine qG rfl ?_)|(refine qH rfl ?_)|(refine qI rfl ?_ ?_<;>intro hc<;>(try simp only [go_sem] at hc))|(refine qJ ?_ ?_<;>intro hc<;>(try simp only [hc])<;>(try simp only [go_sem] at hc)))
  refine call_c hcall (by decide) ?_
  simp (disch:=omega) only [go_sem,simprocAttr,Blk.men,Blk.keysIn]
  refine DW.cond rfl ?_ ?_ <;> intro hc
  ·repeat' (first|(with_reducible first|apply qA|apply qB|apply qC|apply qD|apply qE|apply qF)|(simp (disch:=omega) only [go_sem, simprocAttr, Blk.men, Blk.keysIn])|exact qM rfl rfl rfl|(refine qG rfl ?_)|(refine qH rfl ?_)|(refine qI rfl ?_ ?_<;>intro hc<;>(try simp only [go_sem] at hc))|(refine qJ ?_ ?_<;>intro hc<;>(try simp only [hc])<;>(try simp only [go_sem] at hc)))
   refine retS_of rfl ?_ rfl; simp only [oneD, St.op, get, Nat.reduceEqDiff, ↓reduceIte, Option.getD_some, bD, dI]
   simp only [idxI, idxOf_some hij hv hc]
  ·repeat' (first|(with_reducible first|apply qA|apply qB|apply qC|apply qD|apply qE|apply qF)|(simp (disch:=omega) only [go_sem, simprocAttr, Blk.men, Blk.keysIn])|exact qM rfl rfl rfl|(refine qG rfl ?_)|(refine qH rfl ?_)|(refine qI rfl ?_ ?_<;>intro hc<;>(try simp only [go_sem] at hc))|(refine qJ ?_ ?_<;>intro hc<;>(try simp only [hc])<;>(try simp only [go_sem] at hc)))
   refine ⟨⟨i + 1, by omega, fun j u hj hu => by
    rcases Nat.lt_or_ge j i with h | h
    ·exact hij j u h hu
    ·have : j = i := by omega
     subst this
     rw [hv] at hu; cases hu; exact hc⟩, ?_, Ent.to ?_ ?_⟩ <;> first | (show _ < _; (try simp only); omega) | (simp (disch:=omega) only [qR,qS,qTw,qU,get,Nat.reduceEqDiff,↓reduceIte,qV,qW,qX,qY,qZ,and_self,dI,i64_in,and_true,true_and,rA,rB,rC,rD])
 ·repeat' (first|(with_reducible first|apply qA|apply qB|apply qC|apply qD|apply qE|apply qF)|(simp (disch:=omega) only [go_sem, simprocAttr, Blk.men, Blk.keysIn, hd])|exact qM rfl rfl rfl|(refine qG rfl ?_)|(refine qH rfl ?_)|(refine qI rfl ?_ ?_<;>intro hc<;>(try simp only [go_sem] at hc))|(refine qJ ?_ ?_<;>intro hc<;>(try simp only [hc])<;>(try simp only [go_sem] at hc)))
  refine retS_of rfl ?_ rfl; simp only [oneD, St.op, get, Nat.reduceEqDiff, ↓reduceIte, Option.getD_some, bD, dI]
  simp only [idxI, idxOf_none (he ▸ hij)]
theorem plAnyI (b : Bool) (l : List (Int)) (hl : l.length ≤ 2 ^ 36) (g : FuncId) (fs caps : List C) (p : Int → Bool) (hp : ∀ x ∈ l, DCall Try.prog g (fs.map D.c ++ [dI x] ++ caps.map D.c) [] (bD (p x)) []) : DCall Try.prog 113 [.c (.sl b 1 (rows eI l)), .c (.fn (.func g) fs caps)] [] (bD (l.any p)) [] := by
 refine DCall.of Try.func113 sf113 hb113 (Nat.le_of_ble_eq_true rfl) (okRes_nil fun _ => rfl) ?_; simp only [s113, idxs, Nat.reduceAdd]
 repeat' (first|(with_reducible first|apply qA|apply qB|apply qC|apply qD|apply qE|apply qF)|(simp (disch:=omega) only [go_sem, simprocAttr, Blk.men, Blk.keysIn])|exact qM rfl rfl rfl|(refine qG rfl ?_)|(refine qH rfl ?_)|(refine qI rfl ?_ ?_<;>intro hc<;>(try simp only [go_sem] at hc))|(refine qJ ?_ ?_<;>intro hc<;>(try simp only [hc])<;>(try simp only [go_sem] at hc)))
 refine call_c (plIdxI b l hl g fs caps p hp) (by decide) ?_
 repeat' (first|(with_reducible first|apply qA|apply qB|apply qC|apply qD|apply qE|apply qF)|(simp (disch:=omega) only [go_sem, simprocAttr, Blk.men, Blk.keysIn])|exact qM rfl rfl rfl|(refine qG rfl ?_)|(refine qH rfl ?_)|(refine qI rfl ?_ ?_<;>intro hc<;>(try simp only [go_sem] at hc))|(refine qJ ?_ ?_<;>intro hc<;>(try simp only [hc])<;>(try simp only [go_sem] at hc)))
 refine retS_of rfl ?_ rfl; simp only [oneD, St.op, get, Nat.reduceEqDiff, ↓reduceIte, Option.getD_some, bD, dI]
 rw [idxI_any]
def wthn (lo hi : Int) (l : List Int) : Bool := !(l.any fun n => decide (n < lo) || decide (hi < n))
theorem wthn_one {lo hi n : Int} (h : wthn lo hi [n] = true) : lo ≤ n ∧ n ≤ hi := by
 simp [wthn] at h; omega
theorem plW1 (n lo hi : Int) (p q : Bool) : DCall Try.prog 114 [dI n, .c (.ro p [.v (.int .i64 lo)] 0), .c (.ro q [.v (.int .i64 hi)] 0)] [] (bD (decide (n < lo) || decide (hi < n))) [] := by
 refine DCall.of Try.func114 sf114 hb114 (Nat.le_of_ble_eq_true rfl) (okRes_nil fun _ => rfl) ?_; simp only [s114, idxs, Nat.reduceAdd]
 repeat' (first|(with_reducible first|apply qA|apply qB|apply qC|apply qD|apply qE|apply qF)|(simp (disch:=omega) only [go_sem, simprocAttr, Blk.men, Blk.keysIn])|exact qM rfl rfl rfl|(refine qG rfl ?_)|(refine qH rfl ?_)|(refine qI rfl ?_ ?_<;>intro hc<;>(try simp only [go_sem] at hc))|(refine qJ ?_ ?_<;>intro hc<;>(try simp only [hc])<;>(try simp only [go_sem] at hc)))
theorem plWithin (b : Bool) (lo hi : Int) (l : List Int) (hl : l.length ≤ 2 ^ 36) : DCall Try.prog 85 [dI lo, dI hi, dIs b l] [] (bD (wthn lo hi l)) [] := by
 refine DCall.of Try.func85 sf85 hb85 (Nat.le_of_ble_eq_true rfl) (okRes_nil fun _ => rfl) ?_; simp only [s85, idxs, Nat.reduceAdd]
 repeat' (first|(with_reducible first|apply qA|apply qB|apply qC|apply qD|apply qE|apply qF)|(simp (disch:=omega) only [go_sem, simprocAttr, Blk.men, Blk.keysIn])|exact qM rfl rfl rfl|(refine qG rfl ?_)|(refine qH rfl ?_)|(refine qI rfl ?_ ?_<;>intro hc<;>(try simp only [go_sem] at hc))|(refine qJ ?_ ?_<;>intro hc<;>(try simp only [hc])<;>(try simp only [go_sem] at hc)))
 (refine call_c (plAnyI b l hl 114 [] [.ro true [.v (.int .i64 lo)] 0, .ro true [.v (.int .i64 hi)] 0] (fun n => decide (n < lo) || decide (hi < n)) (fun x _ => plW1 x lo hi true true)) (by decide) ?_; simp (disch:=omega) only [go_sem,simprocAttr,Blk.men,Blk.keysIn])
 repeat' (first|(with_reducible first|apply qA|apply qB|apply qC|apply qD|apply qE|apply qF)|(simp (disch:=omega) only [go_sem, simprocAttr, Blk.men, Blk.keysIn])|exact qM rfl rfl rfl|(refine qG rfl ?_)|(refine qH rfl ?_)|(refine qI rfl ?_ ?_<;>intro hc<;>(try simp only [go_sem] at hc))|(refine qJ ?_ ?_<;>intro hc<;>(try simp only [hc])<;>(try simp only [go_sem] at hc)))
theorem wthn_yes {lo hi : Int} {l : List Int} (h : ∀ v ∈ l, lo ≤ v ∧ v ≤ hi) : wthn lo hi l = true := by
 simp only [wthn, Bool.not_eq_true', List.any_eq_false, Bool.or_eq_true, decide_eq_true_eq]
 intro v hv
 have := h v hv
 omega
theorem wthn_all {lo hi : Int} {l : List Int} (h : wthn lo hi l = true) : ∀ v ∈ l, lo ≤ v ∧ v ≤ hi := by
 simp only [wthn, Bool.not_eq_true', List.any_eq_false, Bool.or_eq_true, decide_eq_true_eq] at h
 intro v hv
 have := h v hv
 omega
theorem wthn_iff {lo hi : Int} {l : List Int} : wthn lo hi l = true ↔ ∀ v ∈ l, lo ≤ v ∧ v ≤ hi := ⟨wthn_all, wthn_yes⟩
def spanOk (lo hi least most : Int) : Bool := wthn least most [lo, hi] && decide (lo ≤ hi)
theorem spanOk_iff {lo hi least most : Int} : spanOk lo hi least most = true ↔ least ≤ lo ∧ lo ≤ hi ∧ hi ≤ most := by
 simp only [spanOk, Bool.and_eq_true, decide_eq_true_eq, wthn_iff, List.mem_cons, List.not_mem_nil, or_false, forall_eq_or_imp, forall_eq]
 omega
theorem plSpan (lo hi least most : Int) : DCall Try.prog 89 [.agg [dI lo, dI hi], dI least, dI most] [] (bD (spanOk lo hi least most)) [] := by
 have h1 := plWithin true least most [lo, hi] (by simp)
 unfold spanOk
 cases h : wthn least most [lo, hi] <;> rw [h] at h1 <;> simp only [Bool.true_and, Bool.false_and]
 ·refine DCall.of Try.func89 sf89 hb89 (Nat.le_of_ble_eq_true rfl) (okRes_nil fun _ => rfl) ?_; simp only [s89, idxs, Nat.reduceAdd]
  repeat' (first|(with_reducible first|apply qA|apply qB|apply qC|apply qD|apply qE|apply qF)|(simp (disch:=omega) only [go_sem, simprocAttr, Blk.men, Blk.keysIn])|exact qM rfl rfl rfl|(refine qG rfl ?_)|(refine qK (h1) (by decide) ?_)|(refine qH rfl ?_)|(refine qI rfl ?_ ?_<;>intro hc<;>(try simp only [go_sem] at hc))|(refine qJ ?_ ?_<;>intro hc<;>(try simp only [hc])<;>(try simp only [go_sem] at hc)))
 ·refine DCall.of Try.func89 sf89 hb89 (Nat.le_of_ble_eq_true rfl) (okRes_nil fun _ => rfl) ?_; simp only [s89, idxs, Nat.reduceAdd]
  repeat' (first|(with_reducible first|apply qA|apply qB|apply qC|apply qD|apply qE|apply qF)|(simp (disch:=omega) only [go_sem, simprocAttr, Blk.men, Blk.keysIn])|exact qM rfl rfl rfl|(refine qG rfl ?_)|(refine qK (h1) (by decide) ?_)|(refine qH rfl ?_)|(refine qI rfl ?_ ?_<;>intro hc<;>(try simp only [go_sem] at hc))|(refine qJ ?_ ?_<;>intro hc<;>(try simp only [hc])<;>(try simp only [go_sem] at hc)))
end Go.Dw.Seat
end
section
set_option linter.unusedSimpArgs false
set_option maxRecDepth 100000
namespace Go.Dw.Seat
open Go Go.Dw Go.IntWalk
def sumB (a c i : Nat) : Bool := (List.range (i / a + 1)).any fun u => (i - u * a) % c == 0
theorem sumB_iff {a c i : Nat} (ha : 0 < a) : sumB a c i = true ↔ ∃ u v, i = u * a + v * c := by
 unfold sumB
 rw [List.any_eq_true]
 constructor
 ·rintro ⟨u, hu, h⟩
  have hu := List.mem_range.1 hu
  have h1 : u * a ≤ i := Nat.le_trans (Nat.mul_le_mul_right a (show u ≤ i / a by omega)) (Nat.div_mul_le_self i a)
  have h2 := Nat.div_add_mod (i - u * a) c
  rw [beq_iff_eq] at h
  refine ⟨u, (i - u * a) / c, ?_⟩
  rw [h, Nat.add_zero, Nat.mul_comm] at h2; omega
 ·rintro ⟨u, v, rfl⟩
  refine ⟨u, List.mem_range.2 ?_, ?_⟩
  ·have : u ≤ (u * a + v * c) / a := (Nat.le_div_iff_mul_le ha).2 (by omega)
   omega
  ·rw [beq_iff_eq, Nat.add_sub_cancel_left]; exact Nat.mul_mod_left v c
theorem sumB_zero (a c : Nat) : sumB a c 0 = true := by
 unfold sumB
 rw [Nat.zero_div]
 simp
theorem sumB_add {a c i j : Nat} (ha : 0 < a) (hi : sumB a c i = true) (hj : sumB a c j = true) : sumB a c (i + j) = true := by
 obtain ⟨u, v, rfl⟩ := (sumB_iff ha).1 hi
 obtain ⟨s, t, rfl⟩ := (sumB_iff ha).1 hj
 refine (sumB_iff ha).2 ⟨u + s, v + t, ?_⟩
 rw [Nat.add_mul, Nat.add_mul]; omega
theorem sumB_a {a c : Nat} (ha : 0 < a) : sumB a c a = true := (sumB_iff ha).2 ⟨1, 0, by omega⟩
theorem sumB_c {a c : Nat} (ha : 0 < a) : sumB a c c = true := (sumB_iff ha).2 ⟨0, 1, by omega⟩
theorem sumB_rec {a c : Nat} (ha : 0 < a) {i : Nat} (hi : 0 < i) : sumB a c i = ((decide (a ≤ i) && sumB a c (i - a)) || (decide (c ≤ i) && sumB a c (i - c))) := by
 rw [Bool.eq_iff_iff]
 simp only [Bool.or_eq_true, Bool.and_eq_true, decide_eq_true_eq]
 constructor
 ·intro h
  obtain ⟨u, v, h⟩ := (sumB_iff ha).1 h
  cases u with
  | succ u =>
   rw [Nat.add_mul, Nat.one_mul] at h
   exact .inl ⟨by omega, (sumB_iff ha).2 ⟨u, v, by omega⟩⟩
  | zero =>
   cases v with
   | zero => omega
   | succ v =>
    rw [Nat.add_mul v, Nat.one_mul] at h
    exact .inr ⟨by omega, (sumB_iff ha).2 ⟨0, v, by omega⟩⟩
 ·rintro (⟨h1, h2⟩ | ⟨h1, h2⟩)
  ·have := sumB_add ha h2 (sumB_a (c := c) ha)
   rwa [Nat.sub_add_cancel h1] at this
  ·have := sumB_add ha h2 (sumB_c (c := c) ha)
   rwa [Nat.sub_add_cancel h1] at this
def rchF (a c : Nat) : Nat → Nat
 | 0 => 0
 | n + 1 => if sumB a c (n + 1) then n + 1 else rchF a c n
theorem rch_le (a c : Nat) : ∀ n, rchF a c n ≤ n
 | 0 => Nat.le_refl _
 | n + 1 => by
  have := rch_le a c n
  rw [rchF]
  split <;> omega
theorem rch_sum (a c : Nat) : ∀ n, sumB a c (rchF a c n) = true
 | 0 => sumB_zero a c
 | n + 1 => by
  rw [rchF]
  split
  ·assumption
  ·exact rch_sum a c n
theorem rch_max {a c m : Nat} : ∀ {n : Nat}, m ≤ n → sumB a c m = true → m ≤ rchF a c n
 | 0, h, _ => by omega
 | n + 1, h, hm => by
  rw [rchF]
  by_cases e : m = n + 1
  ·subst e; rw [if_pos hm]; omega
  ·split
   ·omega
   ·exact rch_max (by omega) hm
theorem rch_eq {a c n : Nat} (h : sumB a c n = true) : rchF a c n = n := Nat.le_antisymm (rch_le a c n) (rch_max (Nat.le_refl _) h)
theorem rch_idem (a c n : Nat) : rchF a c (rchF a c n) = rchF a c n := rch_eq (rch_sum a c n)
end Go.Dw.Seat
end
section
set_option linter.unusedSimpArgs false
set_option maxRecDepth 100000
namespace Go.Dw.Seat
open Go Go.Dw Go.IntWalk
def fitB (a c x y : Nat) : Bool := (decide (a ≤ x) && decide (c ≤ y)) || (decide (c ≤ x) && decide (a ≤ y))
def lnX (a c x : Nat) : List Nat := (List.range (x / 2)).filterMap fun t => if sumB a c (t + 1) then some (t + 1) else none
abbrev Ln := Bool × Nat
def lnsF (a c x y : Nat) : List Ln := (lnX a c x).map (fun t => (false, t)) ++ (lnX a c y).map (fun t => (true, t))
def oneF (x y : Nat) (l : Ln) : Nat × Nat := if l.1 then (x, l.2) else (l.2, y)
def twoF (x y : Nat) (l : Ln) : Nat × Nat := if l.1 then (x, y - l.2) else (x - l.2, y)
structure Cut where
 n : Nat
 ln : Option Ln
def stepC (g : Nat → Nat → Nat) (x y : Nat) (b : Cut) (l : Ln) : Cut :=
 if b.n < g (oneF x y l).1 (oneF x y l).2 + g (twoF x y l).1 (twoF x y l).2 then ⟨g (oneF x y l).1 (oneF x y l).2 + g (twoF x y l).1 (twoF x y l).2, some l⟩ else b
def cutF (a c : Nat) : Nat → Nat → Nat → Cut
 | 0, _, _ => ⟨0, none⟩
 | f + 1, x, y => if fitB a c (rchF a c x) (rchF a c y) then (lnsF a c (rchF a c x) (rchF a c y)).foldl (stepC (fun u v => (cutF a c f u v).n) (rchF a c x) (rchF a c y)) ⟨1, none⟩ else ⟨0, none⟩
theorem lnX_mem {a c x t : Nat} : t ∈ lnX a c x ↔ 1 ≤ t ∧ 2 * t ≤ x ∧ sumB a c t = true := by
 unfold lnX
 rw [List.mem_filterMap]
 constructor
 ·rintro ⟨u, hu, h⟩
  have hu := List.mem_range.1 hu
  split at h
  ·cases h
   rename_i h1
   exact ⟨by omega, by omega, h1⟩
  ·cases h
 ·rintro ⟨h1, h2, h3⟩
  refine ⟨t - 1, List.mem_range.2 (by omega), ?_⟩
  rw [Nat.sub_add_cancel h1, if_pos h3]
structure IsLn (a c x y : Nat) (l : Ln) : Prop where
 pos : 1 ≤ l.2
 half : 2 * l.2 ≤ (if l.1 then y else x)
 sum : sumB a c l.2 = true
theorem lns_mem {a c x y : Nat} {l : Ln} : l ∈ lnsF a c x y ↔ IsLn a c x y l := by
 obtain ⟨s, t⟩ := l
 unfold lnsF
 rw [List.mem_append, List.mem_map, List.mem_map]
 constructor
 ·rintro (⟨u, hu, h⟩ | ⟨u, hu, h⟩) <;> cases h <;> obtain ⟨h1, h2, h3⟩ := lnX_mem.1 hu
  ·exact ⟨h1, h2, h3⟩
  ·exact ⟨h1, h2, h3⟩
 ·rintro ⟨h1, h2, h3⟩
  cases s
  ·exact .inl ⟨t, lnX_mem.2 ⟨h1, h2, h3⟩, rfl⟩
  ·exact .inr ⟨t, lnX_mem.2 ⟨h1, h2, h3⟩, rfl⟩
theorem ln_less {a c x y : Nat} {l : Ln} (h : IsLn a c x y l) : (oneF x y l).1 + (oneF x y l).2 < x + y ∧ (twoF x y l).1 + (twoF x y l).2 < x + y := by
 obtain ⟨s, t⟩ := l
 have h1 := h.pos
 have h2 := h.half
 cases s <;> simp [oneF, twoF] at h1 h2 ⊢ <;> omega
theorem foldC_congr {g g' : Nat → Nat → Nat} {a c x y : Nat} : ∀ (ls : List Ln) (b : Cut), (∀ l ∈ ls, IsLn a c x y l) → (∀ u v, u + v < x + y → g u v = g' u v) → ls.foldl (stepC g x y) b = ls.foldl (stepC g' x y) b
 | [], _, _, _ => rfl
 | l :: ls, b, h, hg => by
  have hl := ln_less (h l (by simp))
  rw [List.foldl_cons, List.foldl_cons, stepC, hg _ _ hl.1, hg _ _ hl.2]
  exact foldC_congr ls _ (fun t ht => h t (by simp [ht])) hg
theorem cut_fuel (a c : Nat) : ∀ (f f' x y : Nat), x + y < f → x + y < f' → cutF a c f x y = cutF a c f' x y
 | 0, _, _, _, h, _ => by omega
 | _, 0, _, _, _, h => by omega
 | f + 1, f' + 1, x, y, h, h' => by
  rw [cutF, cutF]
  have h1 := rch_le a c x
  have h2 := rch_le a c y
  rw [foldC_congr (a := a) (c := c) (lnsF a c (rchF a c x) (rchF a c y)) ⟨1, none⟩ (fun l hl => lns_mem.1 hl) (g' := fun u v => (cutF a c f' u v).n) (fun u v huv => by rw [cut_fuel a c f f' u v (by omega) (by omega)])]
def cutI (a c x y : Nat) : Cut := cutF a c (x + y + 1) x y
def mst (a c x y : Nat) : Nat := (cutI a c x y).n
theorem cutI_eq (a c x y : Nat) : cutI a c x y = if fitB a c (rchF a c x) (rchF a c y) then (lnsF a c (rchF a c x) (rchF a c y)).foldl (stepC (mst a c) (rchF a c x) (rchF a c y)) ⟨1, none⟩ else ⟨0, none⟩ := by
 have h1 := rch_le a c x
 have h2 := rch_le a c y
 rw [cutI, cutF, foldC_congr (a := a) (c := c) (lnsF a c (rchF a c x) (rchF a c y)) ⟨1, none⟩ (fun l hl => lns_mem.1 hl) (g' := mst a c) (fun u v huv => by rw [mst, cutI, cut_fuel a c (x + y) (u + v + 1) u v (by omega) (by omega)])]
theorem cutI_rch (a c x y : Nat) : cutI a c (rchF a c x) (rchF a c y) = cutI a c x y := by rw [cutI_eq, rch_idem, rch_idem, ← cutI_eq]
def okC (g : Nat → Nat → Nat) (a c x y : Nat) (b : Cut) : Prop := match b.ln with
 | none => b.n ≤ 1
 | some l => IsLn a c x y l ∧ b.n = g (oneF x y l).1 (oneF x y l).2 + g (twoF x y l).1 (twoF x y l).2
theorem fold_ok {g : Nat → Nat → Nat} {a c x y : Nat} : ∀ (ls : List Ln) (b : Cut), (∀ l ∈ ls, IsLn a c x y l) → okC g a c x y b → okC g a c x y (ls.foldl (stepC g x y) b) ∧ b.n ≤ (ls.foldl (stepC g x y) b).n ∧ ((ls.foldl (stepC g x y) b).ln = none → (ls.foldl (stepC g x y) b) = b) ∧ ∀ l ∈ ls, g (oneF x y l).1 (oneF x y l).2 + g (twoF x y l).1 (twoF x y l).2 ≤ (ls.foldl (stepC g x y) b).n
 | [], b, _, h => ⟨h, Nat.le_refl _, fun _ => rfl, fun l hl => by cases hl⟩
 | l :: ls, b, h, hb => by
  have hl := h l (by simp)
  rw [List.foldl_cons]
  by_cases hc : b.n < g (oneF x y l).1 (oneF x y l).2 + g (twoF x y l).1 (twoF x y l).2
  ·have e : stepC g x y b l = ⟨g (oneF x y l).1 (oneF x y l).2 + g (twoF x y l).1 (twoF x y l).2, some l⟩ := if_pos hc
   rw [e]
   obtain ⟨h1, h2, h3, h4⟩ := fold_ok ls ⟨g (oneF x y l).1 (oneF x y l).2 + g (twoF x y l).1 (twoF x y l).2, some l⟩ (fun t ht => h t (by simp [ht])) ⟨hl, rfl⟩
   refine ⟨h1, by dsimp only at h2; omega, fun hn => ?_, fun t ht => ?_⟩
   ·have := h3 hn
    rw [this] at hn; cases hn
   ·rcases List.mem_cons.1 ht with rfl | ht
    ·exact h2
    ·exact h4 t ht
  ·have e : stepC g x y b l = b := if_neg hc
   rw [e]
   obtain ⟨h1, h2, h3, h4⟩ := fold_ok ls b (fun t ht => h t (by simp [ht])) hb
   refine ⟨h1, h2, h3, fun t ht => ?_⟩
   rcases List.mem_cons.1 ht with rfl | ht
   ·omega
   ·exact h4 t ht
inductive CutOk (a c x y : Nat) : Prop where
 | no : fitB a c (rchF a c x) (rchF a c y) = false → cutI a c x y = ⟨0, none⟩ → CutOk a c x y
 | one : fitB a c (rchF a c x) (rchF a c y) = true → cutI a c x y = ⟨1, none⟩ → CutOk a c x y
 | two (l : Ln) : fitB a c (rchF a c x) (rchF a c y) = true → (cutI a c x y).ln = some l → IsLn a c (rchF a c x) (rchF a c y) l → 1 ≤ mst a c x y → mst a c x y = mst a c (oneF (rchF a c x) (rchF a c y) l).1 (oneF (rchF a c x) (rchF a c y) l).2 + mst a c (twoF (rchF a c x) (rchF a c y) l).1 (twoF (rchF a c x) (rchF a c y) l).2 → CutOk a c x y
theorem cut_ok (a c x y : Nat) : CutOk a c x y := by
 have h := cutI_eq a c x y
 cases hf : fitB a c (rchF a c x) (rchF a c y) with
 | false => rw [hf, if_neg Bool.false_ne_true] at h; exact .no hf h
 | true =>
  rw [hf, if_pos rfl] at h
  obtain ⟨h1, h2, h3, _⟩ := fold_ok (g := mst a c) (lnsF a c (rchF a c x) (rchF a c y)) ⟨1, none⟩ (fun l hl => lns_mem.1 hl) (show okC (mst a c) a c _ _ ⟨1, none⟩ from Nat.le_refl _)
  rw [← h] at h1 h2 h3
  cases hn : (cutI a c x y).ln with
  | none => exact .one hf (h3 hn)
  | some l =>
   unfold okC at h1
   rw [hn] at h1
   exact .two l hf hn h1.1 h2 h1.2
theorem mst_no {a c x y : Nat} (h : fitB a c (rchF a c x) (rchF a c y) = false) : mst a c x y = 0 := by
 rw [mst, cutI_eq, h, if_neg Bool.false_ne_true]
theorem mst_area {a c : Nat} : ∀ (n x y : Nat), x + y < n → mst a c x y * (a * c) ≤ rchF a c x * rchF a c y
 | 0, _, _, h => by omega
 | n + 1, x, y, h => by
  have l1 := rch_le a c x
  have l2 := rch_le a c y
  cases cut_ok a c x y with
  | no h0 e => rw [mst_no h0, Nat.zero_mul]; omega
  | one h0 e =>
   have e1 : mst a c x y = 1 := by rw [mst, e]
   rw [e1, Nat.one_mul]
   simp only [fitB, Bool.or_eq_true, Bool.and_eq_true, decide_eq_true_eq] at h0
   rcases h0 with h0 | h0
   ·exact Nat.mul_le_mul h0.1 h0.2
   ·rw [Nat.mul_comm a]; exact Nat.mul_le_mul h0.1 h0.2
  | two l h0 e hl h1' e2 =>
   have hls := ln_less hl
   rw [e2, Nat.add_mul]
   have i1 := mst_area (a := a) (c := c) n (oneF (rchF a c x) (rchF a c y) l).1 (oneF (rchF a c x) (rchF a c y) l).2 (by omega)
   have i2 := mst_area (a := a) (c := c) n (twoF (rchF a c x) (rchF a c y) l).1 (twoF (rchF a c x) (rchF a c y) l).2 (by omega)
   have j1 := Nat.mul_le_mul (rch_le a c (oneF (rchF a c x) (rchF a c y) l).1) (rch_le a c (oneF (rchF a c x) (rchF a c y) l).2)
   have j2 := Nat.mul_le_mul (rch_le a c (twoF (rchF a c x) (rchF a c y) l).1) (rch_le a c (twoF (rchF a c x) (rchF a c y) l).2)
   refine Nat.le_trans (Nat.add_le_add (Nat.le_trans i1 j1) (Nat.le_trans i2 j2)) ?_
   obtain ⟨d, v⟩ := l
   have hh := hl.half
   cases d
   ·simp only [oneF, twoF, Bool.false_eq_true, if_false] at hh ⊢
    rw [← Nat.add_mul, Nat.add_sub_cancel' (by omega)]; exact Nat.le_refl _
   ·simp only [oneF, twoF, if_true] at hh ⊢
    rw [← Nat.mul_add, Nat.add_sub_cancel' (by omega)]; exact Nat.le_refl _
def bndF (a c x y : Nat) : Nat := rchF a c x * rchF a c y / (a * c)
theorem mst_bnd {a c : Nat} (ha : 0 < a) (hc : 0 < c) (x y : Nat) : mst a c x y ≤ bndF a c x y := (Nat.le_div_iff_mul_le (Nat.mul_pos ha hc)).2 (mst_area (x + y + 1) x y (by omega))
end Go.Dw.Seat
end
section
set_option linter.unusedSimpArgs false
set_option maxRecDepth 100000
namespace Go.Dw.Seat
open Go Go.Dw Go.IntWalk
structure PBs where
 lg : Int
 wd : Int
 hi : Int
 ov : Int
 top : Int
 load : Int
structure PBx where
 lg : Int
 wd : Int
 hi : Int
 wl : Int
 wh : Int
 sl : Int
 sh : Int
structure PPl where
 x : Int
 y : Int
 t : Bool
deriving DecidableEq
structure PBs.ok (p : PBs) : Prop where
 lg : 1 ≤ p.lg ∧ p.lg ≤ 120
 wd : 1 ≤ p.wd ∧ p.wd ≤ 120
 hi : 0 ≤ p.hi ∧ p.hi ≤ 400
 top : 0 ≤ p.top ∧ p.top ≤ 400
 ov : 0 ≤ p.ov ∧ p.ov ≤ 10
 load : 0 ≤ p.load ∧ p.load ≤ 5000000
structure PBx.ok (b : PBx) : Prop where
 lg : 10 ≤ b.lg ∧ b.lg ≤ 100
 wd : 10 ≤ b.wd ∧ b.wd ≤ 100
 hi : 10 ≤ b.hi ∧ b.hi ≤ 100
 w : 0 ≤ b.wl ∧ b.wl ≤ b.wh ∧ b.wh ≤ 5000000
 s : 0 ≤ b.sl ∧ b.sl ≤ b.sh ∧ b.sh ≤ 20000000
def rmX (p : PBs) : Int := p.lg + 2 * p.ov
def rmY (p : PBs) : Int := p.wd + 2 * p.ov
def sdX (b : PBx) (q : PPl) : Int := if q.t then b.wd else b.lg
def sdY (b : PBx) (q : PPl) : Int := if q.t then b.lg else b.wd
def ovI (x a y c : Int) : Int := max 0 (min (x + a) (y + c) - max x y)
def comI (b : PBx) (q r : PPl) : Int := ovI q.x (sdX b q) r.x (sdX b r) * ovI q.y (sdY b q) r.y (sdY b r)
def outB (p : PBs) (b : PBx) (q : PPl) : Bool := decide (rmX p < q.x + sdX b q) || decide (rmY p < q.y + sdY b q)
def intoB (b : PBx) (q : PPl) (l : List PPl) : Bool := l.any fun r => decide (0 < comI b q r)
def faultF (p : PBs) (b : PBx) : List PPl → List PPl → Nat × Int
 | _, [] => (0, 0)
 | pre, q :: l => if outB p b q then (pre.length, 1) else if intoB b q pre then (pre.length, 2) else faultF p b (pre ++ [q]) l
def fltF (p : PBs) (b : PBx) (l : List PPl) : Nat × Int := faultF p b [] l
structure Lies (p : PBs) (b : PBx) (l : List PPl) : Prop where
 inn : ∀ q ∈ l, q.x + sdX b q ≤ rmX p ∧ q.y + sdY b q ≤ rmY p
 off : l.Pairwise fun q r => comI b r q ≤ 0
theorem ov_nn (x a y c : Int) : 0 ≤ ovI x a y c := by unfold ovI; omega
theorem ov_pos {x a y c : Int} : 0 < ovI x a y c ↔ (0 < a ∧ 0 < c) ∧ x < y + c ∧ y < x + a := by unfold ovI; omega
theorem ov_le (x a y c : Int) (ha : 0 ≤ a) : ovI x a y c ≤ a := by unfold ovI; omega
theorem com_pos {b : PBx} {q r : PPl} : 0 < comI b q r ↔ 0 < ovI q.x (sdX b q) r.x (sdX b r) ∧ 0 < ovI q.y (sdY b q) r.y (sdY b r) := by
 have h1 := ov_nn q.x (sdX b q) r.x (sdX b r)
 have h2 := ov_nn q.y (sdY b q) r.y (sdY b r)
 unfold comI
 constructor
 ·intro h
  rcases Int.lt_or_eq_of_le h1 with h3 | h3
  ·rcases Int.lt_or_eq_of_le h2 with h4 | h4
   ·exact ⟨h3, h4⟩
   ·rw [← h4, Int.mul_zero] at h; omega
  ·rw [← h3, Int.zero_mul] at h; omega
 ·rintro ⟨h3, h4⟩; exact Int.mul_pos h3 h4
theorem flt_ok (p : PBs) (b : PBx) : ∀ (l pre : List PPl), (faultF p b pre l).2 = 0 ↔ (∀ q ∈ l, outB p b q = false) ∧ (∀ q ∈ l, intoB b q pre = false) ∧ l.Pairwise fun q r => comI b r q ≤ 0
 | [], pre => by simp [faultF]
 | q :: l, pre => by
  rw [faultF]
  have ih := flt_ok p b l (pre ++ [q])
  cases h1 : outB p b q with
  | true => simp [h1]
  | false =>
   cases h2 : intoB b q pre with
   | true => simp [h2]
   | false =>
    rw [if_neg Bool.false_ne_true, if_neg Bool.false_ne_true, ih]
    have hap : ∀ r, intoB b r (pre ++ [q]) = (intoB b r pre || decide (0 < comI b r q)) := fun r => by simp [intoB]
    simp only [List.mem_cons, forall_eq_or_imp, h1, h2, true_and, List.pairwise_cons, hap, Bool.or_eq_false_iff, decide_eq_false_iff_not, Int.not_lt]
    constructor
    ·rintro ⟨a1, a2, a3⟩
     exact ⟨a1, fun r hr => (a2 r hr).1, fun r hr => (a2 r hr).2, a3⟩
    ·rintro ⟨a1, a2, a3, a4⟩
     exact ⟨a1, fun r hr => ⟨a2 r hr, a3 r hr⟩, a4⟩
theorem out_iff {p : PBs} {b : PBx} {q : PPl} : outB p b q = false ↔ q.x + sdX b q ≤ rmX p ∧ q.y + sdY b q ≤ rmY p := by
 simp only [outB, Bool.or_eq_false_iff, decide_eq_false_iff_not, Int.not_lt]
theorem flt_lies {p : PBs} {b : PBx} {l : List PPl} : (fltF p b l).2 = 0 ↔ Lies p b l := by
 rw [fltF, flt_ok]
 constructor
 ·rintro ⟨h1, _, h3⟩; exact ⟨fun q hq => out_iff.1 (h1 q hq), h3⟩
 ·rintro ⟨h1, h3⟩; exact ⟨fun q hq => out_iff.2 (h1 q hq), fun q _ => by simp [intoB], h3⟩
theorem side_pos {b : PBx} (hb : b.ok) (q : PPl) : (10 ≤ sdX b q ∧ sdX b q ≤ 100) ∧ 10 ≤ sdY b q ∧ sdY b q ≤ 100 := by
 have := hb.lg
 have := hb.wd
 unfold sdX sdY
 cases q.t <;> simp <;> omega
end Go.Dw.Seat
end
section
set_option linter.unusedSimpArgs false
set_option maxRecDepth 100000
namespace Go.Dw.Seat
open Go Go.Dw Go.Proofs Go.IntWalk
abbrev bsD (p : PBs) : D := .agg [dI p.lg, dI p.wd, dI p.hi, dI p.ov, dI p.top, dI p.load]
abbrev bxD (b : PBx) : D := .agg [dI b.lg, dI b.wd, dI b.hi, dI b.wl, dI b.wh, dI b.sl, dI b.sh]
abbrev bedD (p : PBs) (b : PBx) : D := .agg [dI p.lg, dI p.wd, dI p.hi, dI p.ov, dI p.top, dI p.load, dI b.lg, dI b.wd, dI b.hi, dI b.wl, dI b.wh, dI b.sl, dI b.sh]
abbrev noneBed : D := .agg [dI 0, dI 0, dI 0, dI 0, dI 0, dI 0, dI 0, dI 0, dI 0, dI 0, dI 0, dI 0, dI 0]
def eP (q : PPl) : List C := [.v (.int .i64 q.x), .v (.int .i64 q.y), .v (.bool q.t)]
theorem eP_nb (q : PPl) : C.nbs (eP q) = true := rfl
attribute [go_sem] eP
abbrev plD (q : PPl) : D := .agg ((eP q).map D.c)
abbrev lyD (b : Bool) (l : List PPl) : D := .c (.sl b 3 (rows eP l))
def baseB (p : PBs) : Bool := ((wthn 1 120 [p.lg, p.wd] && wthn 0 400 [p.hi, p.top]) && wthn 0 10 [p.ov]) && wthn 0 5000000 [p.load]
def boxB (b : PBx) : Bool := (wthn 10 100 [b.lg, b.wd, b.hi] && spanOk b.wl b.wh 0 5000000) && spanOk b.sl b.sh 0 20000000
def chkE (p : PBs) (b : PBx) : Int := if baseB p && boxB b then 0 else 2
theorem baseB_iff {p : PBs} : baseB p = true ↔ p.ok := by
 simp only [baseB, Bool.and_eq_true, wthn_iff, List.mem_cons, List.not_mem_nil, or_false, forall_eq_or_imp, forall_eq]
 constructor
 ·rintro ⟨⟨⟨h1, h2⟩, h3⟩, h4⟩; exact ⟨h1.1, h1.2, h2.1, h2.2, h3, h4⟩
 ·rintro ⟨h1, h2, h3, h4, h5, h6⟩; exact ⟨⟨⟨⟨h1, h2⟩, h3, h4⟩, h5⟩, h6⟩
theorem boxB_iff {b : PBx} : boxB b = true ↔ b.ok := by
 simp only [boxB, Bool.and_eq_true, wthn_iff, spanOk_iff, List.mem_cons, List.not_mem_nil, or_false, forall_eq_or_imp, forall_eq]
 constructor
 ·rintro ⟨⟨h1, h2⟩, h3⟩; exact ⟨h1.1, h1.2.1, h1.2.2, h2, h3⟩
 ·rintro ⟨h1, h2, h3, h4, h5⟩; exact ⟨⟨⟨h1, h2, h3⟩, h4⟩, h5⟩
theorem chk_ok {p : PBs} {b : PBx} : chkE p b = 0 ↔ p.ok ∧ b.ok := by
 unfold chkE
 rw [← baseB_iff, ← boxB_iff, ← Bool.and_eq_true]
 split <;> simp_all
theorem chk_two {p : PBs} {b : PBx} (h : chkE p b ≠ 0) : chkE p b = 2 := by
 unfold chkE at h ⊢
 split at h <;> simp_all
set_option maxHeartbeats 1000000 in
theorem plCheck (p : PBs) (b : PBx) : DCall Try.prog 47 [bsD p, bxD b] [] (dI (chkE p b)) [] := by
 have h1 := plWithin true 1 120 [p.lg, p.wd] (by simp)
 have h2 := plWithin true 0 400 [p.hi, p.top] (by simp)
 have h3 := plWithin true 0 10 [p.ov] (by simp)
 have h4 := plWithin true 0 5000000 [p.load] (by simp)
 have h5 := plWithin true 10 100 [b.lg, b.wd, b.hi] (by simp)
 have h6 := plSpan b.wl b.wh 0 5000000
 have h7 := plSpan b.sl b.sh 0 20000000
 unfold chkE baseB boxB
 generalize wthn 1 120 [p.lg, p.wd] = w1 at *
 generalize wthn 0 400 [p.hi, p.top] = w2 at *
 generalize wthn 0 10 [p.ov] = w3 at *
 generalize wthn 0 5000000 [p.load] = w4 at *
 generalize wthn 10 100 [b.lg, b.wd, b.hi] = w5 at *
 generalize spanOk b.wl b.wh 0 5000000 = w6 at *
 generalize spanOk b.sl b.sh 0 20000000 = w7 at *
 refine DCall.of Try.func47 sf47 hb47 (Nat.le_of_ble_eq_true rfl) (okRes_nil fun _ => rfl) ?_; simp only [s47, idxs, Nat.reduceAdd]
 repeat' (first|(with_reducible first|apply qA|apply qB|apply qC|apply qD|apply qE|apply qF)|(simp (disch:=omega) only [go_sem, simprocAttr, Blk.men, Blk.keysIn])|exact qM rfl rfl rfl|(refine qG rfl ?_)|(refine qK (h1) (by decide) ?_)|(refine qK (h2) (by decide) ?_)|(refine qK (h3) (by decide) ?_)|(refine qK (h4) (by decide) ?_)|(refine qK (h5) (by decide) ?_)|(refine qK (h6) (by decide) ?_)|(refine qK (h7) (by decide) ?_)|(refine qH rfl ?_)|(refine qI rfl ?_ ?_<;>intro hc<;>(try simp only [go_sem] at hc))|(refine qJ ?_ ?_<;>intro hc<;>(try simp only [hc])<;>(try simp only [go_sem] at hc)))
 all_goals (subst_vars; first | exact retS_of rfl rfl rfl | (cases w7 <;> first | contradiction | exact retS_of rfl rfl rfl))
abbrev szB (b : PBx) : Blk := .map [.bool false, .bool true] [.agg [dI b.lg, dI b.wd], .agg [dI b.wd, dI b.lg]]
theorem plSizes (b : PBx) (k : Nat) : DCall Try.prog 125 [bxD b] [] (.hd k) [(k, szB b)] := by
 refine DCall.renameM rfl (k0 := 3) ?_ k
 refine DCall.of Try.func125 sf125 hb125 (Nat.le_of_ble_eq_true rfl) (okRes_map rfl) ?_
 simp only [s125, idxs, Nat.reduceAdd]
 repeat' (first|(with_reducible first|apply qA|apply qB|apply qC|apply qD|apply qE|apply qF)|(simp (disch:=omega) only [go_sem, simprocAttr, Blk.men, Blk.keysIn, s_insert, updK, findL, keyEq, keysOK, KK.is, List.all_nil, List.all_cons, lookIn, commaD])|exact qM rfl rfl rfl|(refine qG rfl ?_)|(refine qH rfl ?_)|(refine qI rfl ?_ ?_<;>intro hc<;>(try simp only [go_sem] at hc))|(refine qJ ?_ ?_<;>intro hc<;>(try simp only [hc])<;>(try simp only [go_sem] at hc)))
 refine retS_bs rfl rfl rfl (get_all (p := fun k x => get k _ = some x ∧ x.nb = true) ?_)
 intro q hq
 simp only [List.mem_cons, Prod.mk.injEq, List.not_mem_nil, or_false] at hq
 obtain ⟨rfl, rfl⟩ := hq
 exact ⟨rfl, rfl⟩
theorem plRoom (p : PBs) (b : PBx) (hp : p.ok) : DCall Try.prog 62 [bedD p b] [] (.agg [dI (rmX p), dI (rmY p)]) [] := by
 have := hp.lg
 have := hp.wd
 have := hp.ov
 unfold rmX rmY
 refine DCall.of Try.func62 sf62 hb62 (Nat.le_of_ble_eq_true rfl) (okRes_nil fun _ => rfl) ?_; simp only [s62, idxs, Nat.reduceAdd]
 repeat' (first|(with_reducible first|apply qA|apply qB|apply qC|apply qD|apply qE|apply qF)|(simp (disch:=omega) only [go_sem, simprocAttr, Blk.men, Blk.keysIn])|exact qM rfl rfl rfl|(refine qG rfl ?_)|(refine qH rfl ?_)|(refine qI rfl ?_ ?_<;>intro hc<;>(try simp only [go_sem] at hc))|(refine qJ ?_ ?_<;>intro hc<;>(try simp only [hc])<;>(try simp only [go_sem] at hc)))
def eA (b : PBx) (q : PPl) : List C := [.v (.int .i64 q.x), .v (.int .i64 q.y), .v (.int .i64 (q.x + sdX b q)), .v (.int .i64 (q.y + sdY b q))]
attribute [go_sem] eA
structure PPl.fine (q : PPl) : Prop where
 x : -1000 ≤ q.x ∧ q.x ≤ 1000
 y : -1000 ≤ q.y ∧ q.y ≤ 1000
set_option maxHeartbeats 1000000 in
theorem plArea (p : PBs) (b : PBx) (hb : b.ok) (q : PPl) (hq : q.fine) : DCall Try.prog 103 [bedD p b, plD q] [] (.agg ((eA b q).map D.c)) [] := by
 have h1 := plSizes b 8
 have hs := side_pos hb q
 have hx := hq.x
 have hy := hq.y
 have h2 := hb.lg
 have h3 := hb.wd
 obtain ⟨x, y, t⟩ := q
 unfold sdX sdY at hs
 dsimp only at hx hy hs
 refine DCall.of Try.func103 sf103 hb103 (Nat.le_of_ble_eq_true rfl) (okRes_nil fun _ => rfl) ?_; simp only [s103, idxs, Nat.reduceAdd]
 repeat' (first|(with_reducible first|apply qA|apply qB|apply qC|apply qD|apply qE|apply qF)|(refine qL rfl (WF.of ?_) ?_; first|rfl|skip)|(simp (disch:=omega) only [go_sem, simprocAttr, Blk.men, Blk.keysIn, rF, rG])|exact qM rfl rfl rfl|(refine qG rfl ?_)|(refine qH rfl ?_)|(refine qI rfl ?_ ?_<;>intro hc<;>(try simp only [go_sem] at hc))|(refine qJ ?_ ?_<;>intro hc<;>(try simp only [hc])<;>(try simp only [go_sem] at hc)))
 (refine call_r (h1) (by decide) (by first | rfl | simp (disch:=omega) only [go_sem,simprocAttr,Blk.men,Blk.keysIn]) (by first | rfl | simp (disch:=omega) only [go_sem,simprocAttr,Blk.men,Blk.keysIn]) ?_; simp (disch:=omega) only [go_sem,simprocAttr,Blk.men,Blk.keysIn])
 cases t
 ·repeat' (first|(with_reducible first|apply qA|apply qB|apply qC|apply qD|apply qE|apply qF)|(refine qL rfl (WF.of ?_) ?_; first|rfl|skip)|(simp (disch:=omega) only [go_sem, simprocAttr, Blk.men, Blk.keysIn, findL, keyEq, keysOK, KK.is, List.all_nil, List.all_cons, lookIn, commaD, rF, rG, sdX, sdY])|exact qM rfl rfl rfl|(refine qG rfl ?_)|(refine qH rfl ?_)|(refine qI rfl ?_ ?_<;>intro hc<;>(try simp only [go_sem] at hc))|(refine qJ ?_ ?_<;>intro hc<;>(try simp only [hc])<;>(try simp only [go_sem] at hc)))
  skip
 ·repeat' (first|(with_reducible first|apply qA|apply qB|apply qC|apply qD|apply qE|apply qF)|(refine qL rfl (WF.of ?_) ?_; first|rfl|skip)|(simp (disch:=omega) only [go_sem, simprocAttr, Blk.men, Blk.keysIn, findL, keyEq, keysOK, KK.is, List.all_nil, List.all_cons, lookIn, commaD, rF, rG, sdX, sdY])|exact qM rfl rfl rfl|(refine qG rfl ?_)|(refine qH rfl ?_)|(refine qI rfl ?_ ?_<;>intro hc<;>(try simp only [go_sem] at hc))|(refine qJ ?_ ?_<;>intro hc<;>(try simp only [hc])<;>(try simp only [go_sem] at hc)))
  skip
theorem min_if (a b : Int) : (if b < a then b else a) = min a b := by split <;> omega
theorem max_if (a b : Int) : (if a < b then b else a) = max a b := by split <;> omega
end Go.Dw.Seat
end
section
set_option linter.unusedSimpArgs false
set_option maxRecDepth 100000
namespace Go.Dw.Seat
open Go Go.Dw Go.Proofs Go.IntWalk
theorem ov_b {b : PBx} (hb : b.ok) (q r : PPl) : (0 ≤ ovI q.x (sdX b q) r.x (sdX b r) ∧ ovI q.x (sdX b q) r.x (sdX b r) ≤ 100) ∧ 0 ≤ ovI q.y (sdY b q) r.y (sdY b r) ∧ ovI q.y (sdY b q) r.y (sdY b r) ≤ 100 := by
 have h1 := side_pos hb q
 have h2 := ov_nn q.x (sdX b q) r.x (sdX b r)
 have h3 := ov_nn q.y (sdY b q) r.y (sdY b r)
 have h4 := ov_le q.x (sdX b q) r.x (sdX b r) (by omega)
 have h5 := ov_le q.y (sdY b q) r.y (sdY b r) (by omega)
 omega
def comK (b : PBx) (q r : PPl) : Nat → Int
 | 0 => 1
 | 1 => ovI q.x (sdX b q) r.x (sdX b r)
 | _ => comI b q r
set_option maxHeartbeats 2000000 in
theorem plCommon (b : PBx) (hb : b.ok) (q r : PPl) (hq : q.fine) (hr : r.fine) : DCall Try.prog 104 [.agg ((eA b q).map D.c), .agg ((eA b r).map D.c)] [] (dI (comI b q r)) [] := by
 have hqx := hq.x
 have hqy := hq.y
 have hrx := hr.x
 have hry := hr.y
 have hqs := side_pos hb q
 have hrs := side_pos hb r
 have hov := ov_b hb q r
 have e1 : ovI q.x (sdX b q) r.x (sdX b r) = max 0 (min (q.x + sdX b q) (r.x + sdX b r) - max q.x r.x) := rfl
 have e2 : ovI q.y (sdY b q) r.y (sdY b r) = max 0 (min (q.y + sdY b q) (r.y + sdY b r) - max q.y r.y) := rfl
 have hm : comI b q r = ovI q.x (sdX b q) r.x (sdX b r) * ovI q.y (sdY b q) r.y (sdY b r) := rfl
 have hmb : 0 ≤ comI b q r ∧ comI b q r ≤ 10000 := by
  have h1 := Int.mul_le_mul hov.1.2 hov.2.2 hov.2.1 (by omega : (0 : Int) ≤ 100)
  have h2 := Int.mul_nonneg hov.1.1 hov.2.1
  rw [hm]; omega
 have k0 : comK b q r 0 = 1 := rfl
 have k1 : comK b q r 1 = ovI q.x (sdX b q) r.x (sdX b r) := rfl
 have k2 : comK b q r 2 = comI b q r := rfl
 have hw : IntKind.i64.wrap (ovI q.x (sdX b q) r.x (sdX b r) * max 0 (min (q.y + sdY b q) (r.y + sdY b r) - max q.y r.y)) = comI b q r := by
  rw [← e2, ← hm]; exact IntWalk.i64_in _ (by omega)
 refine DCall.of Try.func104 sf104 hb104 (Nat.le_of_ble_eq_true rfl) (okRes_nil fun _ => rfl) ?_; simp only [s104, idxs, Nat.reduceAdd]
 repeat' (first|(with_reducible first|apply qA|apply qB|apply qC|apply qD|apply qE|apply qF)|(refine qL rfl (WF.of ?_) ?_; first|rfl|skip)|(simp (disch:=omega) only [go_sem, simprocAttr, qN, qO, qP, qQ, rF, rG])|exact qM rfl rfl rfl|(refine qG rfl ?_)|(refine qH rfl ?_)|(refine qI rfl ?_ ?_<;>intro hc<;>(try simp only [go_sem] at hc))|(refine qJ ?_ ?_<;>intro hc<;>(try simp only [hc])<;>(try simp only [go_sem] at hc)))
 refine DW.loop (ι := { i : Nat // i ≤ 2 }) (fun i => ⟨34, [(7, dI i.1), (5, dI (comK b q r i.1)), (3, .box 3 0), (2, .box 2 0)], [(3, .box ((eA b r).map D.c)), (2, .box ((eA b q).map D.c))]⟩) (fun i => 2 - i.1) ⟨0, by decide⟩ ?_ ?_
 ·refine Ent.to ?_ ?_ <;> simp (disch:=omega) only [qR,qS,qTw,qU,get,Nat.reduceEqDiff,↓reduceIte,qV,qW,qX,qY,qZ,and_self,dI,i64_in,and_true,true_and,rA,rB,rC,rD,k0,eA,rF,rG]
  all_goals first | exact ⟨.refl _, .refl _, .refl _⟩ | exact ⟨.refl _, .refl _⟩ | exact .refl _
 rintro ⟨i, hi⟩
 dsimp only
 match i, hi with
 | 0, _ =>
  repeat' (first|(with_reducible first|apply qA|apply qB|apply qC|apply qD|apply qE|apply qF)|(refine qL rfl (WF.of ?_) ?_; first|rfl|skip)|(simp (disch:=omega) only [go_sem, simprocAttr, qN, qO, qP, qQ, k0, rF, rG, min_if, max_if])|exact qM rfl rfl rfl|(refine qG rfl ?_)|(refine qH rfl ?_)|(refine qI rfl ?_ ?_<;>intro hc<;>(try simp only [go_sem] at hc))|(refine qJ ?_ ?_<;>intro hc<;>(try simp only [hc])<;>(try simp only [go_sem] at hc)))
  refine ⟨⟨1, by decide⟩, ?_, Ent.to ?_ ?_⟩ <;> first | (show _ < _; (try simp only); omega) | (simp (disch:=omega) only [qR,qS,qTw,qU,get,Nat.reduceEqDiff,↓reduceIte,qV,qW,qX,qY,qZ,and_self,dI,i64_in,and_true,true_and,rA,rB,rC,rD, k1,e1,Int.one_mul,eA,rF,rG])
  all_goals first | exact ⟨.refl _, .refl _, .refl _⟩ | exact ⟨.refl _, .refl _⟩ | exact .refl _
 | 1, _ =>
  repeat' (first|(with_reducible first|apply qA|apply qB|apply qC|apply qD|apply qE|apply qF)|(refine qL rfl (WF.of ?_) ?_; first|rfl|skip)|(simp (disch:=omega) only [go_sem, simprocAttr, qN, qO, qP, qQ, k1, rF, rG, min_if, max_if, hw])|exact qM rfl rfl rfl|(refine qG rfl ?_)|(refine qH rfl ?_)|(refine qI rfl ?_ ?_<;>intro hc<;>(try simp only [go_sem] at hc))|(refine qJ ?_ ?_<;>intro hc<;>(try simp only [hc])<;>(try simp only [go_sem] at hc)))
  refine ⟨⟨2, by decide⟩, ?_, Ent.to ?_ ?_⟩ <;> first | (show _ < _; (try simp only); omega) | (simp (disch:=omega) only [qR,qS,qTw,qU,get,Nat.reduceEqDiff,↓reduceIte,qV,qW,qX,qY,qZ,and_self,dI,i64_in,and_true,true_and,rA,rB,rC,rD, k2,eA,rF,rG])
  all_goals first | exact ⟨.refl _, .refl _, .refl _⟩ | exact ⟨.refl _, .refl _⟩ | exact .refl _
 | 2, _ =>
  repeat' (first|(with_reducible first|apply qA|apply qB|apply qC|apply qD|apply qE|apply qF)|(refine qL rfl (WF.of ?_) ?_; first|rfl|skip)|(simp (disch:=omega) only [go_sem, simprocAttr, qN, qO, qP, qQ, k2, rF, rG])|exact qM rfl rfl rfl|(refine qG rfl ?_)|(refine qH rfl ?_)|(refine qI rfl ?_ ?_<;>intro hc<;>(try simp only [go_sem] at hc))|(refine qJ ?_ ?_<;>intro hc<;>(try simp only [hc])<;>(try simp only [go_sem] at hc)))
theorem plFault1 (b : PBx) (hb : b.ok) (q r : PPl) (hq : q.fine) (hr : r.fine) (lab : Bool) : DCall Try.prog 117 [.agg ((eA b r).map D.c), .c (.ro lab (eA b q) 0)] [] (bD (decide (0 < comI b q r))) [] := by
 have h1 := plCommon b hb q r hq hr
 refine DCall.of Try.func117 sf117 hb117 (Nat.le_of_ble_eq_true rfl) (okRes_nil fun _ => rfl) ?_; simp only [s117, idxs, Nat.reduceAdd]
 repeat' (first|(with_reducible first|apply qA|apply qB|apply qC|apply qD|apply qE|apply qF)|(simp (disch:=omega) only [go_sem, simprocAttr, qN, qO, qP, qQ, rF, rG])|exact qM rfl rfl rfl|(refine qG rfl ?_)|(refine qK (h1) (by decide) ?_)|(refine qH rfl ?_)|(refine qI rfl ?_ ?_<;>intro hc<;>(try simp only [go_sem] at hc))|(refine qJ ?_ ?_<;>intro hc<;>(try simp only [hc])<;>(try simp only [go_sem] at hc)))
theorem plAIdx (b : PBx) (lab : Bool) (l : List PPl) (hl : l.length ≤ 2 ^ 36) (g : FuncId) (fs caps : List C) (p : PPl → Bool) (hp : ∀ x ∈ l, DCall Try.prog g (fs.map D.c ++ [.agg ((eA b x).map D.c)] ++ caps.map D.c) [] (bD (p x)) []) : DCall Try.prog 131 [.c (.sl lab 4 (rows (eA b) l)), .c (.fn (.func g) fs caps)] [] (dI (idxI p l)) [] := by
 refine DCall.of Try.func131 sf131 hb131 (Nat.le_of_ble_eq_true rfl) (okRes_nil fun _ => rfl) ?_; simp only [s131, idxs, Nat.reduceAdd]
 repeat' (first|(with_reducible first|apply qA|apply qB|apply qC|apply qD|apply qE|apply qF)|(simp (disch:=omega) only [go_sem, simprocAttr, qN, qO, qP, qQ])|exact qM rfl rfl rfl|(refine qG rfl ?_)|(refine qH rfl ?_)|(refine qI rfl ?_ ?_<;>intro hc<;>(try simp only [go_sem] at hc))|(refine qJ ?_ ?_<;>intro hc<;>(try simp only [hc])<;>(try simp only [go_sem] at hc)))
 refine DW.loop (ι := { i : Nat // i ≤ l.length ∧ ∀ j u, j < i → l[j]? = some u → p u = false }) (fun i => ⟨19, [(8, dI i.1), (7, dI l.length), (1, .c (.fn (.func g) fs caps)), (0, .c (.sl lab 4 (rows (eA b) l)))], []⟩) (fun i => l.length - i.1) ⟨0, Nat.zero_le _, fun j u h => by omega⟩ ?_ ?_
 ·refine Ent.to ?_ ?_ <;> simp (disch:=omega) only [qR,qS,qTw,qU,get,Nat.reduceEqDiff,↓reduceIte,qV,qW,qX,qY,qZ,and_self,dI,i64_in,and_true,true_and,rA,rB,rC,rD]
  all_goals exact .refl _
 rintro ⟨i, hi, hij⟩
 rcases at_or l i hi with ⟨v, hv, hlt, hd⟩ | ⟨he, hd⟩
 ·have hcall := hp v (List.mem_of_getElem? hv)
  repeat' (first|(with_reducible first|apply qA|apply qB|apply qC|apply qD|apply qE|apply qF)|(simp (disch:=omega) only [go_sem, simprocAttr, qN, qO, qP, qQ, hd, hv, closeDs_fn, rF, rG])|exact qM rfl rfl rfl|(refine qG rfl ?_)|(refine qH rfl ?_)|(refine qI rfl ?_ ?_<;>intro hc<;>(try simp only [go_sem] at hc))|(refine qJ ?_ ?_<;>intro hc<;>(try simp only [hc])<;>(try simp only [go_sem] at hc)))
  refine call_c hcall (by decide) ?_
  simp (disch:=omega) only [go_sem,simprocAttr,qN,qO,qP,qQ]
  refine DW.cond rfl ?_ ?_ <;> intro hc
  ·repeat' (first|(with_reducible first|apply qA|apply qB|apply qC|apply qD|apply qE|apply qF)|(simp (disch:=omega) only [go_sem, simprocAttr, qN, qO, qP, qQ])|exact qM rfl rfl rfl|(refine qG rfl ?_)|(refine qH rfl ?_)|(refine qI rfl ?_ ?_<;>intro hc<;>(try simp only [go_sem] at hc))|(refine qJ ?_ ?_<;>intro hc<;>(try simp only [hc])<;>(try simp only [go_sem] at hc)))
   refine retS_of rfl ?_ rfl; simp only [oneD, St.op, get, Nat.reduceEqDiff, ↓reduceIte, Option.getD_some, bD, dI]
   simp only [idxI, idxOf_some hij hv hc]
  ·repeat' (first|(with_reducible first|apply qA|apply qB|apply qC|apply qD|apply qE|apply qF)|(simp (disch:=omega) only [go_sem, simprocAttr, qN, qO, qP, qQ])|exact qM rfl rfl rfl|(refine qG rfl ?_)|(refine qH rfl ?_)|(refine qI rfl ?_ ?_<;>intro hc<;>(try simp only [go_sem] at hc))|(refine qJ ?_ ?_<;>intro hc<;>(try simp only [hc])<;>(try simp only [go_sem] at hc)))
   refine ⟨⟨i + 1, by omega, fun j u hj hu => by
    rcases Nat.lt_or_ge j i with h | h
    ·exact hij j u h hu
    ·have : j = i := by omega
     subst this
     rw [hv] at hu; cases hu; exact hc⟩, ?_, Ent.to ?_ ?_⟩ <;> first | (show _ < _; (try simp only); omega) | (simp (disch:=omega) only [qR,qS,qTw,qU,get,Nat.reduceEqDiff,↓reduceIte,qV,qW,qX,qY,qZ,and_self,dI,i64_in,and_true,true_and,rA,rB,rC,rD])
   all_goals exact .refl _
 ·repeat' (first|(with_reducible first|apply qA|apply qB|apply qC|apply qD|apply qE|apply qF)|(simp (disch:=omega) only [go_sem, simprocAttr, qN, qO, qP, qQ, hd])|exact qM rfl rfl rfl|(refine qG rfl ?_)|(refine qH rfl ?_)|(refine qI rfl ?_ ?_<;>intro hc<;>(try simp only [go_sem] at hc))|(refine qJ ?_ ?_<;>intro hc<;>(try simp only [hc])<;>(try simp only [go_sem] at hc)))
  refine retS_of rfl ?_ rfl; simp only [oneD, St.op, get, Nat.reduceEqDiff, ↓reduceIte, Option.getD_some, bD, dI]
  simp only [idxI, idxOf_none (he ▸ hij)]
theorem plAAny (b : PBx) (lab : Bool) (l : List PPl) (hl : l.length ≤ 2 ^ 36) (g : FuncId) (fs caps : List C) (p : PPl → Bool) (hp : ∀ x ∈ l, DCall Try.prog g (fs.map D.c ++ [.agg ((eA b x).map D.c)] ++ caps.map D.c) [] (bD (p x)) []) : DCall Try.prog 116 [.c (.sl lab 4 (rows (eA b) l)), .c (.fn (.func g) fs caps)] [] (bD (l.any p)) [] := by
 refine DCall.of Try.func116 sf116 hb116 (Nat.le_of_ble_eq_true rfl) (okRes_nil fun _ => rfl) ?_; simp only [s116, idxs, Nat.reduceAdd]
 repeat' (first|(with_reducible first|apply qA|apply qB|apply qC|apply qD|apply qE|apply qF)|(simp (disch:=omega) only [go_sem, simprocAttr, qN, qO, qP, qQ])|exact qM rfl rfl rfl|(refine qG rfl ?_)|(refine qH rfl ?_)|(refine qI rfl ?_ ?_<;>intro hc<;>(try simp only [go_sem] at hc))|(refine qJ ?_ ?_<;>intro hc<;>(try simp only [hc])<;>(try simp only [go_sem] at hc)))
 refine call_c (plAIdx b lab l hl g fs caps p hp) (by decide) ?_
 repeat' (first|(with_reducible first|apply qA|apply qB|apply qC|apply qD|apply qE|apply qF)|(simp (disch:=omega) only [go_sem, simprocAttr, qN, qO, qP, qQ])|exact qM rfl rfl rfl|(refine qG rfl ?_)|(refine qH rfl ?_)|(refine qI rfl ?_ ?_<;>intro hc<;>(try simp only [go_sem] at hc))|(refine qJ ?_ ?_<;>intro hc<;>(try simp only [hc])<;>(try simp only [go_sem] at hc)))
 refine retS_of rfl ?_ rfl; simp only [oneD, St.op, get, Nat.reduceEqDiff, ↓reduceIte, Option.getD_some, bD, dI]
 rw [idxI_any]
def plBad (q : PPl) : Bool := !(wthn 0 140 [q.x, q.y])
theorem plBad_no {q : PPl} : plBad q = false ↔ (0 ≤ q.x ∧ q.x ≤ 140) ∧ 0 ≤ q.y ∧ q.y ≤ 140 := by
 simp only [plBad, Bool.not_eq_false', wthn_iff, List.mem_cons, List.not_mem_nil, or_false, forall_eq_or_imp, forall_eq]
theorem plLayer1 (q : PPl) : DCall Try.prog 128 [plD q] [] (bD (plBad q)) [] := by
 have h1 := plWithin true 0 140 [q.x, q.y] (by simp)
 unfold plBad
 refine DCall.of Try.func128 sf128 hb128 (Nat.le_of_ble_eq_true rfl) (okRes_nil fun _ => rfl) ?_; simp only [s128, idxs, Nat.reduceAdd]
 repeat' (first|(with_reducible first|apply qA|apply qB|apply qC|apply qD|apply qE|apply qF)|(simp (disch:=omega) only [go_sem, simprocAttr, qN, qO, qP, qQ, rF, rG])|exact qM rfl rfl rfl|(refine qG rfl ?_)|(refine qK (h1) (by decide) ?_)|(refine qH rfl ?_)|(refine qI rfl ?_ ?_<;>intro hc<;>(try simp only [go_sem] at hc))|(refine qJ ?_ ?_<;>intro hc<;>(try simp only [hc])<;>(try simp only [go_sem] at hc)))
theorem plPIdx (lab : Bool) (l : List PPl) (hl : l.length ≤ 2 ^ 36) (g : FuncId) (fs caps : List C) (p : PPl → Bool) (hp : ∀ x ∈ l, DCall Try.prog g (fs.map D.c ++ [plD x] ++ caps.map D.c) [] (bD (p x)) []) : DCall Try.prog 136 [lyD lab l, .c (.fn (.func g) fs caps)] [] (dI (idxI p l)) [] := by
 refine DCall.of Try.func136 sf136 hb136 (Nat.le_of_ble_eq_true rfl) (okRes_nil fun _ => rfl) ?_; simp only [s136, idxs, Nat.reduceAdd]
 repeat' (first|(with_reducible first|apply qA|apply qB|apply qC|apply qD|apply qE|apply qF)|(simp (disch:=omega) only [go_sem, simprocAttr, qN, qO, qP, qQ])|exact qM rfl rfl rfl|(refine qG rfl ?_)|(refine qH rfl ?_)|(refine qI rfl ?_ ?_<;>intro hc<;>(try simp only [go_sem] at hc))|(refine qJ ?_ ?_<;>intro hc<;>(try simp only [hc])<;>(try simp only [go_sem] at hc)))
 refine DW.loop (ι := { i : Nat // i ≤ l.length ∧ ∀ j u, j < i → l[j]? = some u → p u = false }) (fun i => ⟨19, [(8, dI i.1), (7, dI l.length), (1, .c (.fn (.func g) fs caps)), (0, lyD lab l)], []⟩) (fun i => l.length - i.1) ⟨0, Nat.zero_le _, fun j u h => by omega⟩ ?_ ?_
 ·refine Ent.to ?_ ?_ <;> simp (disch:=omega) only [qR,qS,qTw,qU,get,Nat.reduceEqDiff,↓reduceIte,qV,qW,qX,qY,qZ,and_self,dI,i64_in,and_true,true_and,rA,rB,rC,rD]
  all_goals exact .refl _
 rintro ⟨i, hi, hij⟩
 rcases at_or l i hi with ⟨v, hv, hlt, hd⟩ | ⟨he, hd⟩
 ·have hcall := hp v (List.mem_of_getElem? hv)
  repeat' (first|(with_reducible first|apply qA|apply qB|apply qC|apply qD|apply qE|apply qF)|(simp (disch:=omega) only [go_sem, simprocAttr, qN, qO, qP, qQ, hd, hv, closeDs_fn, rF, rG])|exact qM rfl rfl rfl|(refine qG rfl ?_)|(refine qH rfl ?_)|(refine qI rfl ?_ ?_<;>intro hc<;>(try simp only [go_sem] at hc))|(refine qJ ?_ ?_<;>intro hc<;>(try simp only [hc])<;>(try simp only [go_sem] at hc)))
  refine call_c hcall (by decide) ?_
  simp (disch:=omega) only [go_sem,simprocAttr,qN,qO,qP,qQ]
  refine DW.cond rfl ?_ ?_ <;> intro hc
  ·repeat' (first|(with_reducible first|apply qA|apply qB|apply qC|apply qD|apply qE|apply qF)|(simp (disch:=omega) only [go_sem, simprocAttr, qN, qO, qP, qQ])|exact qM rfl rfl rfl|(refine qG rfl ?_)|(refine qH rfl ?_)|(refine qI rfl ?_ ?_<;>intro hc<;>(try simp only [go_sem] at hc))|(refine qJ ?_ ?_<;>intro hc<;>(try simp only [hc])<;>(try simp only [go_sem] at hc)))
   refine retS_of rfl ?_ rfl; simp only [oneD, St.op, get, Nat.reduceEqDiff, ↓reduceIte, Option.getD_some, bD, dI]
   simp only [idxI, idxOf_some hij hv hc]
  ·repeat' (first|(with_reducible first|apply qA|apply qB|apply qC|apply qD|apply qE|apply qF)|(simp (disch:=omega) only [go_sem, simprocAttr, qN, qO, qP, qQ])|exact qM rfl rfl rfl|(refine qG rfl ?_)|(refine qH rfl ?_)|(refine qI rfl ?_ ?_<;>intro hc<;>(try simp only [go_sem] at hc))|(refine qJ ?_ ?_<;>intro hc<;>(try simp only [hc])<;>(try simp only [go_sem] at hc)))
   refine ⟨⟨i + 1, by omega, fun j u hj hu => by
    rcases Nat.lt_or_ge j i with h | h
    ·exact hij j u h hu
    ·have : j = i := by omega
     subst this
     rw [hv] at hu; cases hu; exact hc⟩, ?_, Ent.to ?_ ?_⟩ <;> first | (show _ < _; (try simp only); omega) | (simp (disch:=omega) only [qR,qS,qTw,qU,get,Nat.reduceEqDiff,↓reduceIte,qV,qW,qX,qY,qZ,and_self,dI,i64_in,and_true,true_and,rA,rB,rC,rD])
   all_goals exact .refl _
 ·repeat' (first|(with_reducible first|apply qA|apply qB|apply qC|apply qD|apply qE|apply qF)|(simp (disch:=omega) only [go_sem, simprocAttr, qN, qO, qP, qQ, hd])|exact qM rfl rfl rfl|(refine qG rfl ?_)|(refine qH rfl ?_)|(refine qI rfl ?_ ?_<;>intro hc<;>(try simp only [go_sem] at hc))|(refine qJ ?_ ?_<;>intro hc<;>(try simp only [hc])<;>(try simp only [go_sem] at hc)))
  refine retS_of rfl ?_ rfl; simp only [oneD, St.op, get, Nat.reduceEqDiff, ↓reduceIte, Option.getD_some, bD, dI]
  simp only [idxI, idxOf_none (he ▸ hij)]
theorem plPAny (lab : Bool) (l : List PPl) (hl : l.length ≤ 2 ^ 36) (g : FuncId) (fs caps : List C) (p : PPl → Bool) (hp : ∀ x ∈ l, DCall Try.prog g (fs.map D.c ++ [plD x] ++ caps.map D.c) [] (bD (p x)) []) : DCall Try.prog 127 [lyD lab l, .c (.fn (.func g) fs caps)] [] (bD (l.any p)) [] := by
 refine DCall.of Try.func127 sf127 hb127 (Nat.le_of_ble_eq_true rfl) (okRes_nil fun _ => rfl) ?_; simp only [s127, idxs, Nat.reduceAdd]
 repeat' (first|(with_reducible first|apply qA|apply qB|apply qC|apply qD|apply qE|apply qF)|(simp (disch:=omega) only [go_sem, simprocAttr, qN, qO, qP, qQ])|exact qM rfl rfl rfl|(refine qG rfl ?_)|(refine qH rfl ?_)|(refine qI rfl ?_ ?_<;>intro hc<;>(try simp only [go_sem] at hc))|(refine qJ ?_ ?_<;>intro hc<;>(try simp only [hc])<;>(try simp only [go_sem] at hc)))
 refine call_c (plPIdx lab l hl g fs caps p hp) (by decide) ?_
 repeat' (first|(with_reducible first|apply qA|apply qB|apply qC|apply qD|apply qE|apply qF)|(simp (disch:=omega) only [go_sem, simprocAttr, qN, qO, qP, qQ])|exact qM rfl rfl rfl|(refine qG rfl ?_)|(refine qH rfl ?_)|(refine qI rfl ?_ ?_<;>intro hc<;>(try simp only [go_sem] at hc))|(refine qJ ?_ ?_<;>intro hc<;>(try simp only [hc])<;>(try simp only [go_sem] at hc)))
 refine retS_of rfl ?_ rfl; simp only [oneD, St.op, get, Nat.reduceEqDiff, ↓reduceIte, Option.getD_some, bD, dI]
 rw [idxI_any]
def eLs (l : List PPl) : List C := [.sl false 3 (rows eP l)]
theorem eLs_nb (l : List PPl) : C.nbs (eLs l) = true := by
 simp only [eLs, C.nbs, C.nb, rows_nb eP_nb, Bool.not_false, Bool.and_self, Bool.and_true]
attribute [go_sem] eLs
def lyE : List (List PPl) → Int
 | [] => 0
 | l :: t => if (200 : Int) < (l.length : Int) then 5 else if l.any plBad then 4 else lyE t
set_option maxHeartbeats 1000000 in
theorem plLayers (lab : Bool) (ls : List (List PPl)) (hs : ls.length ≤ 1000) (hl : ∀ l ∈ ls, l.length ≤ 2 ^ 36) : DCall Try.prog 100 [.c (.sl lab 1 (rows eLs ls))] [] (dI (lyE ls)) [] := by
 generalize hR : lyE ls = R
 refine DCall.of Try.func100 sf100 hb100 (Nat.le_of_ble_eq_true rfl) (okRes_nil fun _ => rfl) ?_; simp only [s100, idxs, Nat.reduceAdd]
 repeat' (first|(with_reducible first|apply qA|apply qB|apply qC|apply qD|apply qE|apply qF)|(simp (disch:=omega) only [go_sem, simprocAttr, qN, qO, qP, qQ])|exact qM rfl rfl rfl|(refine qG rfl ?_)|(refine qH rfl ?_)|(refine qI rfl ?_ ?_<;>intro hc<;>(try simp only [go_sem] at hc))|(refine qJ ?_ ?_<;>intro hc<;>(try simp only [hc])<;>(try simp only [go_sem] at hc)))
 refine DW.loop (ι := { i : Nat // i ≤ ls.length ∧ lyE (ls.drop i) = R }) (fun i => ⟨19, [(7, dI i.1), (6, dI ls.length), (5, .c (.sl lab 1 (rows eLs ls)))], []⟩) (fun i => ls.length - i.1) ⟨0, Nat.zero_le _, hR⟩ ?_ ?_
 ·refine Ent.to ?_ ?_ <;> simp (disch:=omega) only [qR,qS,qTw,qU,get,Nat.reduceEqDiff,↓reduceIte,qV,qW,qX,qY,qZ,and_self,dI,i64_in,and_true,true_and,rA,rB,rC,rD]
  all_goals exact .refl _
 rintro ⟨i, hi, hr⟩
 dsimp only
 rcases at_or ls i hi with ⟨v, hv, hlt, hd⟩ | ⟨he, hd⟩
 ·have h1 : ls.drop i = v :: ls.drop (i + 1) := by rw [List.drop_eq_getElem_cons hlt, (List.getElem_eq_iff hlt).2 hv]
  rw [h1, lyE] at hr
  have hvl := hl v (List.mem_of_getElem? hv)
  have h2 := plPAny false v hvl 128 [] [] plBad (fun q _ => plLayer1 q)
  by_cases h200 : (200 : Int) < (v.length : Int)
  ·rw [if_pos h200] at hr
   subst hr
   have d1 : decide ((200 : Int) < (v.length : Int)) = true := decide_eq_true h200
   repeat' (first|(with_reducible first|apply qA|apply qB|apply qC|apply qD|apply qE|apply qF)|(simp (disch:=omega) only [go_sem, simprocAttr, qN, qO, qP, qQ, hd, hv, d1, rF, rG])|exact qM rfl rfl rfl|(refine qG rfl ?_)|(refine qH rfl ?_)|(refine qI rfl ?_ ?_<;>intro hc<;>(try simp only [go_sem] at hc))|(refine qJ ?_ ?_<;>intro hc<;>(try simp only [hc])<;>(try simp only [go_sem] at hc)))
  ·rw [if_neg h200] at hr
   have d1 : decide ((200 : Int) < (v.length : Int)) = false := decide_eq_false h200
   cases ha : v.any plBad with
   | true =>
    rw [ha, if_pos rfl] at hr
    rw [ha] at h2
    subst hr
    repeat' (first|(with_reducible first|apply qA|apply qB|apply qC|apply qD|apply qE|apply qF)|(simp (disch:=omega) only [go_sem, simprocAttr, qN, qO, qP, qQ, hd, hv, d1, rF, rG])|exact qM rfl rfl rfl|(refine qG rfl ?_)|(refine qK (h2) (by decide) ?_)|(refine qH rfl ?_)|(refine qI rfl ?_ ?_<;>intro hc<;>(try simp only [go_sem] at hc))|(refine qJ ?_ ?_<;>intro hc<;>(try simp only [hc])<;>(try simp only [go_sem] at hc)))
   | false =>
    rw [ha, if_neg Bool.false_ne_true] at hr
    rw [ha] at h2
    repeat' (first|(with_reducible first|apply qA|apply qB|apply qC|apply qD|apply qE|apply qF)|(simp (disch:=omega) only [go_sem, simprocAttr, qN, qO, qP, qQ, hd, hv, d1, rF, rG])|exact qM rfl rfl rfl|(refine qG rfl ?_)|(refine qK (h2) (by decide) ?_)|(refine qH rfl ?_)|(refine qI rfl ?_ ?_<;>intro hc<;>(try simp only [go_sem] at hc))|(refine qJ ?_ ?_<;>intro hc<;>(try simp only [hc])<;>(try simp only [go_sem] at hc)))
    refine ⟨⟨i + 1, hlt, hr⟩, ?_, Ent.to ?_ ?_⟩ <;> first | (show _ < _; (try simp only); omega) | (simp (disch:=omega) only [qR,qS,qTw,qU,get,Nat.reduceEqDiff,↓reduceIte,qV,qW,qX,qY,qZ,and_self,dI,i64_in,and_true,true_and,rA,rB,rC,rD])
    all_goals exact .refl _
 ·rw [List.drop_eq_nil_of_le (by omega), lyE] at hr
  subst hr
  repeat' (first|(with_reducible first|apply qA|apply qB|apply qC|apply qD|apply qE|apply qF)|(simp (disch:=omega) only [go_sem, simprocAttr, qN, qO, qP, qQ, hd])|exact qM rfl rfl rfl|(refine qG rfl ?_)|(refine qH rfl ?_)|(refine qI rfl ?_ ?_<;>intro hc<;>(try simp only [go_sem] at hc))|(refine qJ ?_ ?_<;>intro hc<;>(try simp only [hc])<;>(try simp only [go_sem] at hc)))
def opE (p : PBs) (b : PBx) (ls : List (List PPl)) : Int := if chkE p b ≠ 0 then chkE p b else lyE ls
theorem plOpen (lab : Bool) (p : PBs) (b : PBx) (ls : List (List PPl)) (hs : ls.length ≤ 1000) (hl : ∀ l ∈ ls, l.length ≤ 2 ^ 36) (h : chkE p b = 0) : DCall Try.prog 71 [bsD p, bxD b, .c (.sl lab 1 (rows eLs ls))] [] (.tup [bedD p b, dI (lyE ls)]) [] := by
 have h1 := plCheck p b
 have h2 := plLayers lab ls hs hl
 rw [h] at h1
 refine DCall.of Try.func71 sf71 hb71 (Nat.le_of_ble_eq_true rfl) (okRes_nil fun _ => rfl) ?_; simp only [s71, idxs, Nat.reduceAdd]
 repeat' (first|(with_reducible first|apply qA|apply qB|apply qC|apply qD|apply qE|apply qF)|(refine qL rfl (WF.of ?_) ?_; first|rfl|skip)|(simp (disch:=omega) only [go_sem, simprocAttr, qN, qO, qP, qQ])|exact qM rfl rfl rfl|(refine qG rfl ?_)|(refine qK (h1) (by decide) ?_)|(refine qK (h2) (by decide) ?_)|(refine qH rfl ?_)|(refine qI rfl ?_ ?_<;>intro hc<;>(try simp only [go_sem] at hc))|(refine qJ ?_ ?_<;>intro hc<;>(try simp only [hc])<;>(try simp only [go_sem] at hc)))
theorem plOpenE (lab : Bool) (p : PBs) (b : PBx) (ls : List (List PPl)) (h : chkE p b ≠ 0) : DCall Try.prog 71 [bsD p, bxD b, .c (.sl lab 1 (rows eLs ls))] [] (.tup [noneBed, dI (chkE p b)]) [] := by
 have h1 := plCheck p b
 generalize chkE p b = e at *
 have hd : (e != 0) = true := by simpa using h
 refine DCall.of Try.func71 sf71 hb71 (Nat.le_of_ble_eq_true rfl) (okRes_nil fun _ => rfl) ?_; simp only [s71, idxs, Nat.reduceAdd]
 repeat' (first|(with_reducible first|apply qA|apply qB|apply qC|apply qD|apply qE|apply qF)|(refine qL rfl (WF.of ?_) ?_; first|rfl|skip)|(simp (disch:=omega) only [go_sem, simprocAttr, qN, qO, qP, qQ, hd])|exact qM rfl rfl rfl|(refine qG rfl ?_)|(refine qK (h1) (by decide) ?_)|(refine qH rfl ?_)|(refine qI rfl ?_ ?_<;>intro hc<;>(try simp only [go_sem] at hc))|(refine qJ ?_ ?_<;>intro hc<;>(try simp only [hc])<;>(try simp only [go_sem] at hc)))
end Go.Dw.Seat
end
