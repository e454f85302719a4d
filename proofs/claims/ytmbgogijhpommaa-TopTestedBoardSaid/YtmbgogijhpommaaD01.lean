/- Helpers of a proof. -/
import Derived.Test.YtmbgogijhpommaaD00
import Derived.Test.YtmbgogijhpommaaProg
set_option linter.unusedVariables false
set_option linter.unusedSimpArgs false
section
namespace Go.Dw.Seat
open Go Go.Dw Go.Proofs
def s75 : SF := ⟨33, [.cell 4 117],
 (.seq (.reg false [⟨some 2, .box 117 (.tmp 0), none⟩,
    ⟨some 4, .alloc 117, none⟩])
 (.seq (.reg false [⟨some 6, .fieldAddr 117 (.tmp 2) 1, none⟩,
    ⟨some 7, .load 113 (.tmp 6), none⟩,
    ⟨some 8, .move (.tmp 1), none⟩,
    ⟨some 9, .call { callee := .value (.func 117), args := #[.tmp 7, .tmp 8], argTypes := #[113, 3] }, none⟩,
    ⟨some 5, .alloc 60, none⟩,
    ⟨none, .store 60 (.tmp 5) (.tmp 9), none⟩])
 (.seq (.reg false [⟨some 10, .fieldAddr 117 (.tmp 2) 2, none⟩,
    ⟨some 11, .load 3 (.tmp 10), none⟩,
    ⟨some 12, .binOp .add 3 (.tmp 11) (.const (.int .i64 1)) 3, none⟩,
    ⟨some 13, .fieldAddr 117 (.tmp 2) 2, none⟩,
    ⟨none, .store 3 (.tmp 13) (.tmp 12), none⟩])
 (.seq (.reg true [⟨some 14, .fieldAddr 117 (.tmp 2) 3, none⟩,
    ⟨some 15, .load 115 (.tmp 14), none⟩,
    ⟨some 16, .fieldAddr 60 (.tmp 5) 0, none⟩,
    ⟨some 17, .load 3 (.tmp 16), none⟩,
    ⟨some 18, .fieldAddr 117 (.tmp 2) 0, none⟩,
    ⟨some 19, .fieldAddr 31 (.tmp 18) 2, none⟩,
    ⟨some 20, .load 3 (.tmp 19), none⟩,
    ⟨some 21, .call { callee := .value (.func 118), args := #[.tmp 15, .tmp 17, .tmp 20], argTypes := #[115, 3, 3] }, none⟩,
    ⟨some 22, .fieldAddr 117 (.tmp 2) 4, none⟩,
    ⟨some 23, .load 115 (.tmp 22), none⟩,
    ⟨some 24, .fieldAddr 60 (.tmp 5) 1, none⟩,
    ⟨some 25, .load 3 (.tmp 24), none⟩,
    ⟨some 26, .fieldAddr 117 (.tmp 2) 0, none⟩,
    ⟨some 27, .fieldAddr 31 (.tmp 26) 2, none⟩,
    ⟨some 28, .load 3 (.tmp 27), none⟩,
    ⟨some 29, .call { callee := .value (.func 118), args := #[.tmp 23, .tmp 25, .tmp 28], argTypes := #[115, 3, 3] }, none⟩,
    ⟨some 30, .fieldAddr 117 (.tmp 2) 3, none⟩,
    ⟨none, .store 115 (.tmp 30) (.tmp 21), none⟩,
    ⟨some 31, .fieldAddr 117 (.tmp 2) 4, none⟩,
    ⟨none, .store 115 (.tmp 31) (.tmp 29), none⟩])
 (.seq (.reg false [⟨some 32, .load 117 (.tmp 2), none⟩,
    ⟨none, .store 117 (.tmp 4) (.tmp 32), none⟩])
 .ret)))))⟩
theorem sf75 : sfOf Try.f75 = some s75 := by kernel_rfl
theorem hb75 : hasBody Try.prog 75 = true := by kernel_rfl
def s76 : SF := ⟨40, [.tmp 6],
 (.seq (.reg false [⟨some 3, .box 117 (.tmp 0), none⟩,
    ⟨some 4, .box 115 (.tmp 1), none⟩,
    ⟨some 6, .assign (.const (.bool false)), none⟩])
 (.seq (.seq (.reg false [⟨some 7, .fieldAddr 117 (.tmp 3) 0, none⟩,
     ⟨some 8, .fieldAddr 31 (.tmp 7) 0, none⟩,
     ⟨some 9, .load 3 (.tmp 8), none⟩,
     ⟨some 10, .fieldAddr 117 (.tmp 3) 2, none⟩,
     ⟨some 11, .load 3 (.tmp 10), none⟩,
     ⟨some 12, .binOp .sub 3 (.tmp 9) (.tmp 11) 3, none⟩,
     ⟨some 13, .move (.const (.int .i64 0)), none⟩])
  (.block 0 (.loop (.seq (.reg false [⟨some 14, .binOp .lss 3 (.tmp 13) (.tmp 12) 3, none⟩])
    (.seq (.cond (.tmp 14)
      .skip
      (.exit 0))
    (.seq (.block 1 (.reg false [⟨some 15, .load 115 (.tmp 4), none⟩,
        ⟨some 16, .move (.tmp 2), none⟩,
        ⟨some 17, .fieldAddr 117 (.tmp 3) 0, none⟩,
        ⟨some 18, .fieldAddr 31 (.tmp 17) 2, none⟩,
        ⟨some 19, .load 3 (.tmp 18), none⟩,
        ⟨some 20, .call { callee := .value (.func 118), args := #[.tmp 15, .tmp 16, .tmp 19], argTypes := #[115, 3, 3] }, none⟩,
        ⟨none, .store 115 (.tmp 4) (.tmp 20), none⟩]))
    (.reg false [⟨some 21, .binOp .add 3 (.tmp 13) (.const (.int .i64 1)) 3, none⟩,
      ⟨some 13, .move (.tmp 21), none⟩])))))))
 (.seq (.reg false [⟨some 22, .fieldAddr 115 (.tmp 4) 0, none⟩,
    ⟨some 23, .load 3 (.tmp 22), none⟩,
    ⟨some 24, .fieldAddr 117 (.tmp 3) 0, none⟩,
    ⟨some 25, .fieldAddr 31 (.tmp 24) 0, none⟩,
    ⟨some 26, .load 3 (.tmp 25), none⟩,
    ⟨some 27, .fieldAddr 117 (.tmp 3) 0, none⟩,
    ⟨some 28, .fieldAddr 31 (.tmp 27) 1, none⟩,
    ⟨some 29, .load 3 (.tmp 28), none⟩,
    ⟨some 30, .binOp .mul 3 (.tmp 26) (.tmp 29) 3, none⟩,
    ⟨some 31, .binOp .geq 3 (.tmp 23) (.tmp 30) 3, none⟩,
    ⟨some 32, .move (.tmp 31), none⟩,
    ⟨some 33, .fieldAddr 115 (.tmp 4) 1, some (32, true)⟩,
    ⟨some 34, .load 3 (.tmp 33), some (32, true)⟩,
    ⟨some 35, .fieldAddr 117 (.tmp 3) 0, some (32, true)⟩,
    ⟨some 36, .fieldAddr 31 (.tmp 35) 3, some (32, true)⟩,
    ⟨some 37, .load 3 (.tmp 36), some (32, true)⟩,
    ⟨some 38, .binOp .leq 3 (.tmp 34) (.tmp 37) 3, some (32, true)⟩,
    ⟨some 39, .pick (.tmp 32) (.tmp 38) (.const (.bool false)), none⟩,
    ⟨some 6, .assign (.tmp 39), none⟩])
 .ret)))⟩
theorem sf76 : sfOf Try.f76 = some s76 := by kernel_rfl
theorem hb76 : hasBody Try.prog 76 = true := by kernel_rfl
def s79 : SF := ⟨9, [.tmp 4],
 (.seq (.reg false [⟨some 4, .assign (.const (.bool false)), none⟩])
 (.seq (.reg false [⟨some 5, .move (.tmp 0), none⟩,
    ⟨some 6, .move (.tmp 1), none⟩,
    ⟨some 7, .call { callee := .value (.func 123), args := #[.tmp 5, .tmp 6], argTypes := #[32, 182] }, none⟩,
    ⟨some 8, .binOp .geq 3 (.tmp 7) (.const (.int .i64 0)) 3, none⟩,
    ⟨some 4, .assign (.tmp 8), none⟩])
 .ret))⟩
theorem sf79 : sfOf Try.f79 = some s79 := by kernel_rfl
theorem hb79 : hasBody Try.prog 79 = true := by kernel_rfl
def s84 : SF := ⟨57, [.tmp 4],
 (.seq (.reg false [⟨some 2, .box 54 (.tmp 0), none⟩,
    ⟨some 3, .box 57 (.tmp 1), none⟩,
    ⟨some 4, .assign (.const (.int .i64 0)), none⟩])
 (.seq (.seq (.reg false [⟨some 8, .load 54 (.tmp 2), none⟩,
     ⟨some 9, .call { callee := .value (.func 124), args := #[.tmp 8], argTypes := #[54] }, none⟩,
     ⟨some 5, .assign (.tmp 9), none⟩])
  (.seq (.reg false [⟨some 10, .move (.tmp 5), none⟩,
     ⟨some 11, .binOp .neq 34 (.tmp 10) (.const (.int .i64 0)) 34, none⟩])
  (.cond (.tmp 11)
   (.seq (.reg false [⟨some 12, .move (.tmp 5), none⟩,
       ⟨some 4, .assign (.tmp 12), none⟩])
    .ret)
   .skip)))
 (.seq (.block 0 (.seq (.reg false [⟨some 14, .load 57 (.tmp 3), none⟩,
      ⟨some 15, .call { callee := .value (.func 125), args := #[.tmp 14], argTypes := #[57] }, none⟩,
      ⟨some 16, .unOp .not 4 (.tmp 15), none⟩,
      ⟨some 13, .assign (.tmp 16), none⟩])
   (.cond (.tmp 13)
    (.seq (.reg false [⟨some 4, .assign (.const (.int .i64 4)), none⟩])
     .ret)
    (.seq (.seq (.reg false [⟨some 18, .fieldAddr 54 (.tmp 2) 0, none⟩,
         ⟨some 19, .load 51 (.tmp 18), none⟩,
         ⟨some 20, .call { callee := .builtin .len, args := #[.tmp 19], argTypes := #[51] }, none⟩,
         ⟨some 21, .binOp .sub 3 (.tmp 20) (.const (.int .i64 1)) 3, none⟩,
         ⟨some 22, .fieldAddr 57 (.tmp 3) 0, none⟩,
         ⟨some 23, .load 32 (.tmp 22), none⟩,
         ⟨some 24, .call { callee := .value (.func 126), args := #[.const (.int .i64 0), .tmp 21, .tmp 23], argTypes := #[3, 3, 32] }, none⟩,
         ⟨some 25, .unOp .not 4 (.tmp 24), none⟩,
         ⟨some 17, .assign (.tmp 25), none⟩])
      (.cond (.tmp 17)
       .skip
       (.reg false [⟨some 26, .fieldAddr 54 (.tmp 2) 1, none⟩,
          ⟨some 27, .load 52 (.tmp 26), none⟩,
          ⟨some 28, .call { callee := .builtin .len, args := #[.tmp 27], argTypes := #[52] }, none⟩,
          ⟨some 29, .binOp .sub 3 (.tmp 28) (.const (.int .i64 1)) 3, none⟩,
          ⟨some 30, .fieldAddr 57 (.tmp 3) 1, none⟩,
          ⟨some 31, .load 32 (.tmp 30), none⟩,
          ⟨some 32, .call { callee := .value (.func 126), args := #[.const (.int .i64 0), .tmp 29, .tmp 31], argTypes := #[3, 3, 32] }, none⟩,
          ⟨some 33, .unOp .not 4 (.tmp 32), none⟩,
          ⟨some 17, .assign (.tmp 33), none⟩])))
     (.cond (.tmp 17)
      (.seq (.reg false [⟨some 4, .assign (.const (.int .i64 7)), none⟩])
       .ret)
      .skip)))))
 (.seq (.seq (.reg false [⟨some 34, .fieldAddr 57 (.tmp 3) 1, none⟩,
     ⟨some 35, .load 32 (.tmp 34), none⟩,
     ⟨some 36, .call { callee := .builtin .len, args := #[.tmp 35], argTypes := #[32] }, none⟩,
     ⟨some 37, .call { callee := .value (.func 127), args := #[.tmp 36], argTypes := #[3] }, none⟩,
     ⟨some 38, .call { callee := .builtin .len, args := #[.tmp 37], argTypes := #[224] }, none⟩,
     ⟨some 39, .move (.const (.int .i64 0)), none⟩])
  (.block 1 (.loop (.seq (.reg false [⟨some 40, .binOp .lss 3 (.tmp 39) (.tmp 38) 3, none⟩])
    (.seq (.cond (.tmp 40)
      .skip
      (.exit 1))
    (.seq (.block 2 (.seq (.reg false [⟨some 41, .move (.tmp 39), none⟩,
         ⟨some 42, .indexAddr 224 (.tmp 37) (.tmp 39), none⟩,
         ⟨some 43, .load 87 (.tmp 42), none⟩,
         ⟨some 6, .assign (.tmp 41), none⟩,
         ⟨some 7, .assign (.tmp 43), none⟩])
      (.seq (.reg true [⟨some 44, .fieldAddr 54 (.tmp 2) 0, none⟩,
         ⟨some 45, .load 51 (.tmp 44), none⟩,
         ⟨some 46, .fieldAddr 57 (.tmp 3) 0, none⟩,
         ⟨some 47, .load 32 (.tmp 46), none⟩,
         ⟨some 48, .move (.tmp 6), none⟩,
         ⟨some 49, .indexAddr 32 (.tmp 47) (.tmp 48), none⟩,
         ⟨some 50, .load 3 (.tmp 49), none⟩,
         ⟨some 51, .indexAddr 51 (.tmp 45) (.tmp 50), none⟩,
         ⟨some 52, .fieldAddr 89 (.tmp 51) 0, none⟩,
         ⟨some 53, .load 87 (.tmp 52), none⟩,
         ⟨some 54, .move (.tmp 7), none⟩,
         ⟨some 55, .binOp .neq 87 (.tmp 53) (.tmp 54) 87, none⟩])
      (.cond (.tmp 55)
       (.seq (.reg false [⟨some 4, .assign (.const (.int .i64 2)), none⟩])
        .ret)
       .skip))))
    (.reg false [⟨some 56, .binOp .add 3 (.tmp 39) (.const (.int .i64 1)) 3, none⟩,
      ⟨some 39, .move (.tmp 56), none⟩])))))))
 (.seq (.reg false [⟨some 4, .assign (.const (.int .i64 0)), none⟩])
 .ret)))))⟩
theorem sf84 : sfOf Try.f84 = some s84 := by kernel_rfl
theorem hb84 : hasBody Try.prog 84 = true := by kernel_rfl
def s85 : SF := ⟨30, [.cell 4 132],
 (.seq (.reg false [⟨some 2, .box 54 (.tmp 0), none⟩,
    ⟨some 3, .box 57 (.tmp 1), none⟩,
    ⟨some 4, .alloc 132, none⟩])
 (.seq (.reg false [⟨some 8, .load 57 (.tmp 3), none⟩,
    ⟨some 9, .load 54 (.tmp 2), none⟩,
    ⟨some 10, .build 132 #[(0, (.tmp 8)), (1, (.tmp 9)), (2, (.const (.int .i64 1)))], none⟩,
    ⟨some 5, .alloc 132, none⟩,
    ⟨none, .store 132 (.tmp 5) (.tmp 10), none⟩])
 (.seq (.seq (.reg false [⟨some 11, .fieldAddr 57 (.tmp 3) 1, none⟩,
     ⟨some 12, .load 32 (.tmp 11), none⟩,
     ⟨some 13, .call { callee := .builtin .len, args := #[.tmp 12], argTypes := #[32] }, none⟩,
     ⟨some 14, .move (.const (.int .i64 0)), none⟩])
  (.block 0 (.loop (.seq (.reg false [⟨some 15, .binOp .lss 3 (.tmp 14) (.tmp 13) 3, none⟩])
    (.seq (.cond (.tmp 15)
      .skip
      (.exit 0))
    (.seq (.block 1 (.seq (.reg false [⟨some 16, .indexAddr 32 (.tmp 12) (.tmp 14), none⟩,
         ⟨some 17, .load 3 (.tmp 16), none⟩,
         ⟨some 7, .assign (.tmp 17), none⟩])
      (.reg true [⟨some 18, .fieldAddr 132 (.tmp 5) 2, none⟩,
        ⟨some 19, .load 3 (.tmp 18), none⟩,
        ⟨some 20, .fieldAddr 54 (.tmp 2) 1, none⟩,
        ⟨some 21, .load 52 (.tmp 20), none⟩,
        ⟨some 22, .move (.tmp 7), none⟩,
        ⟨some 23, .indexAddr 52 (.tmp 21) (.tmp 22), none⟩,
        ⟨some 24, .fieldAddr 129 (.tmp 23) 0, none⟩,
        ⟨some 25, .load 3 (.tmp 24), none⟩,
        ⟨some 26, .binOp .mul 3 (.tmp 19) (.tmp 25) 3, none⟩,
        ⟨some 27, .fieldAddr 132 (.tmp 5) 2, none⟩,
        ⟨none, .store 3 (.tmp 27) (.tmp 26), none⟩])))
    (.reg false [⟨some 28, .binOp .add 3 (.tmp 14) (.const (.int .i64 1)) 3, none⟩,
      ⟨some 14, .move (.tmp 28), none⟩])))))))
 (.seq (.reg false [⟨some 29, .load 132 (.tmp 5), none⟩,
    ⟨none, .store 132 (.tmp 4) (.tmp 29), none⟩])
 .ret))))⟩
theorem sf85 : sfOf Try.f85 = some s85 := by kernel_rfl
theorem hb85 : hasBody Try.prog 85 = true := by kernel_rfl
def s86 : SF := ⟨5, [.tmp 2],
 (.seq (.reg false [⟨some 1, .box 60 (.tmp 0), none⟩,
    ⟨some 2, .assign (.const (.int .i64 0)), none⟩])
 (.seq (.reg false [⟨some 3, .fieldAddr 60 (.tmp 1) 0, none⟩,
    ⟨some 4, .load 3 (.tmp 3), none⟩,
    ⟨some 2, .assign (.tmp 4), none⟩])
 .ret))⟩
theorem sf86 : sfOf Try.f86 = some s86 := by kernel_rfl
theorem hb86 : hasBody Try.prog 86 = true := by kernel_rfl
def s87 : SF := ⟨5, [.tmp 2],
 (.seq (.reg false [⟨some 1, .box 60 (.tmp 0), none⟩,
    ⟨some 2, .assign (.const (.int .i64 0)), none⟩])
 (.seq (.reg false [⟨some 3, .fieldAddr 60 (.tmp 1) 1, none⟩,
    ⟨some 4, .load 3 (.tmp 3), none⟩,
    ⟨some 2, .assign (.tmp 4), none⟩])
 .ret))⟩
theorem sf87 : sfOf Try.f87 = some s87 := by kernel_rfl
theorem hb87 : hasBody Try.prog 87 = true := by kernel_rfl
def s88 : SF := ⟨12, [.tmp 4],
 (.seq (.reg false [⟨some 2, .box 132 (.tmp 0), none⟩,
    ⟨some 3, .box 186 (.tmp 1), none⟩,
    ⟨some 4, .assign (.const (.int .i64 0)), none⟩])
 (.seq (.reg true [⟨some 5, .load 132 (.tmp 2), none⟩,
    ⟨some 6, .makeFunc (.func 128) #[] #[.tmp 3], none⟩,
    ⟨some 7, .call { callee := .value (.func 60), args := #[.tmp 5, .tmp 6], argTypes := #[132, 156] }, none⟩,
    ⟨some 8, .fieldAddr 132 (.tmp 2) 2, none⟩,
    ⟨some 9, .load 3 (.tmp 8), none⟩,
    ⟨some 10, .binOp .mul 3 (.const (.int .i64 1000)) (.tmp 9) 3, none⟩,
    ⟨some 11, .binOp .quo 3 (.tmp 7) (.tmp 10) 3, none⟩,
    ⟨some 4, .assign (.tmp 11), none⟩])
 .ret))⟩
theorem sf88 : sfOf Try.f88 = some s88 := by kernel_rfl
theorem hb88 : hasBody Try.prog 88 = true := by kernel_rfl
def s89 : SF := ⟨54, [.tmp 4],
 (.seq (.reg false [⟨some 2, .box 132 (.tmp 0), none⟩,
    ⟨some 4, .assign (.const (.int .i64 0)), none⟩])
 (.seq (.seq (.reg false [⟨some 9, .fieldAddr 132 (.tmp 2) 0, none⟩,
     ⟨some 10, .fieldAddr 57 (.tmp 9) 0, none⟩,
     ⟨some 11, .load 32 (.tmp 10), none⟩,
     ⟨some 12, .call { callee := .builtin .len, args := #[.tmp 11], argTypes := #[32] }, none⟩,
     ⟨some 13, .move (.const (.int .i64 0)), none⟩])
  (.block 0 (.loop (.seq (.reg false [⟨some 14, .binOp .lss 3 (.tmp 13) (.tmp 12) 3, none⟩])
    (.seq (.cond (.tmp 14)
      .skip
      (.exit 0))
    (.seq (.block 1 (.seq (.reg false [⟨some 15, .move (.tmp 13), none⟩,
         ⟨some 16, .indexAddr 32 (.tmp 11) (.tmp 13), none⟩,
         ⟨some 17, .load 3 (.tmp 16), none⟩,
         ⟨some 5, .assign (.tmp 15), none⟩,
         ⟨some 6, .assign (.tmp 17), none⟩])
      (.seq (.reg false [⟨some 18, .move (.tmp 5), none⟩,
         ⟨some 19, .binOp .rem 3 (.tmp 18) (.const (.int .i64 2)) 3, none⟩,
         ⟨some 20, .binOp .eql 3 (.tmp 19) (.const (.int .i64 0)) 3, none⟩])
      (.cond (.tmp 20)
       (.reg false [⟨some 21, .move (.tmp 4), none⟩,
          ⟨some 22, .move (.tmp 1), none⟩,
          ⟨some 23, .fieldAddr 132 (.tmp 2) 1, none⟩,
          ⟨some 24, .fieldAddr 54 (.tmp 23) 0, none⟩,
          ⟨some 25, .load 51 (.tmp 24), none⟩,
          ⟨some 26, .move (.tmp 6), none⟩,
          ⟨some 27, .indexAddr 51 (.tmp 25) (.tmp 26), none⟩,
          ⟨some 28, .fieldAddr 89 (.tmp 27) 2, none⟩,
          ⟨some 29, .load 60 (.tmp 28), none⟩,
          ⟨some 30, .call { callee := .value (.tmp 22), args := #[.tmp 29], argTypes := #[60] }, none⟩,
          ⟨some 31, .binOp .add 3 (.tmp 21) (.tmp 30) 3, none⟩,
          ⟨some 4, .assign (.tmp 31), none⟩])
       .skip))))
    (.reg false [⟨some 32, .binOp .add 3 (.tmp 13) (.const (.int .i64 1)) 3, none⟩,
      ⟨some 13, .move (.tmp 32), none⟩])))))))
 (.seq (.seq (.reg false [⟨some 33, .fieldAddr 132 (.tmp 2) 0, none⟩,
     ⟨some 34, .fieldAddr 57 (.tmp 33) 1, none⟩,
     ⟨some 35, .load 32 (.tmp 34), none⟩,
     ⟨some 36, .call { callee := .builtin .len, args := #[.tmp 35], argTypes := #[32] }, none⟩,
     ⟨some 37, .move (.const (.int .i64 0)), none⟩])
  (.block 2 (.loop (.seq (.reg false [⟨some 38, .binOp .lss 3 (.tmp 37) (.tmp 36) 3, none⟩])
    (.seq (.cond (.tmp 38)
      .skip
      (.exit 2))
    (.seq (.block 3 (.seq (.reg false [⟨some 39, .indexAddr 32 (.tmp 35) (.tmp 37), none⟩,
         ⟨some 40, .load 3 (.tmp 39), none⟩,
         ⟨some 8, .assign (.tmp 40), none⟩])
      (.reg false [⟨some 41, .move (.tmp 4), none⟩,
        ⟨some 42, .move (.tmp 1), none⟩,
        ⟨some 43, .fieldAddr 132 (.tmp 2) 1, none⟩,
        ⟨some 44, .fieldAddr 54 (.tmp 43) 1, none⟩,
        ⟨some 45, .load 52 (.tmp 44), none⟩,
        ⟨some 46, .move (.tmp 8), none⟩,
        ⟨some 47, .indexAddr 52 (.tmp 45) (.tmp 46), none⟩,
        ⟨some 48, .fieldAddr 129 (.tmp 47) 2, none⟩,
        ⟨some 49, .load 60 (.tmp 48), none⟩,
        ⟨some 50, .call { callee := .value (.tmp 42), args := #[.tmp 49], argTypes := #[60] }, none⟩,
        ⟨some 51, .binOp .add 3 (.tmp 41) (.tmp 50) 3, none⟩,
        ⟨some 4, .assign (.tmp 51), none⟩])))
    (.reg false [⟨some 52, .binOp .add 3 (.tmp 37) (.const (.int .i64 1)) 3, none⟩,
      ⟨some 37, .move (.tmp 52), none⟩])))))))
 (.seq (.reg false [⟨some 53, .move (.tmp 4), none⟩,
    ⟨some 4, .assign (.tmp 53), none⟩])
 .ret))))⟩
theorem sf89 : sfOf Try.f89 = some s89 := by kernel_rfl
theorem hb89 : hasBody Try.prog 89 = true := by kernel_rfl
def s90 : SF := ⟨5, [.tmp 2],
 (.seq (.reg false [⟨some 1, .box 89 (.tmp 0), none⟩,
    ⟨some 2, .assign (.const (.int .i64 0)), none⟩])
 (.seq (.reg false [⟨some 3, .fieldAddr 89 (.tmp 1) 5, none⟩,
    ⟨some 4, .load 3 (.tmp 3), none⟩,
    ⟨some 2, .assign (.tmp 4), none⟩])
 .ret))⟩
theorem sf90 : sfOf Try.f90 = some s90 := by kernel_rfl
theorem hb90 : hasBody Try.prog 90 = true := by kernel_rfl
def s91 : SF := ⟨13, [.tmp 4],
 (.seq (.reg false [⟨some 4, .assign (.const (.bool false)), none⟩])
 (.seq (.reg false [⟨some 5, .move (.tmp 0), none⟩,
    ⟨some 6, .load 3 (.tmp 1), none⟩,
    ⟨some 7, .binOp .lss 3 (.tmp 5) (.tmp 6) 3, none⟩,
    ⟨some 8, .move (.tmp 7), none⟩,
    ⟨some 9, .move (.tmp 0), some (8, false)⟩,
    ⟨some 10, .load 3 (.tmp 2), some (8, false)⟩,
    ⟨some 11, .binOp .gtr 3 (.tmp 9) (.tmp 10) 3, some (8, false)⟩,
    ⟨some 12, .pick (.tmp 8) (.const (.bool true)) (.tmp 11), none⟩,
    ⟨some 4, .assign (.tmp 12), none⟩])
 .ret))⟩
theorem sf91 : sfOf Try.f91 = some s91 := by kernel_rfl
theorem hb91 : hasBody Try.prog 91 = true := by kernel_rfl
def s92 : SF := ⟨26, [.tmp 4],
 (.seq (.reg false [⟨some 4, .assign (.const (.int .i64 0)), none⟩])
 (.seq (.reg false [⟨some 8, .move (.tmp 0), none⟩,
    ⟨some 5, .assign (.const (.int .i64 0)), none⟩,
    ⟨some 6, .assign (.tmp 8), none⟩])
 (.seq (.block 0 (.loop (.seq (.seq (.reg false [⟨some 9, .move (.tmp 5), none⟩,
        ⟨some 10, .move (.tmp 6), none⟩,
        ⟨some 11, .binOp .lss 3 (.tmp 9) (.tmp 10) 3, none⟩])
     (.cond (.tmp 11)
      .skip
      (.exit 0)))
    (.block 1 (.seq (.reg false [⟨some 12, .move (.tmp 5), none⟩,
        ⟨some 13, .move (.tmp 6), none⟩,
        ⟨some 14, .binOp .add 3 (.tmp 12) (.tmp 13) 3, none⟩,
        ⟨some 15, .convert 3 226 (.tmp 14), none⟩,
        ⟨some 16, .binOp .shr 226 (.tmp 15) (.const (.int .u64 1)) 226, none⟩,
        ⟨some 17, .convert 226 3 (.tmp 16), none⟩,
        ⟨some 7, .assign (.tmp 17), none⟩])
     (.seq (.reg false [⟨some 18, .move (.tmp 1), none⟩,
        ⟨some 19, .move (.tmp 7), none⟩,
        ⟨some 20, .call { callee := .value (.tmp 18), args := #[.tmp 19], argTypes := #[3] }, none⟩,
        ⟨some 21, .unOp .not 4 (.tmp 20), none⟩])
     (.cond (.tmp 21)
      (.reg false [⟨some 22, .move (.tmp 7), none⟩,
         ⟨some 23, .binOp .add 3 (.tmp 22) (.const (.int .i64 1)) 3, none⟩,
         ⟨some 5, .assign (.tmp 23), none⟩])
      (.reg false [⟨some 24, .move (.tmp 7), none⟩,
         ⟨some 6, .assign (.tmp 24), none⟩]))))))))
 (.seq (.reg false [⟨some 25, .move (.tmp 5), none⟩,
    ⟨some 4, .assign (.tmp 25), none⟩])
 .ret))))⟩
theorem sf92 : sfOf Try.f92 = some s92 := by kernel_rfl
theorem hb92 : hasBody Try.prog 92 = true := by kernel_rfl
def s93 : SF := ⟨11, [.tmp 3],
 (.seq (.reg false [⟨some 3, .assign (.const (.bool false)), none⟩])
 (.seq (.reg false [⟨some 4, .move (.tmp 0), none⟩,
    ⟨some 5, .binOp .add 3 (.tmp 4) (.const (.int .i64 1)) 3, none⟩,
    ⟨some 6, .move (.tmp 0), none⟩,
    ⟨some 7, .binOp .add 3 (.tmp 6) (.const (.int .i64 1)) 3, none⟩,
    ⟨some 8, .binOp .mul 3 (.tmp 5) (.tmp 7) 3, none⟩,
    ⟨some 9, .load 3 (.tmp 1), none⟩,
    ⟨some 10, .binOp .gtr 3 (.tmp 8) (.tmp 9) 3, none⟩,
    ⟨some 3, .assign (.tmp 10), none⟩])
 .ret))⟩
theorem sf93 : sfOf Try.f93 = some s93 := by kernel_rfl
theorem hb93 : hasBody Try.prog 93 = true := by kernel_rfl
def s94 : SF := ⟨15, [.tmp 4],
 (.seq (.reg false [⟨some 4, .assign (.const (.int .i64 0)), none⟩])
 (.seq (.reg false [⟨some 5, .assign (.func 129), none⟩])
 (.seq (.block 0 (.seq (.reg false [⟨some 7, .move (.tmp 0), none⟩,
      ⟨some 8, .call { callee := .builtin .len, args := #[.tmp 7], argTypes := #[190] }, none⟩,
      ⟨some 9, .move (.tmp 1), none⟩,
      ⟨some 10, .binOp .gtr 3 (.tmp 8) (.tmp 9) 3, none⟩,
      ⟨some 6, .assign (.tmp 10), none⟩])
   (.cond (.tmp 6)
    (.seq (.reg false [⟨some 4, .assign (.const (.int .i64 5)), none⟩])
     .ret)
    (.seq (.reg false [⟨some 12, .move (.tmp 0), none⟩,
        ⟨some 13, .move (.tmp 5), none⟩,
        ⟨some 14, .call { callee := .value (.func 130), args := #[.tmp 12, .tmp 13], argTypes := #[190, 227] }, none⟩,
        ⟨some 11, .assign (.tmp 14), none⟩])
     (.cond (.tmp 11)
      (.seq (.reg false [⟨some 4, .assign (.const (.int .i64 2)), none⟩])
       .ret)
      .skip)))))
 (.seq (.reg false [⟨some 4, .assign (.const (.int .i64 0)), none⟩])
 .ret))))⟩
theorem sf94 : sfOf Try.f94 = some s94 := by kernel_rfl
theorem hb94 : hasBody Try.prog 94 = true := by kernel_rfl
def s95 : SF := ⟨76, [.cell 4 192, .tmp 5],
 (.seq (.reg false [⟨some 4, .alloc 192, none⟩,
    ⟨some 5, .assign (.const (.int .i64 0)), none⟩])
 (.seq (.seq (.reg false [⟨some 8, .move (.tmp 0), none⟩,
     ⟨some 9, .call { callee := .builtin .len, args := #[.tmp 8], argTypes := #[146] }, none⟩,
     ⟨some 10, .buildSlice 32 1 #[(0, (.tmp 9))], none⟩,
     ⟨some 11, .call { callee := .value (.func 52), args := #[.const (.int .i64 1), .const (.int .i64 10), .tmp 10], argTypes := #[3, 3, 32] }, none⟩,
     ⟨some 12, .unOp .not 4 (.tmp 11), none⟩,
     ⟨some 13, .move (.tmp 12), none⟩,
     ⟨some 14, .move (.tmp 0), some (13, false)⟩,
     ⟨some 15, .indexAddr 146 (.tmp 14) (.const (.int .i64 0)), some (13, false)⟩,
     ⟨some 16, .fieldAddr 145 (.tmp 15) 0, some (13, false)⟩,
     ⟨some 17, .load 3 (.tmp 16), some (13, false)⟩,
     ⟨some 18, .binOp .neq 3 (.tmp 17) (.const (.int .i64 0)) 3, some (13, false)⟩,
     ⟨some 19, .pick (.tmp 13) (.const (.bool true)) (.tmp 18), none⟩])
  (.cond (.tmp 19)
   (.seq (.reg false [⟨some 20, .load 192 (.tmp 4), none⟩,
       ⟨none, .store 192 (.tmp 4) (.tmp 20), none⟩,
       ⟨some 5, .assign (.const (.int .i64 4)), none⟩])
    .ret)
   .skip))
 (.seq (.seq (.reg false [⟨some 21, .move (.tmp 0), none⟩,
     ⟨some 22, .call { callee := .builtin .len, args := #[.tmp 21], argTypes := #[146] }, none⟩,
     ⟨some 23, .move (.const (.int .i64 0)), none⟩])
  (.block 0 (.loop (.seq (.reg false [⟨some 24, .binOp .lss 3 (.tmp 23) (.tmp 22) 3, none⟩])
    (.seq (.cond (.tmp 24)
      .skip
      (.exit 0))
    (.seq (.block 1 (.seq (.reg false [⟨some 25, .move (.tmp 23), none⟩,
         ⟨some 26, .indexAddr 146 (.tmp 21) (.tmp 23), none⟩,
         ⟨some 27, .load 145 (.tmp 26), none⟩,
         ⟨some 7, .alloc 145, none⟩,
         ⟨some 6, .assign (.tmp 25), none⟩,
         ⟨none, .store 145 (.tmp 7) (.tmp 27), none⟩])
      (.seq (.reg true [⟨some 28, .fieldAddr 145 (.tmp 7) 0, none⟩,
         ⟨some 29, .load 3 (.tmp 28), none⟩,
         ⟨some 30, .buildSlice 32 1 #[(0, (.tmp 29))], none⟩,
         ⟨some 31, .call { callee := .value (.func 52), args := #[.const (.int .i64 0), .const (.int .i64 10000), .tmp 30], argTypes := #[3, 3, 32] }, none⟩,
         ⟨some 32, .unOp .not 4 (.tmp 31), none⟩,
         ⟨some 33, .move (.tmp 32), none⟩,
         ⟨some 34, .fieldAddr 145 (.tmp 7) 1, some (33, false)⟩,
         ⟨some 35, .load 3 (.tmp 34), some (33, false)⟩,
         ⟨some 36, .buildSlice 32 1 #[(0, (.tmp 35))], some (33, false)⟩,
         ⟨some 37, .call { callee := .value (.func 52), args := #[.const (.int .i64 0), .const (.int .i64 1000), .tmp 36], argTypes := #[3, 3, 32] }, some (33, false)⟩,
         ⟨some 38, .unOp .not 4 (.tmp 37), some (33, false)⟩,
         ⟨some 39, .pick (.tmp 33) (.const (.bool true)) (.tmp 38), none⟩,
         ⟨some 40, .move (.tmp 39), none⟩,
         ⟨some 41, .move (.tmp 6), some (40, false)⟩,
         ⟨some 42, .binOp .gtr 3 (.tmp 41) (.const (.int .i64 0)) 3, some (40, false)⟩,
         ⟨some 43, .move (.tmp 42), some (40, false)⟩,
         ⟨some 44, .fieldAddr 145 (.tmp 7) 0, some (43, true)⟩,
         ⟨some 45, .load 3 (.tmp 44), some (43, true)⟩,
         ⟨some 46, .move (.tmp 0), some (43, true)⟩,
         ⟨some 47, .move (.tmp 6), some (43, true)⟩,
         ⟨some 48, .binOp .sub 3 (.tmp 47) (.const (.int .i64 1)) 3, some (43, true)⟩,
         ⟨some 49, .indexAddr 146 (.tmp 46) (.tmp 48), some (43, true)⟩,
         ⟨some 50, .fieldAddr 145 (.tmp 49) 0, some (43, true)⟩,
         ⟨some 51, .load 3 (.tmp 50), some (43, true)⟩,
         ⟨some 52, .binOp .leq 3 (.tmp 45) (.tmp 51) 3, some (43, true)⟩,
         ⟨some 53, .move (.tmp 52), some (43, true)⟩,
         ⟨some 54, .fieldAddr 145 (.tmp 7) 1, some (53, false)⟩,
         ⟨some 55, .load 3 (.tmp 54), some (53, false)⟩,
         ⟨some 56, .move (.tmp 0), some (53, false)⟩,
         ⟨some 57, .move (.tmp 6), some (53, false)⟩,
         ⟨some 58, .binOp .sub 3 (.tmp 57) (.const (.int .i64 1)) 3, some (53, false)⟩,
         ⟨some 59, .indexAddr 146 (.tmp 56) (.tmp 58), some (53, false)⟩,
         ⟨some 60, .fieldAddr 145 (.tmp 59) 1, some (53, false)⟩,
         ⟨some 61, .load 3 (.tmp 60), some (53, false)⟩,
         ⟨some 62, .binOp .gtr 3 (.tmp 55) (.tmp 61) 3, some (53, false)⟩,
         ⟨some 63, .pick (.tmp 53) (.const (.bool true)) (.tmp 62), some (43, true)⟩,
         ⟨some 64, .pick (.tmp 43) (.tmp 63) (.const (.bool false)), some (40, false)⟩,
         ⟨some 65, .pick (.tmp 40) (.const (.bool true)) (.tmp 64), none⟩])
      (.cond (.tmp 65)
       (.seq (.reg false [⟨some 66, .load 192 (.tmp 4), none⟩,
           ⟨none, .store 192 (.tmp 4) (.tmp 66), none⟩,
           ⟨some 5, .assign (.const (.int .i64 4)), none⟩])
        .ret)
       .skip))))
    (.reg false [⟨some 67, .binOp .add 3 (.tmp 23) (.const (.int .i64 1)) 3, none⟩,
      ⟨some 23, .move (.tmp 67), none⟩])))))))
 (.seq (.seq (.reg false [⟨some 68, .move (.tmp 1), none⟩,
     ⟨some 69, .buildSlice 32 1 #[(0, (.tmp 68))], none⟩,
     ⟨some 70, .call { callee := .value (.func 52), args := #[.const (.int .i64 0), .const (.int .i64 10000), .tmp 69], argTypes := #[3, 3, 32] }, none⟩,
     ⟨some 71, .unOp .not 4 (.tmp 70), none⟩])
  (.cond (.tmp 71)
   (.seq (.reg false [⟨some 72, .load 192 (.tmp 4), none⟩,
       ⟨none, .store 192 (.tmp 4) (.tmp 72), none⟩,
       ⟨some 5, .assign (.const (.int .i64 3)), none⟩])
    .ret)
   .skip))
 (.seq (.reg false [⟨some 73, .move (.tmp 0), none⟩,
    ⟨some 74, .move (.tmp 1), none⟩,
    ⟨some 75, .build 192 #[(0, (.tmp 73)), (1, (.tmp 74))], none⟩,
    ⟨none, .store 192 (.tmp 4) (.tmp 75), none⟩,
    ⟨some 5, .assign (.const (.int .i64 0)), none⟩])
 .ret)))))⟩
theorem sf95 : sfOf Try.f95 = some s95 := by kernel_rfl
theorem hb95 : hasBody Try.prog 95 = true := by kernel_rfl
def s96 : SF := ⟨11, [.tmp 4],
 (.seq (.reg false [⟨some 2, .box 143 (.tmp 0), none⟩,
    ⟨some 4, .assign (.const (.int .i64 0)), none⟩])
 (.seq (.reg false [⟨some 5, .fieldAddr 143 (.tmp 2) 0, none⟩,
    ⟨some 6, .fieldAddr 60 (.tmp 5) 0, none⟩,
    ⟨some 7, .load 3 (.tmp 6), none⟩,
    ⟨some 8, .move (.tmp 1), none⟩,
    ⟨some 9, .binOp .mul 3 (.tmp 7) (.tmp 8) 3, none⟩,
    ⟨some 10, .binOp .quo 3 (.tmp 9) (.const (.int .i64 1000)) 3, none⟩,
    ⟨some 4, .assign (.tmp 10), none⟩])
 .ret))⟩
theorem sf96 : sfOf Try.f96 = some s96 := by kernel_rfl
theorem hb96 : hasBody Try.prog 96 = true := by kernel_rfl
def s97 : SF := ⟨21, [.tmp 2],
 (.seq (.reg false [⟨some 1, .box 192 (.tmp 0), none⟩,
    ⟨some 2, .assign (.const (.int .i64 0)), none⟩])
 (.seq (.seq (.reg false [⟨some 5, .fieldAddr 192 (.tmp 1) 0, none⟩,
     ⟨some 6, .load 146 (.tmp 5), none⟩,
     ⟨some 7, .call { callee := .builtin .len, args := #[.tmp 6], argTypes := #[146] }, none⟩,
     ⟨some 8, .move (.const (.int .i64 0)), none⟩])
  (.block 0 (.loop (.seq (.reg false [⟨some 9, .binOp .lss 3 (.tmp 8) (.tmp 7) 3, none⟩])
    (.seq (.cond (.tmp 9)
      .skip
      (.exit 0))
    (.seq (.block 1 (.seq (.reg false [⟨some 10, .indexAddr 146 (.tmp 6) (.tmp 8), none⟩,
         ⟨some 11, .load 145 (.tmp 10), none⟩,
         ⟨some 4, .alloc 145, none⟩,
         ⟨none, .store 145 (.tmp 4) (.tmp 11), none⟩])
      (.seq (.reg false [⟨some 12, .fieldAddr 145 (.tmp 4) 0, none⟩,
         ⟨some 13, .load 3 (.tmp 12), none⟩,
         ⟨some 14, .fieldAddr 192 (.tmp 1) 1, none⟩,
         ⟨some 15, .load 3 (.tmp 14), none⟩,
         ⟨some 16, .binOp .leq 3 (.tmp 13) (.tmp 15) 3, none⟩])
      (.cond (.tmp 16)
       (.reg false [⟨some 17, .fieldAddr 145 (.tmp 4) 1, none⟩,
          ⟨some 18, .load 3 (.tmp 17), none⟩,
          ⟨some 2, .assign (.tmp 18), none⟩])
       .skip))))
    (.reg false [⟨some 19, .binOp .add 3 (.tmp 8) (.const (.int .i64 1)) 3, none⟩,
      ⟨some 8, .move (.tmp 19), none⟩])))))))
 (.seq (.reg false [⟨some 20, .move (.tmp 2), none⟩,
    ⟨some 2, .assign (.tmp 20), none⟩])
 .ret)))⟩
theorem sf97 : sfOf Try.f97 = some s97 := by kernel_rfl
theorem hb97 : hasBody Try.prog 97 = true := by kernel_rfl
def s105 : SF := ⟨47, [],
 (.seq (.reg false [⟨some 2, .box 132 (.tmp 0), none⟩])
 (.seq (.reg false [⟨some 8, .fieldAddr 132 (.tmp 2) 0, none⟩,
    ⟨some 9, .fieldAddr 57 (.tmp 8) 0, none⟩,
    ⟨some 10, .load 32 (.tmp 9), none⟩,
    ⟨some 11, .call { callee := .builtin .len, args := #[.tmp 10], argTypes := #[32] }, none⟩,
    ⟨some 12, .move (.const (.int .i64 0)), none⟩])
 (.block 0 (.loop (.seq (.reg false [⟨some 13, .binOp .lss 3 (.tmp 12) (.tmp 11) 3, none⟩])
   (.seq (.cond (.tmp 13)
     .skip
     (.exit 0))
   (.seq (.block 1 (.seq (.reg false [⟨some 14, .move (.tmp 12), none⟩,
        ⟨some 15, .indexAddr 32 (.tmp 10) (.tmp 12), none⟩,
        ⟨some 16, .load 3 (.tmp 15), none⟩,
        ⟨some 4, .assign (.tmp 14), none⟩,
        ⟨some 5, .assign (.tmp 16), none⟩])
     (.seq (.reg false [⟨some 17, .fieldAddr 132 (.tmp 2) 2, none⟩,
        ⟨some 18, .load 3 (.tmp 17), none⟩,
        ⟨some 6, .assign (.tmp 18), none⟩])
     (.seq (.seq (.reg false [⟨some 19, .move (.tmp 4), none⟩,
         ⟨some 20, .binOp .rem 3 (.tmp 19) (.const (.int .i64 2)) 3, none⟩,
         ⟨some 21, .binOp .eql 3 (.tmp 20) (.const (.int .i64 1)) 3, none⟩])
      (.cond (.tmp 21)
       (.seq (.reg true [⟨some 22, .fieldAddr 132 (.tmp 2) 1, none⟩,
           ⟨some 23, .fieldAddr 54 (.tmp 22) 1, none⟩,
           ⟨some 24, .load 52 (.tmp 23), none⟩,
           ⟨some 25, .fieldAddr 132 (.tmp 2) 0, none⟩,
           ⟨some 26, .fieldAddr 57 (.tmp 25) 1, none⟩,
           ⟨some 27, .load 32 (.tmp 26), none⟩,
           ⟨some 28, .move (.tmp 4), none⟩,
           ⟨some 29, .binOp .quo 3 (.tmp 28) (.const (.int .i64 2)) 3, none⟩,
           ⟨some 30, .indexAddr 32 (.tmp 27) (.tmp 29), none⟩,
           ⟨some 31, .load 3 (.tmp 30), none⟩,
           ⟨some 32, .indexAddr 52 (.tmp 24) (.tmp 31), none⟩,
           ⟨some 33, .load 129 (.tmp 32), none⟩,
           ⟨some 7, .alloc 129, none⟩,
           ⟨none, .store 129 (.tmp 7) (.tmp 33), none⟩])
        (.reg true [⟨some 34, .move (.tmp 6), none⟩,
          ⟨some 35, .fieldAddr 129 (.tmp 7) 0, none⟩,
          ⟨some 36, .load 3 (.tmp 35), none⟩,
          ⟨some 37, .binOp .quo 3 (.tmp 34) (.tmp 36) 3, none⟩,
          ⟨some 38, .fieldAddr 129 (.tmp 7) 1, none⟩,
          ⟨some 39, .load 3 (.tmp 38), none⟩,
          ⟨some 40, .binOp .mul 3 (.tmp 37) (.tmp 39) 3, none⟩,
          ⟨some 6, .assign (.tmp 40), none⟩]))
       .skip))
     (.seq (.reg false [⟨some 41, .move (.tmp 1), none⟩,
        ⟨some 42, .move (.tmp 5), none⟩,
        ⟨some 43, .move (.tmp 6), none⟩,
        ⟨some 44, .call { callee := .value (.tmp 41), args := #[.tmp 42, .tmp 43], argTypes := #[3, 3] }, none⟩,
        ⟨some 45, .unOp .not 4 (.tmp 44), none⟩])
     (.cond (.tmp 45)
      .ret
      .skip))))))
   (.reg false [⟨some 46, .binOp .add 3 (.tmp 12) (.const (.int .i64 1)) 3, none⟩,
     ⟨some 12, .move (.tmp 46), none⟩]))))))))⟩
theorem sf105 : sfOf Try.f105 = some s105 := by kernel_rfl
theorem hb105 : hasBody Try.prog 105 = true := by kernel_rfl
def s117 : SF := ⟨14, [.cell 4 60],
 (.seq (.reg false [⟨some 4, .alloc 60, none⟩])
 (.seq (.reg false [⟨some 5, .move (.tmp 1), none⟩,
    ⟨some 6, .move (.tmp 0), none⟩,
    ⟨some 7, .binOp .sub 3 (.tmp 5) (.tmp 6) 3, none⟩,
    ⟨some 8, .call { callee := .builtin .max, args := #[.const (.int .i64 0), .tmp 7], argTypes := #[3, 3] }, none⟩,
    ⟨some 9, .move (.tmp 1), none⟩,
    ⟨some 10, .move (.tmp 0), none⟩,
    ⟨some 11, .binOp .add 3 (.tmp 9) (.tmp 10) 3, none⟩,
    ⟨some 12, .call { callee := .builtin .min, args := #[.const (.int .i64 100000), .tmp 11], argTypes := #[3, 3] }, none⟩,
    ⟨some 13, .build 60 #[(0, (.tmp 8)), (1, (.tmp 12))], none⟩,
    ⟨none, .store 60 (.tmp 4) (.tmp 13), none⟩])
 .ret))⟩
theorem sf117 : sfOf Try.f117 = some s117 := by kernel_rfl
theorem hb117 : hasBody Try.prog 117 = true := by kernel_rfl
def s118 : SF := ⟨20, [.cell 6 115],
 (.seq (.reg false [⟨some 3, .box 115 (.tmp 0), none⟩,
    ⟨some 6, .alloc 115, none⟩])
 (.seq (.reg false [⟨some 7, .fieldAddr 115 (.tmp 3) 0, none⟩,
    ⟨some 8, .load 3 (.tmp 7), none⟩,
    ⟨some 9, .move (.tmp 1), none⟩,
    ⟨some 10, .binOp .add 3 (.tmp 8) (.tmp 9) 3, none⟩,
    ⟨some 11, .fieldAddr 115 (.tmp 3) 0, none⟩,
    ⟨none, .store 3 (.tmp 11) (.tmp 10), none⟩])
 (.seq (.seq (.reg false [⟨some 12, .move (.tmp 1), none⟩,
     ⟨some 13, .move (.tmp 2), none⟩,
     ⟨some 14, .binOp .lss 3 (.tmp 12) (.tmp 13) 3, none⟩])
  (.cond (.tmp 14)
   (.reg false [⟨some 15, .fieldAddr 115 (.tmp 3) 1, none⟩,
      ⟨some 16, .load 3 (.tmp 15), none⟩,
      ⟨some 17, .binOp .add 3 (.tmp 16) (.const (.int .i64 1)) 3, none⟩,
      ⟨some 18, .fieldAddr 115 (.tmp 3) 1, none⟩,
      ⟨none, .store 3 (.tmp 18) (.tmp 17), none⟩])
   .skip))
 (.seq (.reg false [⟨some 19, .load 115 (.tmp 3), none⟩,
    ⟨none, .store 115 (.tmp 6) (.tmp 19), none⟩])
 .ret))))⟩
theorem sf118 : sfOf Try.f118 = some s118 := by kernel_rfl
theorem hb118 : hasBody Try.prog 118 = true := by kernel_rfl
def s123 : SF := ⟨19, [.tmp 4],
 (.seq (.reg false [⟨some 4, .assign (.const (.int .i64 0)), none⟩])
 (.seq (.seq (.reg false [⟨some 6, .move (.tmp 0), none⟩,
     ⟨some 7, .call { callee := .builtin .len, args := #[.tmp 6], argTypes := #[32] }, none⟩,
     ⟨some 8, .move (.const (.int .i64 0)), none⟩])
  (.block 0 (.loop (.seq (.reg false [⟨some 9, .binOp .lss 3 (.tmp 8) (.tmp 7) 3, none⟩])
    (.seq (.cond (.tmp 9)
      .skip
      (.exit 0))
    (.seq (.block 1 (.seq (.reg false [⟨some 10, .move (.tmp 8), none⟩,
         ⟨some 5, .assign (.tmp 10), none⟩])
      (.seq (.reg false [⟨some 11, .move (.tmp 1), none⟩,
         ⟨some 12, .move (.tmp 0), none⟩,
         ⟨some 13, .move (.tmp 5), none⟩,
         ⟨some 14, .indexAddr 32 (.tmp 12) (.tmp 13), none⟩,
         ⟨some 15, .load 3 (.tmp 14), none⟩,
         ⟨some 16, .call { callee := .value (.tmp 11), args := #[.tmp 15], argTypes := #[3] }, none⟩])
      (.cond (.tmp 16)
       (.seq (.reg false [⟨some 17, .move (.tmp 5), none⟩,
           ⟨some 4, .assign (.tmp 17), none⟩])
        .ret)
       .skip))))
    (.reg false [⟨some 18, .binOp .add 3 (.tmp 8) (.const (.int .i64 1)) 3, none⟩,
      ⟨some 8, .move (.tmp 18), none⟩])))))))
 (.seq (.reg false [⟨some 4, .assign (.const (.int .i64 (-1))), none⟩])
 .ret)))⟩
theorem sf123 : sfOf Try.f123 = some s123 := by kernel_rfl
theorem hb123 : hasBody Try.prog 123 = true := by kernel_rfl
def s124 : SF := ⟨28, [.tmp 2],
 (.seq (.reg false [⟨some 1, .box 54 (.tmp 0), none⟩,
    ⟨some 2, .assign (.const (.int .i64 0)), none⟩])
 (.seq (.block 0 (.seq (.seq (.reg false [⟨some 4, .fieldAddr 54 (.tmp 1) 0, none⟩,
       ⟨some 5, .load 51 (.tmp 4), none⟩,
       ⟨some 6, .call { callee := .builtin .len, args := #[.tmp 5], argTypes := #[51] }, none⟩,
       ⟨some 7, .binOp .gtr 3 (.tmp 6) (.const (.int .i64 8)) 3, none⟩,
       ⟨some 3, .assign (.tmp 7), none⟩])
    (.cond (.tmp 3)
     .skip
     (.reg false [⟨some 8, .fieldAddr 54 (.tmp 1) 1, none⟩,
        ⟨some 9, .load 52 (.tmp 8), none⟩,
        ⟨some 10, .call { callee := .builtin .len, args := #[.tmp 9], argTypes := #[52] }, none⟩,
        ⟨some 11, .binOp .gtr 3 (.tmp 10) (.const (.int .i64 4)) 3, none⟩,
        ⟨some 3, .assign (.tmp 11), none⟩])))
   (.cond (.tmp 3)
    (.seq (.reg false [⟨some 2, .assign (.const (.int .i64 5)), none⟩])
     .ret)
    (.seq (.seq (.reg false [⟨some 13, .fieldAddr 54 (.tmp 1) 0, none⟩,
         ⟨some 14, .load 51 (.tmp 13), none⟩,
         ⟨some 15, .call { callee := .builtin .len, args := #[.tmp 14], argTypes := #[51] }, none⟩,
         ⟨some 16, .binOp .eql 3 (.tmp 15) (.const (.int .i64 0)) 3, none⟩,
         ⟨some 12, .assign (.tmp 16), none⟩])
      (.cond (.tmp 12)
       .skip
       (.reg false [⟨some 17, .fieldAddr 54 (.tmp 1) 1, none⟩,
          ⟨some 18, .load 52 (.tmp 17), none⟩,
          ⟨some 19, .call { callee := .builtin .len, args := #[.tmp 18], argTypes := #[52] }, none⟩,
          ⟨some 20, .binOp .eql 3 (.tmp 19) (.const (.int .i64 0)) 3, none⟩,
          ⟨some 12, .assign (.tmp 20), none⟩])))
     (.cond (.tmp 12)
      (.seq (.reg false [⟨some 2, .assign (.const (.int .i64 2)), none⟩])
       .ret)
      (.seq (.seq (.reg false [⟨some 22, .fieldAddr 54 (.tmp 1) 0, none⟩,
           ⟨some 23, .load 51 (.tmp 22), none⟩,
           ⟨some 24, .call { callee := .value (.func 150), args := #[.tmp 23, .func 151], argTypes := #[51, 251] }, none⟩,
           ⟨some 21, .assign (.tmp 24), none⟩])
        (.cond (.tmp 21)
         .skip
         (.reg false [⟨some 25, .fieldAddr 54 (.tmp 1) 1, none⟩,
            ⟨some 26, .load 52 (.tmp 25), none⟩,
            ⟨some 27, .call { callee := .value (.func 153), args := #[.tmp 26, .func 154], argTypes := #[52, 253] }, none⟩,
            ⟨some 21, .assign (.tmp 27), none⟩])))
       (.cond (.tmp 21)
        (.seq (.reg false [⟨some 2, .assign (.const (.int .i64 2)), none⟩])
         .ret)
        .skip)))))))
 (.seq (.reg false [⟨some 2, .assign (.const (.int .i64 0)), none⟩])
 .ret)))⟩
theorem sf124 : sfOf Try.f124 = some s124 := by kernel_rfl
theorem hb124 : hasBody Try.prog 124 = true := by kernel_rfl
def s125 : SF := ⟨19, [.tmp 2],
 (.seq (.reg false [⟨some 1, .box 57 (.tmp 0), none⟩,
    ⟨some 2, .assign (.const (.bool false)), none⟩])
 (.seq (.reg true [⟨some 3, .fieldAddr 57 (.tmp 1) 1, none⟩,
    ⟨some 4, .load 32 (.tmp 3), none⟩,
    ⟨some 5, .call { callee := .builtin .len, args := #[.tmp 4], argTypes := #[32] }, none⟩,
    ⟨some 6, .buildSlice 32 1 #[(0, (.tmp 5))], none⟩,
    ⟨some 7, .call { callee := .value (.func 126), args := #[.const (.int .i64 1), .const (.int .i64 2), .tmp 6], argTypes := #[3, 3, 32] }, none⟩,
    ⟨some 8, .move (.tmp 7), none⟩,
    ⟨some 9, .fieldAddr 57 (.tmp 1) 0, some (8, true)⟩,
    ⟨some 10, .load 32 (.tmp 9), some (8, true)⟩,
    ⟨some 11, .call { callee := .builtin .len, args := #[.tmp 10], argTypes := #[32] }, some (8, true)⟩,
    ⟨some 12, .fieldAddr 57 (.tmp 1) 1, some (8, true)⟩,
    ⟨some 13, .load 32 (.tmp 12), some (8, true)⟩,
    ⟨some 14, .call { callee := .builtin .len, args := #[.tmp 13], argTypes := #[32] }, some (8, true)⟩,
    ⟨some 15, .call { callee := .value (.func 127), args := #[.tmp 14], argTypes := #[3] }, some (8, true)⟩,
    ⟨some 16, .call { callee := .builtin .len, args := #[.tmp 15], argTypes := #[224] }, some (8, true)⟩,
    ⟨some 17, .binOp .eql 3 (.tmp 11) (.tmp 16) 3, some (8, true)⟩,
    ⟨some 18, .pick (.tmp 8) (.tmp 17) (.const (.bool false)), none⟩,
    ⟨some 2, .assign (.tmp 18), none⟩])
 .ret))⟩
theorem sf125 : sfOf Try.f125 = some s125 := by kernel_rfl
theorem hb125 : hasBody Try.prog 125 = true := by kernel_rfl
def s126 : SF := ⟨11, [.tmp 6],
 (.seq (.reg false [⟨some 3, .box 3 (.tmp 0), none⟩,
    ⟨some 4, .box 3 (.tmp 1), none⟩,
    ⟨some 6, .assign (.const (.bool false)), none⟩])
 (.seq (.reg false [⟨some 7, .move (.tmp 2), none⟩,
    ⟨some 8, .makeFunc (.func 156) #[] #[.tmp 3, .tmp 4], none⟩,
    ⟨some 9, .call { callee := .value (.func 79), args := #[.tmp 7, .tmp 8], argTypes := #[32, 182] }, none⟩,
    ⟨some 10, .unOp .not 4 (.tmp 9), none⟩,
    ⟨some 6, .assign (.tmp 10), none⟩])
 .ret))⟩
theorem sf126 : sfOf Try.f126 = some s126 := by kernel_rfl
theorem hb126 : hasBody Try.prog 126 = true := by kernel_rfl
def s127 : SF := ⟨13, [.tmp 2],
 (.seq (.reg false [⟨some 2, .assign (.const (.slice none 0 0)), none⟩])
 (.seq (.reg false [⟨some 4, .buildSlice 224 1 #[(0, (.const (.int .i64 1)))], none⟩,
    ⟨some 3, .assign (.tmp 4), none⟩])
 (.seq (.seq (.reg false [⟨some 5, .move (.tmp 0), none⟩,
     ⟨some 6, .move (.const (.int .i64 0)), none⟩])
  (.block 0 (.loop (.seq (.reg false [⟨some 7, .binOp .lss 3 (.tmp 6) (.tmp 5) 3, none⟩])
    (.seq (.cond (.tmp 7)
      .skip
      (.exit 0))
    (.seq (.block 1 (.reg false [⟨some 8, .move (.tmp 3), none⟩,
        ⟨some 9, .buildSlice 224 2 #[(0, (.const (.int .i64 2))), (1, (.const (.int .i64 1)))], none⟩,
        ⟨some 10, .call { callee := .builtin .append, args := #[.tmp 8, .tmp 9], argTypes := #[224, 224] }, none⟩,
        ⟨some 3, .assign (.tmp 10), none⟩]))
    (.reg false [⟨some 11, .binOp .add 3 (.tmp 6) (.const (.int .i64 1)) 3, none⟩,
      ⟨some 6, .move (.tmp 11), none⟩])))))))
 (.seq (.reg false [⟨some 12, .move (.tmp 3), none⟩,
    ⟨some 2, .assign (.tmp 12), none⟩])
 .ret))))⟩
theorem sf127 : sfOf Try.f127 = some s127 := by kernel_rfl
theorem hb127 : hasBody Try.prog 127 = true := by kernel_rfl
def s128 : SF := ⟨12, [.tmp 3],
 (.seq (.reg false [⟨some 2, .box 89 (.tmp 0), none⟩,
    ⟨some 3, .assign (.const (.int .i64 0)), none⟩])
 (.seq (.reg true [⟨some 4, .fieldAddr 89 (.tmp 2) 1, none⟩,
    ⟨some 5, .load 3 (.tmp 4), none⟩,
    ⟨some 6, .load 186 (.tmp 1), none⟩,
    ⟨some 7, .fieldAddr 89 (.tmp 2) 3, none⟩,
    ⟨some 8, .load 60 (.tmp 7), none⟩,
    ⟨some 9, .call { callee := .value (.tmp 6), args := #[.tmp 8], argTypes := #[60] }, none⟩,
    ⟨some 10, .binOp .add 3 (.const (.int .i64 1000)) (.tmp 9) 3, none⟩,
    ⟨some 11, .binOp .mul 3 (.tmp 5) (.tmp 10) 3, none⟩,
    ⟨some 3, .assign (.tmp 11), none⟩])
 .ret))⟩
theorem sf128 : sfOf Try.f128 = some s128 := by kernel_rfl
theorem hb128 : hasBody Try.prog 128 = true := by kernel_rfl
def s129 : SF := ⟨13, [.tmp 2],
 (.seq (.reg false [⟨some 1, .box 143 (.tmp 0), none⟩,
    ⟨some 2, .assign (.const (.bool false)), none⟩])
 (.seq (.reg false [⟨some 3, .fieldAddr 143 (.tmp 1) 0, none⟩,
    ⟨some 4, .load 60 (.tmp 3), none⟩,
    ⟨some 5, .call { callee := .value (.func 51), args := #[.tmp 4, .const (.int .i64 0), .const (.int .i64 20000000)], argTypes := #[60, 3, 3] }, none⟩,
    ⟨some 6, .unOp .not 4 (.tmp 5), none⟩,
    ⟨some 7, .move (.tmp 6), none⟩,
    ⟨some 8, .fieldAddr 143 (.tmp 1) 1, some (7, false)⟩,
    ⟨some 9, .load 60 (.tmp 8), some (7, false)⟩,
    ⟨some 10, .call { callee := .value (.func 51), args := #[.tmp 9, .const (.int .i64 0), .const (.int .i64 100000)], argTypes := #[60, 3, 3] }, some (7, false)⟩,
    ⟨some 11, .unOp .not 4 (.tmp 10), some (7, false)⟩,
    ⟨some 12, .pick (.tmp 7) (.const (.bool true)) (.tmp 11), none⟩,
    ⟨some 2, .assign (.tmp 12), none⟩])
 .ret))⟩
theorem sf129 : sfOf Try.f129 = some s129 := by kernel_rfl
theorem hb129 : hasBody Try.prog 129 = true := by kernel_rfl
def s130 : SF := ⟨9, [.tmp 4],
 (.seq (.reg false [⟨some 4, .assign (.const (.bool false)), none⟩])
 (.seq (.reg false [⟨some 5, .move (.tmp 0), none⟩,
    ⟨some 6, .move (.tmp 1), none⟩,
    ⟨some 7, .call { callee := .value (.func 157), args := #[.tmp 5, .tmp 6], argTypes := #[190, 227] }, none⟩,
    ⟨some 8, .binOp .geq 3 (.tmp 7) (.const (.int .i64 0)) 3, none⟩,
    ⟨some 4, .assign (.tmp 8), none⟩])
 .ret))⟩
theorem sf130 : sfOf Try.f130 = some s130 := by kernel_rfl
theorem hb130 : hasBody Try.prog 130 = true := by kernel_rfl
end Go.Dw.Seat
end
section
namespace Go.Dw.Seat
open Go Go.Dw Go.Proofs
def s150 : SF := ⟨9, [.tmp 4],
 (.seq (.reg false [⟨some 4, .assign (.const (.bool false)), none⟩])
 (.seq (.reg false [⟨some 5, .move (.tmp 0), none⟩,
    ⟨some 6, .move (.tmp 1), none⟩,
    ⟨some 7, .call { callee := .value (.func 170), args := #[.tmp 5, .tmp 6], argTypes := #[51, 251] }, none⟩,
    ⟨some 8, .binOp .geq 3 (.tmp 7) (.const (.int .i64 0)) 3, none⟩,
    ⟨some 4, .assign (.tmp 8), none⟩])
 .ret))⟩
theorem sf150 : sfOf Try.f150 = some s150 := by kernel_rfl
theorem hb150 : hasBody Try.prog 150 = true := by kernel_rfl
def s151 : SF := ⟨6, [.tmp 2],
 (.seq (.reg false [⟨some 1, .box 89 (.tmp 0), none⟩,
    ⟨some 2, .assign (.const (.bool false)), none⟩])
 (.seq (.reg false [⟨some 3, .load 89 (.tmp 1), none⟩,
    ⟨some 4, .call { callee := .value (.func 152), args := #[.tmp 3], argTypes := #[89] }, none⟩,
    ⟨some 5, .unOp .not 4 (.tmp 4), none⟩,
    ⟨some 2, .assign (.tmp 5), none⟩])
 .ret))⟩
theorem sf151 : sfOf Try.f151 = some s151 := by kernel_rfl
theorem hb151 : hasBody Try.prog 151 = true := by kernel_rfl
def s152 : SF := ⟨39, [.tmp 2],
 (.seq (.reg false [⟨some 1, .box 89 (.tmp 0), none⟩,
    ⟨some 2, .assign (.const (.bool false)), none⟩])
 (.seq (.reg false [⟨some 3, .fieldAddr 89 (.tmp 1) 0, none⟩,
    ⟨some 4, .load 87 (.tmp 3), none⟩,
    ⟨some 5, .binOp .eql 87 (.tmp 4) (.const (.int .i64 1)) 87, none⟩,
    ⟨some 6, .move (.tmp 5), none⟩,
    ⟨some 7, .fieldAddr 89 (.tmp 1) 0, some (6, false)⟩,
    ⟨some 8, .load 87 (.tmp 7), some (6, false)⟩,
    ⟨some 9, .binOp .eql 87 (.tmp 8) (.const (.int .i64 2)) 87, some (6, false)⟩,
    ⟨some 10, .pick (.tmp 6) (.const (.bool true)) (.tmp 9), none⟩,
    ⟨some 11, .move (.tmp 10), none⟩,
    ⟨some 12, .fieldAddr 89 (.tmp 1) 1, some (11, true)⟩,
    ⟨some 13, .load 3 (.tmp 12), some (11, true)⟩,
    ⟨some 14, .buildSlice 32 1 #[(0, (.tmp 13))], some (11, true)⟩,
    ⟨some 15, .call { callee := .value (.func 126), args := #[.const (.int .i64 1), .const (.int .i64 1000), .tmp 14], argTypes := #[3, 3, 32] }, some (11, true)⟩,
    ⟨some 16, .pick (.tmp 11) (.tmp 15) (.const (.bool false)), none⟩,
    ⟨some 17, .move (.tmp 16), none⟩,
    ⟨some 18, .fieldAddr 89 (.tmp 1) 2, some (17, true)⟩,
    ⟨some 19, .load 60 (.tmp 18), some (17, true)⟩,
    ⟨some 20, .call { callee := .value (.func 171), args := #[.tmp 19, .const (.int .i64 1), .const (.int .i64 1000)], argTypes := #[60, 3, 3] }, some (17, true)⟩,
    ⟨some 21, .pick (.tmp 17) (.tmp 20) (.const (.bool false)), none⟩,
    ⟨some 22, .move (.tmp 21), none⟩,
    ⟨some 23, .fieldAddr 89 (.tmp 1) 3, some (22, true)⟩,
    ⟨some 24, .load 60 (.tmp 23), some (22, true)⟩,
    ⟨some 25, .call { callee := .value (.func 171), args := #[.tmp 24, .const (.int .i64 0), .const (.int .i64 200)], argTypes := #[60, 3, 3] }, some (22, true)⟩,
    ⟨some 26, .pick (.tmp 22) (.tmp 25) (.const (.bool false)), none⟩,
    ⟨some 27, .move (.tmp 26), none⟩,
    ⟨some 28, .fieldAddr 89 (.tmp 1) 4, some (27, true)⟩,
    ⟨some 29, .load 3 (.tmp 28), some (27, true)⟩,
    ⟨some 30, .buildSlice 32 1 #[(0, (.tmp 29))], some (27, true)⟩,
    ⟨some 31, .call { callee := .value (.func 126), args := #[.const (.int .i64 0), .const (.int .i64 1000000), .tmp 30], argTypes := #[3, 3, 32] }, some (27, true)⟩,
    ⟨some 32, .pick (.tmp 27) (.tmp 31) (.const (.bool false)), none⟩,
    ⟨some 33, .move (.tmp 32), none⟩,
    ⟨some 34, .fieldAddr 89 (.tmp 1) 5, some (33, true)⟩,
    ⟨some 35, .load 3 (.tmp 34), some (33, true)⟩,
    ⟨some 36, .buildSlice 32 1 #[(0, (.tmp 35))], some (33, true)⟩,
    ⟨some 37, .call { callee := .value (.func 126), args := #[.const (.int .i64 0), .const (.int .i64 10000), .tmp 36], argTypes := #[3, 3, 32] }, some (33, true)⟩,
    ⟨some 38, .pick (.tmp 33) (.tmp 37) (.const (.bool false)), none⟩,
    ⟨some 2, .assign (.tmp 38), none⟩])
 .ret))⟩
theorem sf152 : sfOf Try.f152 = some s152 := by kernel_rfl
theorem hb152 : hasBody Try.prog 152 = true := by kernel_rfl
def s153 : SF := ⟨9, [.tmp 4],
 (.seq (.reg false [⟨some 4, .assign (.const (.bool false)), none⟩])
 (.seq (.reg false [⟨some 5, .move (.tmp 0), none⟩,
    ⟨some 6, .move (.tmp 1), none⟩,
    ⟨some 7, .call { callee := .value (.func 172), args := #[.tmp 5, .tmp 6], argTypes := #[52, 253] }, none⟩,
    ⟨some 8, .binOp .geq 3 (.tmp 7) (.const (.int .i64 0)) 3, none⟩,
    ⟨some 4, .assign (.tmp 8), none⟩])
 .ret))⟩
theorem sf153 : sfOf Try.f153 = some s153 := by kernel_rfl
theorem hb153 : hasBody Try.prog 153 = true := by kernel_rfl
def s154 : SF := ⟨6, [.tmp 2],
 (.seq (.reg false [⟨some 1, .box 129 (.tmp 0), none⟩,
    ⟨some 2, .assign (.const (.bool false)), none⟩])
 (.seq (.reg false [⟨some 3, .load 129 (.tmp 1), none⟩,
    ⟨some 4, .call { callee := .value (.func 155), args := #[.tmp 3], argTypes := #[129] }, none⟩,
    ⟨some 5, .unOp .not 4 (.tmp 4), none⟩,
    ⟨some 2, .assign (.tmp 5), none⟩])
 .ret))⟩
theorem sf154 : sfOf Try.f154 = some s154 := by kernel_rfl
theorem hb154 : hasBody Try.prog 154 = true := by kernel_rfl
def s155 : SF := ⟨23, [.tmp 2],
 (.seq (.reg false [⟨some 1, .box 129 (.tmp 0), none⟩,
    ⟨some 2, .assign (.const (.bool false)), none⟩])
 (.seq (.reg false [⟨some 3, .fieldAddr 129 (.tmp 1) 0, none⟩,
    ⟨some 4, .load 3 (.tmp 3), none⟩,
    ⟨some 5, .buildSlice 32 1 #[(0, (.tmp 4))], none⟩,
    ⟨some 6, .call { callee := .value (.func 126), args := #[.const (.int .i64 1000), .const (.int .i64 10000), .tmp 5], argTypes := #[3, 3, 32] }, none⟩,
    ⟨some 7, .move (.tmp 6), none⟩,
    ⟨some 8, .fieldAddr 129 (.tmp 1) 0, some (7, true)⟩,
    ⟨some 9, .load 3 (.tmp 8), some (7, true)⟩,
    ⟨some 10, .fieldAddr 129 (.tmp 1) 0, some (7, true)⟩,
    ⟨some 11, .load 3 (.tmp 10), some (7, true)⟩,
    ⟨some 12, .binOp .mul 3 (.const (.int .i64 2)) (.tmp 11) 3, some (7, true)⟩,
    ⟨some 13, .fieldAddr 129 (.tmp 1) 1, some (7, true)⟩,
    ⟨some 14, .load 3 (.tmp 13), some (7, true)⟩,
    ⟨some 15, .buildSlice 32 1 #[(0, (.tmp 14))], some (7, true)⟩,
    ⟨some 16, .call { callee := .value (.func 126), args := #[.tmp 9, .tmp 12, .tmp 15], argTypes := #[3, 3, 32] }, some (7, true)⟩,
    ⟨some 17, .pick (.tmp 7) (.tmp 16) (.const (.bool false)), none⟩,
    ⟨some 18, .move (.tmp 17), none⟩,
    ⟨some 19, .fieldAddr 129 (.tmp 1) 2, some (18, true)⟩,
    ⟨some 20, .load 60 (.tmp 19), some (18, true)⟩,
    ⟨some 21, .call { callee := .value (.func 171), args := #[.tmp 20, .const (.int .i64 1), .const (.int .i64 10000)], argTypes := #[60, 3, 3] }, some (18, true)⟩,
    ⟨some 22, .pick (.tmp 18) (.tmp 21) (.const (.bool false)), none⟩,
    ⟨some 2, .assign (.tmp 22), none⟩])
 .ret))⟩
theorem sf155 : sfOf Try.f155 = some s155 := by kernel_rfl
theorem hb155 : hasBody Try.prog 155 = true := by kernel_rfl
def s156 : SF := ⟨13, [.tmp 4],
 (.seq (.reg false [⟨some 4, .assign (.const (.bool false)), none⟩])
 (.seq (.reg false [⟨some 5, .move (.tmp 0), none⟩,
    ⟨some 6, .load 3 (.tmp 1), none⟩,
    ⟨some 7, .binOp .lss 3 (.tmp 5) (.tmp 6) 3, none⟩,
    ⟨some 8, .move (.tmp 7), none⟩,
    ⟨some 9, .move (.tmp 0), some (8, false)⟩,
    ⟨some 10, .load 3 (.tmp 2), some (8, false)⟩,
    ⟨some 11, .binOp .gtr 3 (.tmp 9) (.tmp 10) 3, some (8, false)⟩,
    ⟨some 12, .pick (.tmp 8) (.const (.bool true)) (.tmp 11), none⟩,
    ⟨some 4, .assign (.tmp 12), none⟩])
 .ret))⟩
theorem sf156 : sfOf Try.f156 = some s156 := by kernel_rfl
theorem hb156 : hasBody Try.prog 156 = true := by kernel_rfl
def s157 : SF := ⟨19, [.tmp 4],
 (.seq (.reg false [⟨some 4, .assign (.const (.int .i64 0)), none⟩])
 (.seq (.seq (.reg false [⟨some 6, .move (.tmp 0), none⟩,
     ⟨some 7, .call { callee := .builtin .len, args := #[.tmp 6], argTypes := #[190] }, none⟩,
     ⟨some 8, .move (.const (.int .i64 0)), none⟩])
  (.block 0 (.loop (.seq (.reg false [⟨some 9, .binOp .lss 3 (.tmp 8) (.tmp 7) 3, none⟩])
    (.seq (.cond (.tmp 9)
      .skip
      (.exit 0))
    (.seq (.block 1 (.seq (.reg false [⟨some 10, .move (.tmp 8), none⟩,
         ⟨some 5, .assign (.tmp 10), none⟩])
      (.seq (.reg false [⟨some 11, .move (.tmp 1), none⟩,
         ⟨some 12, .move (.tmp 0), none⟩,
         ⟨some 13, .move (.tmp 5), none⟩,
         ⟨some 14, .indexAddr 190 (.tmp 12) (.tmp 13), none⟩,
         ⟨some 15, .load 143 (.tmp 14), none⟩,
         ⟨some 16, .call { callee := .value (.tmp 11), args := #[.tmp 15], argTypes := #[143] }, none⟩])
      (.cond (.tmp 16)
       (.seq (.reg false [⟨some 17, .move (.tmp 5), none⟩,
           ⟨some 4, .assign (.tmp 17), none⟩])
        .ret)
       .skip))))
    (.reg false [⟨some 18, .binOp .add 3 (.tmp 8) (.const (.int .i64 1)) 3, none⟩,
      ⟨some 8, .move (.tmp 18), none⟩])))))))
 (.seq (.reg false [⟨some 4, .assign (.const (.int .i64 (-1))), none⟩])
 .ret)))⟩
theorem sf157 : sfOf Try.f157 = some s157 := by kernel_rfl
theorem hb157 : hasBody Try.prog 157 = true := by kernel_rfl
def s170 : SF := ⟨19, [.tmp 4],
 (.seq (.reg false [⟨some 4, .assign (.const (.int .i64 0)), none⟩])
 (.seq (.seq (.reg false [⟨some 6, .move (.tmp 0), none⟩,
     ⟨some 7, .call { callee := .builtin .len, args := #[.tmp 6], argTypes := #[51] }, none⟩,
     ⟨some 8, .move (.const (.int .i64 0)), none⟩])
  (.block 0 (.loop (.seq (.reg false [⟨some 9, .binOp .lss 3 (.tmp 8) (.tmp 7) 3, none⟩])
    (.seq (.cond (.tmp 9)
      .skip
      (.exit 0))
    (.seq (.block 1 (.seq (.reg false [⟨some 10, .move (.tmp 8), none⟩,
         ⟨some 5, .assign (.tmp 10), none⟩])
      (.seq (.reg false [⟨some 11, .move (.tmp 1), none⟩,
         ⟨some 12, .move (.tmp 0), none⟩,
         ⟨some 13, .move (.tmp 5), none⟩,
         ⟨some 14, .indexAddr 51 (.tmp 12) (.tmp 13), none⟩,
         ⟨some 15, .load 89 (.tmp 14), none⟩,
         ⟨some 16, .call { callee := .value (.tmp 11), args := #[.tmp 15], argTypes := #[89] }, none⟩])
      (.cond (.tmp 16)
       (.seq (.reg false [⟨some 17, .move (.tmp 5), none⟩,
           ⟨some 4, .assign (.tmp 17), none⟩])
        .ret)
       .skip))))
    (.reg false [⟨some 18, .binOp .add 3 (.tmp 8) (.const (.int .i64 1)) 3, none⟩,
      ⟨some 8, .move (.tmp 18), none⟩])))))))
 (.seq (.reg false [⟨some 4, .assign (.const (.int .i64 (-1))), none⟩])
 .ret)))⟩
theorem sf170 : sfOf Try.f170 = some s170 := by kernel_rfl
theorem hb170 : hasBody Try.prog 170 = true := by kernel_rfl
def s171 : SF := ⟨22, [.tmp 6],
 (.seq (.reg false [⟨some 3, .box 60 (.tmp 0), none⟩,
    ⟨some 6, .assign (.const (.bool false)), none⟩])
 (.seq (.reg false [⟨some 7, .move (.tmp 1), none⟩,
    ⟨some 8, .move (.tmp 2), none⟩,
    ⟨some 9, .fieldAddr 60 (.tmp 3) 0, none⟩,
    ⟨some 10, .load 3 (.tmp 9), none⟩,
    ⟨some 11, .fieldAddr 60 (.tmp 3) 1, none⟩,
    ⟨some 12, .load 3 (.tmp 11), none⟩,
    ⟨some 13, .buildSlice 32 2 #[(0, (.tmp 10)), (1, (.tmp 12))], none⟩,
    ⟨some 14, .call { callee := .value (.func 126), args := #[.tmp 7, .tmp 8, .tmp 13], argTypes := #[3, 3, 32] }, none⟩,
    ⟨some 15, .move (.tmp 14), none⟩,
    ⟨some 16, .fieldAddr 60 (.tmp 3) 0, some (15, true)⟩,
    ⟨some 17, .load 3 (.tmp 16), some (15, true)⟩,
    ⟨some 18, .fieldAddr 60 (.tmp 3) 1, some (15, true)⟩,
    ⟨some 19, .load 3 (.tmp 18), some (15, true)⟩,
    ⟨some 20, .binOp .leq 3 (.tmp 17) (.tmp 19) 3, some (15, true)⟩,
    ⟨some 21, .pick (.tmp 15) (.tmp 20) (.const (.bool false)), none⟩,
    ⟨some 6, .assign (.tmp 21), none⟩])
 .ret))⟩
theorem sf171 : sfOf Try.f171 = some s171 := by kernel_rfl
theorem hb171 : hasBody Try.prog 171 = true := by kernel_rfl
def s172 : SF := ⟨19, [.tmp 4],
 (.seq (.reg false [⟨some 4, .assign (.const (.int .i64 0)), none⟩])
 (.seq (.seq (.reg false [⟨some 6, .move (.tmp 0), none⟩,
     ⟨some 7, .call { callee := .builtin .len, args := #[.tmp 6], argTypes := #[52] }, none⟩,
     ⟨some 8, .move (.const (.int .i64 0)), none⟩])
  (.block 0 (.loop (.seq (.reg false [⟨some 9, .binOp .lss 3 (.tmp 8) (.tmp 7) 3, none⟩])
    (.seq (.cond (.tmp 9)
      .skip
      (.exit 0))
    (.seq (.block 1 (.seq (.reg false [⟨some 10, .move (.tmp 8), none⟩,
         ⟨some 5, .assign (.tmp 10), none⟩])
      (.seq (.reg false [⟨some 11, .move (.tmp 1), none⟩,
         ⟨some 12, .move (.tmp 0), none⟩,
         ⟨some 13, .move (.tmp 5), none⟩,
         ⟨some 14, .indexAddr 52 (.tmp 12) (.tmp 13), none⟩,
         ⟨some 15, .load 129 (.tmp 14), none⟩,
         ⟨some 16, .call { callee := .value (.tmp 11), args := #[.tmp 15], argTypes := #[129] }, none⟩])
      (.cond (.tmp 16)
       (.seq (.reg false [⟨some 17, .move (.tmp 5), none⟩,
           ⟨some 4, .assign (.tmp 17), none⟩])
        .ret)
       .skip))))
    (.reg false [⟨some 18, .binOp .add 3 (.tmp 8) (.const (.int .i64 1)) 3, none⟩,
      ⟨some 8, .move (.tmp 18), none⟩])))))))
 (.seq (.reg false [⟨some 4, .assign (.const (.int .i64 (-1))), none⟩])
 .ret)))⟩
theorem sf172 : sfOf Try.f172 = some s172 := by kernel_rfl
theorem hb172 : hasBody Try.prog 172 = true := by kernel_rfl
end Go.Dw.Seat
end
section
set_option linter.unusedSimpArgs false
namespace Go.Dw.Seat
open Go Go.Dw Go.Proofs Go.IntWalk
structure Cause where
  noz : Int
  kind : Int
  frm : Int
instance : DecidableEq Cause := fun a b => decidable_of_iff (a.noz = b.noz ∧ a.kind = b.kind ∧ a.frm = b.frm) (by cases a; cases b; simp)
def eC (c : Cause) : List C := [.v (.int .i64 c.noz), .v (.int .i64 c.kind), .v (.int .i64 c.frm)]
theorem eC_nb (c : Cause) : C.nbs (eC c) = true := rfl
structure Look where
  box : Int
  noz : Int
  step : Int
  glue : Bool
instance : DecidableEq Look := fun a b => decidable_of_iff (a.box = b.box ∧ a.noz = b.noz ∧ a.step = b.step ∧ a.glue = b.glue) (by cases a; cases b; simp)
def eL (c : Look) : List C := [.v (.int .i64 c.box), .v (.int .i64 c.noz), .v (.int .i64 c.step), .v (.bool c.glue)]
theorem eL_nb (c : Look) : C.nbs (eL c) = true := rfl
structure Room where
  wl : Int
  wh : Int
  dl : Int
  dh : Int
instance : DecidableEq Room := fun a b => decidable_of_iff (a.wl = b.wl ∧ a.wh = b.wh ∧ a.dl = b.dl ∧ a.dh = b.dh) (by cases a; cases b; simp)
def eR (c : Room) : List C := [.v (.int .i64 c.wl), .v (.int .i64 c.wh), .v (.int .i64 c.dl), .v (.int .i64 c.dh)]
theorem eR_nb (c : Room) : C.nbs (eR c) = true := rfl
def eSb (b : Bool) (s : List Cause) : List C := [.sl b 3 (rows eC s)]
abbrev eS := eSb false
theorem eS_nb (s : List Cause) : C.nbs (eS s) = true := by simp [eSb, C.nbs, C.nb, rows_nb eC_nb]
def eG (s : List Int) : List C := [.sl false 1 (rows eI s)]
theorem eG_nb (s : List Int) : C.nbs (eG s) = true := by simp [eG, C.nbs, C.nb, rows_nb eI_nb]
structure Plan where
  steps : Int
  noz : List Int
abbrev dP (b : Bool) (p : Plan) : D := .agg [.c (.v (.int .i64 p.steps)), .c (.sl b 1 (rows eI p.noz))]
abbrev dCs (b : Bool) (l : List Cause) : D := .c (.sl b 3 (rows eC l))
abbrev dLs (b : Bool) (l : List Look) : D := .c (.sl b 4 (rows eL l))
abbrev dSs (b : Bool) (l : List (List Cause)) : D := .c (.sl b 1 (rows eS l))
theorem rowC_snocC (l : List Cause) (a b c : Int) : rowC (rows eC l) ++ [[D.c (.v (.int .i64 a)), D.c (.v (.int .i64 b)), D.c (.v (.int .i64 c))]] = rowC (rows eC (l ++ [⟨a, b, c⟩])) := by simp [rowC, rows, eC]
theorem rowC_snocL (l : List Look) (a b c : Int) (d : Bool) : rowC (rows eL l) ++ [[D.c (.v (.int .i64 a)), D.c (.v (.int .i64 b)), D.c (.v (.int .i64 c)), D.c (.v (.bool d))]] = rowC (rows eL (l ++ [⟨a, b, c, d⟩])) := by simp [rowC, rows, eL]
theorem rowC_snocS (l : List (List Cause)) (s : List Cause) : rowC (rows (eSb false) l) ++ [[D.c (.sl false 3 (rows eC s))]] = rowC (rows (eSb false) (l ++ [s])) := by simp [rowC, rows, eSb]
attribute [go_sem] rowC_snocC rowC_snocL rowC_snocS
attribute [go_sem] eC eL eR eS eSb eG dP dCs dLs dSs
end Go.Dw.Seat
end
section
set_option linter.unusedSimpArgs false
namespace Go.Dw.Seat
open Go Go.Dw Go.Proofs Go.IntWalk
theorem c122 (b : Bool) (l : List (Int)) (hl : l.length ≤ 2 ^ 36) (g : FuncId) (fs caps : List C) (p : Int → Bool) (hp : ∀ x ∈ l, DCall Try.prog g (fs.map D.c ++ [dI x] ++ caps.map D.c) [] (bD (p x)) []) : DCall Try.prog 123 [.c (.sl b 1 (rows eI l)), .c (.fn (.func g) fs caps)] [] (dI (idxI p l)) [] := by
  refine DCall.of Try.func123 sf123 hb123 (Nat.le_of_ble_eq_true rfl) (okRes_nil fun _ => rfl) ?_; simp only [s123, idxs, Nat.reduceAdd]
  repeat' (first
    | (with_reducible refine DW.seq ?_)
    | (with_reducible refine DW.block ?_)
    | (with_reducible refine DW.skip ?_)
    | (with_reducible refine DW.exit ?_)
    | (with_reducible refine DW.ret ?_)
    | (with_reducible refine DW.reg ?_)
    | (simp (disch := omega) only [go_sem, Nat.reduceLT, Nat.reduceLeDiff, Nat.reduceAdd, Nat.reduceMul, Nat.reduceEqDiff, ↓reduceIte, reduceCtorEq, Nat.reduceBEq, Nat.reduceBNe, Nat.reducePow, Int.reduceLE, Int.reduceLT, Int.reduceNeg, Int.reduceToNat, Int.reduceEq, Int.reduceAdd, Int.reduceSub, Int.reduceMul, Int.reduceBEq, Int.reduceBNe, Blk.men, Blk.keysIn])
    | (exact retS_of rfl rfl rfl)
    | (refine DW.cond_tt rfl ?_)
    | (refine DW.cond_ff rfl ?_)
    | (refine DW.cond rfl ?_ ?_ <;> intro hc <;> (try simp only [go_sem] at hc))
    | (refine g_split ?_ ?_ <;> intro hc <;> (try simp only [hc]) <;> (try simp only [go_sem] at hc)))
  refine DW.loop (ι := { i : Nat // i ≤ l.length ∧ ∀ j u, j < i → l[j]? = some u → p u = false }) (fun i => ⟨19, [(8, dI i.1), (7, dI l.length), (1, .c (.fn (.func g) fs caps)), (0, .c (.sl b 1 (rows eI l)))], []⟩) (fun i => l.length - i.1) ⟨0, Nat.zero_le _, fun j u h => by omega⟩ ?_ ?_
  · refine Ent.to ?_ ?_ <;> simp (disch := omega) only [wkT_cons, wkX_cons, wkT_nil, wkX_nil, get, Nat.reduceEqDiff, ↓reduceIte, ex_some, wk_self, wk_top, wk_nil, wkB_self, and_self, dI, i64_in, and_true, true_and, Int.natCast_add, Int.natCast_one, Int.ofNat_zero, Int.natCast_zero]
  rintro ⟨i, hi, hij⟩
  rcases at_or l i hi with ⟨v, hv, hlt, hd⟩ | ⟨he, hd⟩
  · have hcall := hp v (List.mem_of_getElem? hv)
    repeat' (first
    | (with_reducible refine DW.seq ?_)
    | (with_reducible refine DW.block ?_)
    | (with_reducible refine DW.skip ?_)
    | (with_reducible refine DW.exit ?_)
    | (with_reducible refine DW.ret ?_)
    | (with_reducible refine DW.reg ?_)
    | (simp (disch := omega) only [go_sem, Nat.reduceLT, Nat.reduceLeDiff, Nat.reduceAdd, Nat.reduceMul, Nat.reduceEqDiff, ↓reduceIte, reduceCtorEq, Nat.reduceBEq, Nat.reduceBNe, Nat.reducePow, Int.reduceLE, Int.reduceLT, Int.reduceNeg, Int.reduceToNat, Int.reduceEq, Int.reduceAdd, Int.reduceSub, Int.reduceMul, Int.reduceBEq, Int.reduceBNe, Blk.men, Blk.keysIn, hd, hv, closeDs_fn, List.map_cons, List.map_nil])
    | (exact retS_of rfl rfl rfl)
    | (refine DW.cond_tt rfl ?_)
    | (refine DW.cond_ff rfl ?_)
    | (refine DW.cond rfl ?_ ?_ <;> intro hc <;> (try simp only [go_sem] at hc))
    | (refine g_split ?_ ?_ <;> intro hc <;> (try simp only [hc]) <;> (try simp only [go_sem] at hc)))
    refine call_c hcall (by decide) ?_
    simp (disch := omega) only [go_sem, Nat.reduceLT, Nat.reduceLeDiff, Nat.reduceAdd, Nat.reduceMul, Nat.reduceEqDiff, ↓reduceIte, reduceCtorEq, Nat.reduceBEq, Nat.reduceBNe, Nat.reducePow, Int.reduceLE, Int.reduceLT, Int.reduceNeg, Int.reduceToNat, Int.reduceEq, Int.reduceAdd, Int.reduceSub, Int.reduceMul, Int.reduceBEq, Int.reduceBNe, Blk.men, Blk.keysIn]
    refine DW.cond rfl ?_ ?_ <;> intro hc
    · repeat' (first
    | (with_reducible refine DW.seq ?_)
    | (with_reducible refine DW.block ?_)
    | (with_reducible refine DW.skip ?_)
    | (with_reducible refine DW.exit ?_)
    | (with_reducible refine DW.ret ?_)
    | (with_reducible refine DW.reg ?_)
    | (simp (disch := omega) only [go_sem, Nat.reduceLT, Nat.reduceLeDiff, Nat.reduceAdd, Nat.reduceMul, Nat.reduceEqDiff, ↓reduceIte, reduceCtorEq, Nat.reduceBEq, Nat.reduceBNe, Nat.reducePow, Int.reduceLE, Int.reduceLT, Int.reduceNeg, Int.reduceToNat, Int.reduceEq, Int.reduceAdd, Int.reduceSub, Int.reduceMul, Int.reduceBEq, Int.reduceBNe, Blk.men, Blk.keysIn])
    | (exact retS_of rfl rfl rfl)
    | (refine DW.cond_tt rfl ?_)
    | (refine DW.cond_ff rfl ?_)
    | (refine DW.cond rfl ?_ ?_ <;> intro hc <;> (try simp only [go_sem] at hc))
    | (refine g_split ?_ ?_ <;> intro hc <;> (try simp only [hc]) <;> (try simp only [go_sem] at hc)))
      refine retS_of rfl ?_ rfl; simp only [oneD, St.op, get, Nat.reduceEqDiff, ↓reduceIte, Option.getD_some, bD, dI]
      simp only [idxI, idxOf_some hij hv hc]
    · repeat' (first
    | (with_reducible refine DW.seq ?_)
    | (with_reducible refine DW.block ?_)
    | (with_reducible refine DW.skip ?_)
    | (with_reducible refine DW.exit ?_)
    | (with_reducible refine DW.ret ?_)
    | (with_reducible refine DW.reg ?_)
    | (simp (disch := omega) only [go_sem, Nat.reduceLT, Nat.reduceLeDiff, Nat.reduceAdd, Nat.reduceMul, Nat.reduceEqDiff, ↓reduceIte, reduceCtorEq, Nat.reduceBEq, Nat.reduceBNe, Nat.reducePow, Int.reduceLE, Int.reduceLT, Int.reduceNeg, Int.reduceToNat, Int.reduceEq, Int.reduceAdd, Int.reduceSub, Int.reduceMul, Int.reduceBEq, Int.reduceBNe, Blk.men, Blk.keysIn])
    | (exact retS_of rfl rfl rfl)
    | (refine DW.cond_tt rfl ?_)
    | (refine DW.cond_ff rfl ?_)
    | (refine DW.cond rfl ?_ ?_ <;> intro hc <;> (try simp only [go_sem] at hc))
    | (refine g_split ?_ ?_ <;> intro hc <;> (try simp only [hc]) <;> (try simp only [go_sem] at hc)))
      refine ⟨⟨i + 1, by omega, fun j u hj hu => by
        rcases Nat.lt_or_ge j i with h | h
        · exact hij j u h hu
        · have : j = i := by omega
          subst this
          rw [hv] at hu; cases hu; exact hc⟩, ?_, Ent.to ?_ ?_⟩ <;> first | (show _ < _; (try simp only); omega) | (simp (disch := omega) only [wkT_cons, wkX_cons, wkT_nil, wkX_nil, get, Nat.reduceEqDiff, ↓reduceIte, ex_some, wk_self, wk_top, wk_nil, wkB_self, and_self, dI, i64_in, and_true, true_and, Int.natCast_add, Int.natCast_one, Int.ofNat_zero, Int.natCast_zero])
  · repeat' (first
    | (with_reducible refine DW.seq ?_)
    | (with_reducible refine DW.block ?_)
    | (with_reducible refine DW.skip ?_)
    | (with_reducible refine DW.exit ?_)
    | (with_reducible refine DW.ret ?_)
    | (with_reducible refine DW.reg ?_)
    | (simp (disch := omega) only [go_sem, Nat.reduceLT, Nat.reduceLeDiff, Nat.reduceAdd, Nat.reduceMul, Nat.reduceEqDiff, ↓reduceIte, reduceCtorEq, Nat.reduceBEq, Nat.reduceBNe, Nat.reducePow, Int.reduceLE, Int.reduceLT, Int.reduceNeg, Int.reduceToNat, Int.reduceEq, Int.reduceAdd, Int.reduceSub, Int.reduceMul, Int.reduceBEq, Int.reduceBNe, Blk.men, Blk.keysIn, hd])
    | (exact retS_of rfl rfl rfl)
    | (refine DW.cond_tt rfl ?_)
    | (refine DW.cond_ff rfl ?_)
    | (refine DW.cond rfl ?_ ?_ <;> intro hc <;> (try simp only [go_sem] at hc))
    | (refine g_split ?_ ?_ <;> intro hc <;> (try simp only [hc]) <;> (try simp only [go_sem] at hc)))
    refine retS_of rfl ?_ rfl; simp only [oneD, St.op, get, Nat.reduceEqDiff, ↓reduceIte, Option.getD_some, bD, dI]
    simp only [idxI, idxOf_none (he ▸ hij)]
theorem c110 (b : Bool) (l : List (Int)) (hl : l.length ≤ 2 ^ 36) (g : FuncId) (fs caps : List C) (p : Int → Bool) (hp : ∀ x ∈ l, DCall Try.prog g (fs.map D.c ++ [dI x] ++ caps.map D.c) [] (bD (p x)) []) : DCall Try.prog 79 [.c (.sl b 1 (rows eI l)), .c (.fn (.func g) fs caps)] [] (bD (l.any p)) [] := by
  refine DCall.of Try.func79 sf79 hb79 (Nat.le_of_ble_eq_true rfl) (okRes_nil fun _ => rfl) ?_; simp only [s79, idxs, Nat.reduceAdd]
  repeat' (first
    | (with_reducible refine DW.seq ?_)
    | (with_reducible refine DW.block ?_)
    | (with_reducible refine DW.skip ?_)
    | (with_reducible refine DW.exit ?_)
    | (with_reducible refine DW.ret ?_)
    | (with_reducible refine DW.reg ?_)
    | (simp (disch := omega) only [go_sem, Nat.reduceLT, Nat.reduceLeDiff, Nat.reduceAdd, Nat.reduceMul, Nat.reduceEqDiff, ↓reduceIte, reduceCtorEq, Nat.reduceBEq, Nat.reduceBNe, Nat.reducePow, Int.reduceLE, Int.reduceLT, Int.reduceNeg, Int.reduceToNat, Int.reduceEq, Int.reduceAdd, Int.reduceSub, Int.reduceMul, Int.reduceBEq, Int.reduceBNe, Blk.men, Blk.keysIn])
    | (exact retS_of rfl rfl rfl)
    | (refine DW.cond_tt rfl ?_)
    | (refine DW.cond_ff rfl ?_)
    | (refine DW.cond rfl ?_ ?_ <;> intro hc <;> (try simp only [go_sem] at hc))
    | (refine g_split ?_ ?_ <;> intro hc <;> (try simp only [hc]) <;> (try simp only [go_sem] at hc)))
  refine call_c (c122 b l hl g fs caps p hp) (by decide) ?_
  repeat' (first
    | (with_reducible refine DW.seq ?_)
    | (with_reducible refine DW.block ?_)
    | (with_reducible refine DW.skip ?_)
    | (with_reducible refine DW.exit ?_)
    | (with_reducible refine DW.ret ?_)
    | (with_reducible refine DW.reg ?_)
    | (simp (disch := omega) only [go_sem, Nat.reduceLT, Nat.reduceLeDiff, Nat.reduceAdd, Nat.reduceMul, Nat.reduceEqDiff, ↓reduceIte, reduceCtorEq, Nat.reduceBEq, Nat.reduceBNe, Nat.reducePow, Int.reduceLE, Int.reduceLT, Int.reduceNeg, Int.reduceToNat, Int.reduceEq, Int.reduceAdd, Int.reduceSub, Int.reduceMul, Int.reduceBEq, Int.reduceBNe, Blk.men, Blk.keysIn])
    | (exact retS_of rfl rfl rfl)
    | (refine DW.cond_tt rfl ?_)
    | (refine DW.cond_ff rfl ?_)
    | (refine DW.cond rfl ?_ ?_ <;> intro hc <;> (try simp only [go_sem] at hc))
    | (refine g_split ?_ ?_ <;> intro hc <;> (try simp only [hc]) <;> (try simp only [go_sem] at hc)))
  refine retS_of rfl ?_ rfl; simp only [oneD, St.op, get, Nat.reduceEqDiff, ↓reduceIte, Option.getD_some, bD, dI]
  rw [idxI_any]
end Go.Dw.Seat
end
section
set_option linter.unusedSimpArgs false
set_option maxRecDepth 100000
namespace Go.Dw.Seat
open Go Go.Dw Go.Proofs Go.IntWalk
def wthn (lo hi : Int) (l : List Int) : Bool := !(l.any fun n => decide (n < lo) || decide (hi < n))
end Go.Dw.Seat
end
section
set_option linter.unusedSimpArgs false
set_option maxRecDepth 100000
namespace Go.Dw.Seat
open Go Go.Dw Go.Proofs Go.IntWalk
theorem crW1 (n lo hi : Int) (p q : Bool) : DCall Try.prog 91 [dI n, .c (.ro p [.v (.int .i64 lo)] 0), .c (.ro q [.v (.int .i64 hi)] 0)] [] (bD (decide (n < lo) || decide (hi < n))) [] := by
  refine DCall.of Try.func91 sf91 hb91 (Nat.le_of_ble_eq_true rfl) (okRes_nil fun _ => rfl) ?_; simp only [s91, idxs, Nat.reduceAdd]
  repeat' (first
    | (with_reducible refine DW.seq ?_)
    | (with_reducible refine DW.block ?_)
    | (with_reducible refine DW.skip ?_)
    | (with_reducible refine DW.exit ?_)
    | (with_reducible refine DW.ret ?_)
    | (with_reducible refine DW.reg ?_)
    | (simp (disch := omega) only [go_sem, Nat.reduceLT, Nat.reduceLeDiff, Nat.reduceAdd, Nat.reduceMul, Nat.reduceEqDiff, ↓reduceIte, reduceCtorEq, Nat.reduceBEq, Nat.reduceBNe, Nat.reducePow, Int.reduceLE, Int.reduceLT, Int.reduceNeg, Int.reduceToNat, Int.reduceEq, Int.reduceAdd, Int.reduceSub, Int.reduceMul, Int.reduceBEq, Int.reduceBNe, Blk.men, Blk.keysIn])
    | (exact retS_of rfl rfl rfl)
    | (refine DW.cond_tt rfl ?_)
    | (refine DW.cond_ff rfl ?_)
    | (refine DW.cond rfl ?_ ?_ <;> intro hc <;> (try simp only [go_sem] at hc))
    | (refine g_split ?_ ?_ <;> intro hc <;> (try simp only [hc]) <;> (try simp only [go_sem] at hc)))
theorem crWithin (b : Bool) (lo hi : Int) (l : List Int) (hl : l.length ≤ 2 ^ 36) : DCall Try.prog 52 [dI lo, dI hi, dIs b l] [] (bD (wthn lo hi l)) [] := by
  refine DCall.of Try.func52 sf52 hb52 (Nat.le_of_ble_eq_true rfl) (okRes_nil fun _ => rfl) ?_; simp only [s52, idxs, Nat.reduceAdd]
  repeat' (first
    | (with_reducible refine DW.seq ?_)
    | (with_reducible refine DW.block ?_)
    | (with_reducible refine DW.skip ?_)
    | (with_reducible refine DW.exit ?_)
    | (with_reducible refine DW.ret ?_)
    | (with_reducible refine DW.reg ?_)
    | (simp (disch := omega) only [go_sem, Nat.reduceLT, Nat.reduceLeDiff, Nat.reduceAdd, Nat.reduceMul, Nat.reduceEqDiff, ↓reduceIte, reduceCtorEq, Nat.reduceBEq, Nat.reduceBNe, Nat.reducePow, Int.reduceLE, Int.reduceLT, Int.reduceNeg, Int.reduceToNat, Int.reduceEq, Int.reduceAdd, Int.reduceSub, Int.reduceMul, Int.reduceBEq, Int.reduceBNe, Blk.men, Blk.keysIn])
    | (exact retS_of rfl rfl rfl)
    | (refine DW.cond_tt rfl ?_)
    | (refine DW.cond_ff rfl ?_)
    | (refine DW.cond rfl ?_ ?_ <;> intro hc <;> (try simp only [go_sem] at hc))
    | (refine g_split ?_ ?_ <;> intro hc <;> (try simp only [hc]) <;> (try simp only [go_sem] at hc)))
  (refine call_c (c110 b l hl 91 [] [.ro true [.v (.int .i64 lo)] 0, .ro true [.v (.int .i64 hi)] 0] (fun n => decide (n < lo) || decide (hi < n)) (fun x _ => crW1 x lo hi true true)) (by decide) ?_; simp (disch := omega) only [go_sem, Nat.reduceLT, Nat.reduceLeDiff, Nat.reduceAdd, Nat.reduceMul, Nat.reduceEqDiff, ↓reduceIte, reduceCtorEq, Nat.reduceBEq, Nat.reduceBNe, Nat.reducePow, Int.reduceLE, Int.reduceLT, Int.reduceNeg, Int.reduceToNat, Int.reduceEq, Int.reduceAdd, Int.reduceSub, Int.reduceMul, Int.reduceBEq, Int.reduceBNe, Blk.men, Blk.keysIn])
  repeat' (first
    | (with_reducible refine DW.seq ?_)
    | (with_reducible refine DW.block ?_)
    | (with_reducible refine DW.skip ?_)
    | (with_reducible refine DW.exit ?_)
    | (with_reducible refine DW.ret ?_)
    | (with_reducible refine DW.reg ?_)
    | (simp (disch := omega) only [go_sem, Nat.reduceLT, Nat.reduceLeDiff, Nat.reduceAdd, Nat.reduceMul, Nat.reduceEqDiff, ↓reduceIte, reduceCtorEq, Nat.reduceBEq, Nat.reduceBNe, Nat.reducePow, Int.reduceLE, Int.reduceLT, Int.reduceNeg, Int.reduceToNat, Int.reduceEq, Int.reduceAdd, Int.reduceSub, Int.reduceMul, Int.reduceBEq, Int.reduceBNe, Blk.men, Blk.keysIn])
    | (exact retS_of rfl rfl rfl)
    | (refine DW.cond_tt rfl ?_)
    | (refine DW.cond_ff rfl ?_)
    | (refine DW.cond rfl ?_ ?_ <;> intro hc <;> (try simp only [go_sem] at hc))
    | (refine g_split ?_ ?_ <;> intro hc <;> (try simp only [hc]) <;> (try simp only [go_sem] at hc)))
structure CR where
  tests : Int
  mean : Int
  low : Int
  bad : Int
abbrev dCR (r : CR) : D := .agg [dI r.tests, dI r.mean, dI r.low, dI r.bad]
structure CLot where
  off : Int
  made : Int
  ws : Int
  wb : Int
  bs : Int
  bb : Int
abbrev dLot (r : CR) (l : CLot) : D := .agg [dI r.tests, dI r.mean, dI r.low, dI r.bad, dI l.off, dI l.made, dI l.ws, dI l.wb, dI l.bs, dI l.bb]
attribute [go_sem] dCR dLot
structure CRok (r : CR) (rs : List Int) (off : Int) : Prop where
  tests : 1 ≤ r.tests ∧ r.tests ≤ 20
  mean : 0 ≤ r.mean ∧ r.mean ≤ 100000
  low : 0 ≤ r.low ∧ r.low ≤ 100000
  bad : 0 ≤ r.bad ∧ r.bad ≤ r.tests
  off : 0 ≤ off ∧ off ≤ 1000
  len : rs.length ≤ r.tests
  rs : ∀ x ∈ rs, 0 ≤ x ∧ x ≤ 100000
theorem wthn_yes {lo hi : Int} {l : List Int} (h : ∀ v ∈ l, lo ≤ v ∧ v ≤ hi) : wthn lo hi l = true := by
  simp only [wthn, Bool.not_eq_true', List.any_eq_false, Bool.or_eq_true, decide_eq_true_eq]
  intro v hv
  have := h v hv
  omega
theorem crRule (b : Bool) (r : CR) (rs : List Int) (off : Int) (h : CRok r rs off) : DCall Try.prog 41 [dCR r, dIs b rs, dI off] [] (dI 0) [] := by
  have hlen := h.len
  have ht := h.tests
  have h1 := crWithin true 1 20 [r.tests] (by simp)
  have h2 := crWithin true 0 100000 [r.mean, r.low] (by simp)
  have h3 := crWithin true 0 r.tests [r.bad] (by simp)
  have h4 := crWithin true 0 1000 [off] (by simp)
  have h5 := crWithin b 0 100000 rs (by omega)
  rw [wthn_yes (by have := h.tests; simpa using this)] at h1
  rw [wthn_yes (by have h1 := h.mean; have h2 := h.low; simp; omega)] at h2
  rw [wthn_yes (by have := h.bad; simpa using this)] at h3
  rw [wthn_yes (by have := h.off; simpa using this)] at h4
  rw [wthn_yes h.rs] at h5
  have hd : decide (r.tests < (rs.length : Int)) = false := by rw [decide_eq_false_iff_not]; omega
  refine DCall.of Try.func41 sf41 hb41 (Nat.le_of_ble_eq_true rfl) (okRes_nil fun _ => rfl) ?_; simp only [s41, idxs, Nat.reduceAdd]
  repeat' (first
    | (with_reducible refine DW.seq ?_)
    | (with_reducible refine DW.block ?_)
    | (with_reducible refine DW.skip ?_)
    | (with_reducible refine DW.exit ?_)
    | (with_reducible refine DW.ret ?_)
    | (with_reducible refine DW.reg ?_)
    | (simp (disch := omega) only [go_sem, Nat.reduceLT, Nat.reduceLeDiff, Nat.reduceAdd, Nat.reduceMul, Nat.reduceEqDiff, ↓reduceIte, reduceCtorEq, Nat.reduceBEq, Nat.reduceBNe, Nat.reducePow, Int.reduceLE, Int.reduceLT, Int.reduceNeg, Int.reduceToNat, Int.reduceEq, Int.reduceAdd, Int.reduceSub, Int.reduceMul, Int.reduceBEq, Int.reduceBNe, Blk.men, Blk.keysIn, hd])
    | (exact retS_of rfl rfl rfl)
    | (refine DW.cond_tt rfl ?_)
    | (refine call_c (h1) (by decide) ?_)
    | (refine call_c (h2) (by decide) ?_)
    | (refine call_c (h3) (by decide) ?_)
    | (refine call_c (h4) (by decide) ?_)
    | (refine call_c (h5) (by decide) ?_)
    | (refine DW.cond_ff rfl ?_)
    | (refine DW.cond rfl ?_ ?_ <;> intro hc <;> (try simp only [go_sem] at hc))
    | (refine g_split ?_ ?_ <;> intro hc <;> (try simp only [hc]) <;> (try simp only [go_sem] at hc)))
def lowT (off x : Int) : Int := if 0 < x - off then x - off else 0
def highT (off x : Int) : Int := if x + off < 100000 then x + off else 100000
theorem crTruth (off x : Int) (h1 : 0 ≤ off ∧ off ≤ 1000) (h2 : 0 ≤ x ∧ x ≤ 100000) : DCall Try.prog 117 [dI off, dI x] [] (.agg [dI (lowT off x), dI (highT off x)]) [] := by
  refine DCall.of Try.func117 sf117 hb117 (Nat.le_of_ble_eq_true rfl) (okRes_nil fun _ => rfl) ?_; simp only [s117, idxs, Nat.reduceAdd]
  repeat' (first
    | (with_reducible refine DW.seq ?_)
    | (with_reducible refine DW.block ?_)
    | (with_reducible refine DW.skip ?_)
    | (with_reducible refine DW.exit ?_)
    | (with_reducible refine DW.ret ?_)
    | (with_reducible refine DW.reg ?_)
    | (simp (disch := omega) only [go_sem, Nat.reduceLT, Nat.reduceLeDiff, Nat.reduceAdd, Nat.reduceMul, Nat.reduceEqDiff, ↓reduceIte, reduceCtorEq, Nat.reduceBEq, Nat.reduceBNe, Nat.reducePow, Int.reduceLE, Int.reduceLT, Int.reduceNeg, Int.reduceToNat, Int.reduceEq, Int.reduceAdd, Int.reduceSub, Int.reduceMul, Int.reduceBEq, Int.reduceBNe, Blk.men, Blk.keysIn])
    | (exact retS_of rfl rfl rfl)
    | (refine DW.cond_tt rfl ?_)
    | (refine DW.cond_ff rfl ?_)
    | (refine DW.cond rfl ?_ ?_ <;> intro hc <;> (try simp only [go_sem] at hc))
    | (refine g_split ?_ ?_ <;> intro hc <;> (try simp only [hc]) <;> (try simp only [go_sem] at hc)))
theorem crWith (s b t low : Int) (h1 : 0 ≤ s ∧ s ≤ 1099511627776) (h2 : 0 ≤ b ∧ b ≤ 1099511627776) (h3 : 0 ≤ t ∧ t ≤ 1099511627776) :
    DCall Try.prog 118 [.agg [dI s, dI b], dI t, dI low] [] (.agg [dI (s + t), dI (if t < low then b + 1 else b)]) [] := by
  by_cases h : t < low
  · have hd : decide (t < low) = true := decide_eq_true h
    rw [if_pos h]
    refine DCall.of Try.func118 sf118 hb118 (Nat.le_of_ble_eq_true rfl) (okRes_nil fun _ => rfl) ?_; simp only [s118, idxs, Nat.reduceAdd]
    repeat' (first
    | (with_reducible refine DW.seq ?_)
    | (with_reducible refine DW.block ?_)
    | (with_reducible refine DW.skip ?_)
    | (with_reducible refine DW.exit ?_)
    | (with_reducible refine DW.ret ?_)
    | (with_reducible refine DW.reg ?_)
    | (simp (disch := omega) only [go_sem, Nat.reduceLT, Nat.reduceLeDiff, Nat.reduceAdd, Nat.reduceMul, Nat.reduceEqDiff, ↓reduceIte, reduceCtorEq, Nat.reduceBEq, Nat.reduceBNe, Nat.reducePow, Int.reduceLE, Int.reduceLT, Int.reduceNeg, Int.reduceToNat, Int.reduceEq, Int.reduceAdd, Int.reduceSub, Int.reduceMul, Int.reduceBEq, Int.reduceBNe, Blk.men, Blk.keysIn, hd])
    | (exact retS_of rfl rfl rfl)
    | (refine DW.cond_tt rfl ?_)
    | (refine DW.cond_ff rfl ?_)
    | (refine DW.cond rfl ?_ ?_ <;> intro hc <;> (try simp only [go_sem] at hc))
    | (refine g_split ?_ ?_ <;> intro hc <;> (try simp only [hc]) <;> (try simp only [go_sem] at hc)))
  · have hd : decide (t < low) = false := decide_eq_false h
    rw [if_neg h]
    refine DCall.of Try.func118 sf118 hb118 (Nat.le_of_ble_eq_true rfl) (okRes_nil fun _ => rfl) ?_; simp only [s118, idxs, Nat.reduceAdd]
    repeat' (first
    | (with_reducible refine DW.seq ?_)
    | (with_reducible refine DW.block ?_)
    | (with_reducible refine DW.skip ?_)
    | (with_reducible refine DW.exit ?_)
    | (with_reducible refine DW.ret ?_)
    | (with_reducible refine DW.reg ?_)
    | (simp (disch := omega) only [go_sem, Nat.reduceLT, Nat.reduceLeDiff, Nat.reduceAdd, Nat.reduceMul, Nat.reduceEqDiff, ↓reduceIte, reduceCtorEq, Nat.reduceBEq, Nat.reduceBNe, Nat.reducePow, Int.reduceLE, Int.reduceLT, Int.reduceNeg, Int.reduceToNat, Int.reduceEq, Int.reduceAdd, Int.reduceSub, Int.reduceMul, Int.reduceBEq, Int.reduceBNe, Blk.men, Blk.keysIn, hd])
    | (exact retS_of rfl rfl rfl)
    | (refine DW.cond_tt rfl ?_)
    | (refine DW.cond_ff rfl ?_)
    | (refine DW.cond rfl ?_ ?_ <;> intro hc <;> (try simp only [go_sem] at hc))
    | (refine g_split ?_ ?_ <;> intro hc <;> (try simp only [hc]) <;> (try simp only [go_sem] at hc)))
def CLot.after (r : CR) (l : CLot) (x : Int) : CLot :=
  ⟨l.off, l.made + 1, l.ws + lowT l.off x, if lowT l.off x < r.low then l.wb + 1 else l.wb, l.bs + highT l.off x, if highT l.off x < r.low then l.bb + 1 else l.bb⟩
structure CLot.ok (l : CLot) : Prop where
  off : 0 ≤ l.off ∧ l.off ≤ 1000
  made : 0 ≤ l.made ∧ l.made ≤ 100
  ws : 0 ≤ l.ws ∧ l.ws ≤ 100000 * l.made
  wb : 0 ≤ l.wb ∧ l.wb ≤ l.made
  bs : 0 ≤ l.bs ∧ l.bs ≤ 100000 * l.made
  bb : 0 ≤ l.bb ∧ l.bb ≤ l.made
theorem lowT_in {off x : Int} (h1 : 0 ≤ off) (h2 : 0 ≤ x ∧ x ≤ 100000) : 0 ≤ lowT off x ∧ lowT off x ≤ 100000 := by
  unfold lowT; split <;> omega
theorem highT_in {off x : Int} (h1 : 0 ≤ off) (h2 : 0 ≤ x ∧ x ≤ 100000) : 0 ≤ highT off x ∧ highT off x ≤ 100000 := by
  unfold highT; split <;> omega
theorem CLot.ok_after {r : CR} {l : CLot} {x : Int} (h : l.ok) (hm : l.made < 100) (hx : 0 ≤ x ∧ x ≤ 100000) : (l.after r x).ok := by
  have h1 := lowT_in h.off.1 hx
  have h2 := highT_in h.off.1 hx
  have h3 := h.made
  have h4 := h.ws
  have h5 := h.wb
  have h6 := h.bs
  have h7 := h.bb
  refine ⟨h.off, ?_, ?_, ?_, ?_, ?_⟩ <;> simp only [CLot.after] <;> (try split) <;> omega
theorem crAfter (r : CR) (l : CLot) (x : Int) (h : l.ok) (hx : 0 ≤ x ∧ x ≤ 100000) : DCall Try.prog 75 [dLot r l, dI x] [] (dLot r (l.after r x)) [] := by
  have h1 := lowT_in h.off.1 hx
  have h2 := highT_in h.off.1 hx
  have h3 := h.made
  have h4 := h.ws
  have h5 := h.wb
  have h6 := h.bs
  have h7 := h.bb
  refine DCall.of Try.func75 sf75 hb75 (Nat.le_of_ble_eq_true rfl) (okRes_nil fun _ => rfl) ?_; simp only [s75, idxs, Nat.reduceAdd]
  repeat' (first
    | (with_reducible refine DW.seq ?_)
    | (with_reducible refine DW.block ?_)
    | (with_reducible refine DW.skip ?_)
    | (with_reducible refine DW.exit ?_)
    | (with_reducible refine DW.ret ?_)
    | (with_reducible refine DW.reg ?_)
    | (refine DW.dreg rfl (WF.of (by first | rfl | simp (disch := omega) only [go_sem, Nat.reduceLT, Nat.reduceLeDiff, Nat.reduceAdd, Nat.reduceMul, Nat.reduceEqDiff, ↓reduceIte, reduceCtorEq, Nat.reduceBEq, Nat.reduceBNe, Nat.reducePow, Int.reduceLE, Int.reduceLT, Int.reduceNeg, Int.reduceToNat, Int.reduceEq, Int.reduceAdd, Int.reduceSub, Int.reduceMul, Int.reduceBEq, Int.reduceBNe, Blk.men, Blk.keysIn])) ?_)
    | (simp (disch := omega) only [go_sem, Nat.reduceLT, Nat.reduceLeDiff, Nat.reduceAdd, Nat.reduceMul, Nat.reduceEqDiff, ↓reduceIte, reduceCtorEq, Nat.reduceBEq, Nat.reduceBNe, Nat.reducePow, Int.reduceLE, Int.reduceLT, Int.reduceNeg, Int.reduceToNat, Int.reduceEq, Int.reduceAdd, Int.reduceSub, Int.reduceMul, Int.reduceBEq, Int.reduceBNe, Blk.men, Blk.keysIn])
    | (exact retS_of rfl rfl rfl)
    | (refine DW.cond_tt rfl ?_)
    | (refine call_c (crTruth l.off x h.off hx) (by decide) ?_)
    | (refine call_c (crWith l.ws l.wb (lowT l.off x) r.low (by omega) (by omega) (by omega)) (by decide) ?_)
    | (refine call_c (crWith l.bs l.bb (highT l.off x) r.low (by omega) (by omega) (by omega)) (by decide) ?_)
    | (refine DW.cond_ff rfl ?_)
    | (refine DW.cond rfl ?_ ?_ <;> intro hc <;> (try simp only [go_sem] at hc))
    | (refine g_split ?_ ?_ <;> intro hc <;> (try simp only [hc]) <;> (try simp only [go_sem] at hc)))
def CLot.new (off : Int) : CLot := ⟨off, 0, 0, 0, 0, 0⟩
def lotOf (r : CR) (off : Int) (rs : List Int) : CLot := rs.foldl (CLot.after r) (CLot.new off)
theorem lotOf_snoc (r : CR) (off : Int) (rs : List Int) (x : Int) : lotOf r off (rs ++ [x]) = (lotOf r off rs).after r x := by simp [lotOf, List.foldl_append]
theorem lotOf_take {r : CR} {off : Int} {rs : List Int} {i : Nat} {x : Int} (h : rs[i]? = some x) : lotOf r off (rs.take (i + 1)) = (lotOf r off (rs.take i)).after r x := by
  rw [List.take_add_one, h]; exact lotOf_snoc r off _ x
theorem fold_made (r : CR) : ∀ (rs : List Int) (l : CLot), (rs.foldl (CLot.after r) l).made = l.made + rs.length ∧ (rs.foldl (CLot.after r) l).off = l.off
  | [], l => by simp
  | x :: rs, l => by
    have ih := fold_made r rs (l.after r x)
    rw [List.foldl_cons, ih.1, ih.2]
    refine ⟨?_, rfl⟩
    show l.made + 1 + (rs.length : Int) = l.made + ((rs.length + 1 : Nat) : Int)
    omega
theorem lotOf_made (r : CR) (off : Int) (rs : List Int) : (lotOf r off rs).made = rs.length ∧ (lotOf r off rs).off = off := by
  have := fold_made r rs (CLot.new off)
  unfold lotOf
  rw [this.1, this.2]
  simp [CLot.new]
theorem fold_ok (r : CR) : ∀ (rs : List Int) (l : CLot), l.ok → l.made + rs.length ≤ 100 → (∀ x ∈ rs, 0 ≤ x ∧ x ≤ 100000) → (rs.foldl (CLot.after r) l).ok
  | [], l, h, _, _ => h
  | x :: rs, l, h, h1, h2 => by
    rw [List.foldl_cons]
    rw [List.length_cons] at h1
    refine fold_ok r rs _ (CLot.ok_after h (by omega) (h2 x (by simp))) ?_ (fun y hy => h2 y (by simp [hy]))
    simp only [CLot.after]; omega
theorem lotOf_ok {r : CR} {off : Int} (ho : 0 ≤ off ∧ off ≤ 1000) (rs : List Int) (h1 : rs.length ≤ 100) (h2 : ∀ x ∈ rs, 0 ≤ x ∧ x ≤ 100000) : (lotOf r off rs).ok :=
  fold_ok r rs (CLot.new off) ⟨ho, by simp [CLot.new], by simp [CLot.new], by simp [CLot.new], by simp [CLot.new], by simp [CLot.new]⟩ (by show (0 : Int) + (rs.length : Int) ≤ 100; omega) h2
theorem crNew (b : Bool) (r : CR) (rs : List Int) (off : Int) (h : CRok r rs off) : DCall Try.prog 42 [dCR r, dIs b rs, dI off] [] (dLot r (lotOf r off rs)) [] := by
  have hlen := h.len
  have ht := h.tests
  have hl20 : rs.length ≤ 20 := by omega
  refine DCall.of Try.func42 sf42 hb42 (Nat.le_of_ble_eq_true rfl) (okRes_nil fun _ => rfl) ?_; simp only [s42, idxs, Nat.reduceAdd]
  repeat' (first
    | (with_reducible refine DW.seq ?_)
    | (with_reducible refine DW.block ?_)
    | (with_reducible refine DW.skip ?_)
    | (with_reducible refine DW.exit ?_)
    | (with_reducible refine DW.ret ?_)
    | (with_reducible refine DW.reg ?_)
    | (simp (disch := omega) only [go_sem, Nat.reduceLT, Nat.reduceLeDiff, Nat.reduceAdd, Nat.reduceMul, Nat.reduceEqDiff, ↓reduceIte, reduceCtorEq, Nat.reduceBEq, Nat.reduceBNe, Nat.reducePow, Int.reduceLE, Int.reduceLT, Int.reduceNeg, Int.reduceToNat, Int.reduceEq, Int.reduceAdd, Int.reduceSub, Int.reduceMul, Int.reduceBEq, Int.reduceBNe, Blk.men, Blk.keysIn])
    | (exact retS_of rfl rfl rfl)
    | (refine DW.cond_tt rfl ?_)
    | (refine DW.cond_ff rfl ?_)
    | (refine DW.cond rfl ?_ ?_ <;> intro hc <;> (try simp only [go_sem] at hc))
    | (refine g_split ?_ ?_ <;> intro hc <;> (try simp only [hc]) <;> (try simp only [go_sem] at hc)))
  refine DW.loop (ι := { i : Nat // i ≤ rs.length }) (fun i => ⟨24, [(15, dI i.1), (14, dI rs.length), (13, dIs b rs), (7, .box 7 0), (6, .box 6 0)], [(7, .box [dI r.tests, dI r.mean, dI r.low, dI r.bad, dI (lotOf r off (rs.take i.1)).off, dI (lotOf r off (rs.take i.1)).made, dI (lotOf r off (rs.take i.1)).ws, dI (lotOf r off (rs.take i.1)).wb, dI (lotOf r off (rs.take i.1)).bs, dI (lotOf r off (rs.take i.1)).bb]), (6, .box [dI 0, dI 0, dI 0, dI 0, dI 0, dI 0, dI 0, dI 0, dI 0, dI 0])]⟩) (fun i => rs.length - i.1) ⟨0, Nat.zero_le _⟩ ?_ ?_
  · refine Ent.to ?_ ?_ <;> simp (disch := omega) only [wkT_cons, wkX_cons, wkT_nil, wkX_nil, get, Nat.reduceEqDiff, ↓reduceIte, ex_some, wk_self, wk_top, wk_nil, wkB_self, and_self, dI, i64_in, and_true, true_and, Int.natCast_add, Int.natCast_one, Int.ofNat_zero, Int.natCast_zero, List.take_zero, lotOf, List.foldl_nil, CLot.new]
    all_goals exact .refl _
  rintro ⟨i, hi⟩
  rcases at_or rs i hi with ⟨x, hx, hlt, hd⟩ | ⟨hend, hd⟩
  · have hs := lotOf_take (r := r) (off := off) hx
    have hok := lotOf_ok (r := r) h.off (rs.take i) (by rw [List.length_take]; omega) (fun y hy => h.rs y (List.mem_of_mem_take hy))
    generalize lotOf r off (rs.take i) = l at *
    repeat' (first
    | (with_reducible refine DW.seq ?_)
    | (with_reducible refine DW.block ?_)
    | (with_reducible refine DW.skip ?_)
    | (with_reducible refine DW.exit ?_)
    | (with_reducible refine DW.ret ?_)
    | (with_reducible refine DW.reg ?_)
    | (simp (disch := omega) only [go_sem, Nat.reduceLT, Nat.reduceLeDiff, Nat.reduceAdd, Nat.reduceMul, Nat.reduceEqDiff, ↓reduceIte, reduceCtorEq, Nat.reduceBEq, Nat.reduceBNe, Nat.reducePow, Int.reduceLE, Int.reduceLT, Int.reduceNeg, Int.reduceToNat, Int.reduceEq, Int.reduceAdd, Int.reduceSub, Int.reduceMul, Int.reduceBEq, Int.reduceBNe, Blk.men, Blk.keysIn, hd, hx])
    | (exact retS_of rfl rfl rfl)
    | (refine DW.cond_tt rfl ?_)
    | (refine call_c (crAfter r l x hok (h.rs x (List.mem_of_getElem? hx))) (by decide) ?_)
    | (refine DW.cond_ff rfl ?_)
    | (refine DW.cond rfl ?_ ?_ <;> intro hc <;> (try simp only [go_sem] at hc))
    | (refine g_split ?_ ?_ <;> intro hc <;> (try simp only [hc]) <;> (try simp only [go_sem] at hc)))
    refine ⟨⟨i + 1, hlt⟩, ?_, Ent.to ?_ ?_⟩ <;> first | (show _ < _; (try simp only); omega) | (simp (disch := omega) only [wkT_cons, wkX_cons, wkT_nil, wkX_nil, get, Nat.reduceEqDiff, ↓reduceIte, ex_some, wk_self, wk_top, wk_nil, wkB_self, and_self, dI, i64_in, and_true, true_and, Int.natCast_add, Int.natCast_one, Int.ofNat_zero, Int.natCast_zero,  hs])
    all_goals exact .refl _
  · rw [List.take_of_length_le (by omega : rs.length ≤ i)]
    generalize lotOf r off rs = l at *
    repeat' (first
    | (with_reducible refine DW.seq ?_)
    | (with_reducible refine DW.block ?_)
    | (with_reducible refine DW.skip ?_)
    | (with_reducible refine DW.exit ?_)
    | (with_reducible refine DW.ret ?_)
    | (with_reducible refine DW.reg ?_)
    | (simp (disch := omega) only [go_sem, Nat.reduceLT, Nat.reduceLeDiff, Nat.reduceAdd, Nat.reduceMul, Nat.reduceEqDiff, ↓reduceIte, reduceCtorEq, Nat.reduceBEq, Nat.reduceBNe, Nat.reducePow, Int.reduceLE, Int.reduceLT, Int.reduceNeg, Int.reduceToNat, Int.reduceEq, Int.reduceAdd, Int.reduceSub, Int.reduceMul, Int.reduceBEq, Int.reduceBNe, Blk.men, Blk.keysIn, hd])
    | (exact retS_of rfl rfl rfl)
    | (refine DW.cond_tt rfl ?_)
    | (refine DW.cond_ff rfl ?_)
    | (refine DW.cond rfl ?_ ?_ <;> intro hc <;> (try simp only [go_sem] at hc))
    | (refine g_split ?_ ?_ <;> intro hc <;> (try simp only [hc]) <;> (try simp only [go_sem] at hc)))
end Go.Dw.Seat
end
section
set_option linter.unusedSimpArgs false
set_option maxRecDepth 100000
namespace Go.Dw.Seat
open Go Go.Dw Go.Proofs Go.IntWalk
def badOf (b rest low : Int) (i : Nat) : Int := if rest < low then b + (i : Nat) else b
def passI (r : CR) (made s b rest : Int) : Bool := decide (r.tests * r.mean ≤ s + ((r.tests - made).toNat : Int) * rest) && decide (badOf b rest r.low (r.tests - made).toNat ≤ r.bad)
theorem mulB0 {a b A B : Int} (ha : 0 ≤ a ∧ a ≤ A) (hb : 0 ≤ b ∧ b ≤ B) : 0 ≤ a * b ∧ a * b ≤ A * B := by
  refine ⟨Int.mul_nonneg ha.1 hb.1, ?_⟩
  exact Int.le_trans (Int.mul_le_mul_of_nonneg_right ha.2 hb.1) (Int.mul_le_mul_of_nonneg_left hb.2 (Int.le_trans ha.1 ha.2))
theorem crPasses (r : CR) (l : CLot) (s b rest : Int) (ht : 1 ≤ r.tests ∧ r.tests ≤ 20) (hm : 0 ≤ r.mean ∧ r.mean ≤ 100000) (hmade : 0 ≤ l.made ∧ l.made ≤ r.tests) (hs : 0 ≤ s ∧ s ≤ 100000000) (hb : 0 ≤ b ∧ b ≤ 100) (hr : 0 ≤ rest ∧ rest ≤ 100000) :
    DCall Try.prog 76 [dLot r l, .agg [dI s, dI b], dI rest] [] (bD (passI r l.made s b rest)) [] := by
  obtain ⟨k, hk⟩ : ∃ k : Nat, (r.tests - l.made).toNat = k := ⟨_, rfl⟩
  have hkI : r.tests - l.made = (k : Int) := by omega
  have hmul := mulB0 (a := r.tests) (b := r.mean) (A := 20) (B := 100000) (by omega) hm
  have hkr := mulB0 (a := (k : Int)) (b := rest) (A := 20) (B := 100000) (by omega) hr
  have hp : passI r l.made s b rest = (decide (r.tests * r.mean ≤ s + (k : Int) * rest) && decide (badOf b rest r.low k ≤ r.bad)) := by rw [passI, hk]
  rw [hp]
  generalize htm : r.tests * r.mean = tm at *
  refine DCall.of Try.func76 sf76 hb76 (Nat.le_of_ble_eq_true rfl) (okRes_nil fun _ => rfl) ?_; simp only [s76, idxs, Nat.reduceAdd]
  repeat' (first
    | (with_reducible refine DW.seq ?_)
    | (with_reducible refine DW.block ?_)
    | (with_reducible refine DW.skip ?_)
    | (with_reducible refine DW.exit ?_)
    | (with_reducible refine DW.ret ?_)
    | (with_reducible refine DW.reg ?_)
    | (simp (disch := omega) only [go_sem, Nat.reduceLT, Nat.reduceLeDiff, Nat.reduceAdd, Nat.reduceMul, Nat.reduceEqDiff, ↓reduceIte, reduceCtorEq, Nat.reduceBEq, Nat.reduceBNe, Nat.reducePow, Int.reduceLE, Int.reduceLT, Int.reduceNeg, Int.reduceToNat, Int.reduceEq, Int.reduceAdd, Int.reduceSub, Int.reduceMul, Int.reduceBEq, Int.reduceBNe, Blk.men, Blk.keysIn, hkI])
    | (exact retS_of rfl rfl rfl)
    | (refine DW.cond_tt rfl ?_)
    | (refine DW.cond_ff rfl ?_)
    | (refine DW.cond rfl ?_ ?_ <;> intro hc <;> (try simp only [go_sem] at hc))
    | (refine g_split ?_ ?_ <;> intro hc <;> (try simp only [hc]) <;> (try simp only [go_sem] at hc)))
  refine DW.loop (ι := { i : Nat // i ≤ k }) (fun i => ⟨40, [(13, dI i.1), (12, dI k), (4, .box 4 0), (3, .box 3 0), (2, dI rest)], [(4, .box [dI (s + (i.1 : Int) * rest), dI (badOf b rest r.low i.1)]), (3, .box [dI r.tests, dI r.mean, dI r.low, dI r.bad, dI l.off, dI l.made, dI l.ws, dI l.wb, dI l.bs, dI l.bb])]⟩) (fun i => k - i.1) ⟨0, Nat.zero_le _⟩ ?_ ?_
  · refine Ent.to ?_ ?_ <;> simp (disch := omega) only [wkT_cons, wkX_cons, wkT_nil, wkX_nil, get, Nat.reduceEqDiff, ↓reduceIte, ex_some, wk_self, wk_top, wk_nil, wkB_self, and_self, dI, i64_in, and_true, true_and, Int.natCast_add, Int.natCast_one, Int.ofNat_zero, Int.natCast_zero, Int.zero_mul, Int.add_zero, badOf, ite_self]
    all_goals exact .refl _
  rintro ⟨i, hi⟩
  have hir := mulB0 (a := (i : Int)) (b := rest) (A := 20) (B := 100000) (by omega) hr
  have hbi : 0 ≤ badOf b rest r.low i ∧ badOf b rest r.low i ≤ 200 := by unfold badOf; split <;> omega
  have hnext : badOf b rest r.low (i + 1) = if rest < r.low then badOf b rest r.low i + 1 else badOf b rest r.low i := by unfold badOf; split <;> omega
  have hadd : s + ((i + 1 : Nat) : Int) * rest = s + (i : Int) * rest + rest := by rw [Int.natCast_add, Int.add_mul]; omega
  rcases Nat.lt_or_ge i k with hlt | hge
  · have hd : decide ((i : Int) < (k : Int)) = true := by rw [decide_eq_true_eq]; omega
    have hw := crWith (s + (i : Int) * rest) (badOf b rest r.low i) rest r.low (by omega) (by omega) (by omega)
    rw [← hnext, ← hadd] at hw
    generalize s + (i : Int) * rest = si at *
    generalize hj1 : s + ((i + 1 : Nat) : Int) * rest = sj at *
    generalize hj2 : badOf b rest r.low (i + 1) = bj at *
    rw [Int.natCast_add, Int.natCast_one] at hj1
    repeat' (first
    | (with_reducible refine DW.seq ?_)
    | (with_reducible refine DW.block ?_)
    | (with_reducible refine DW.skip ?_)
    | (with_reducible refine DW.exit ?_)
    | (with_reducible refine DW.ret ?_)
    | (with_reducible refine DW.reg ?_)
    | (simp (disch := omega) only [go_sem, Nat.reduceLT, Nat.reduceLeDiff, Nat.reduceAdd, Nat.reduceMul, Nat.reduceEqDiff, ↓reduceIte, reduceCtorEq, Nat.reduceBEq, Nat.reduceBNe, Nat.reducePow, Int.reduceLE, Int.reduceLT, Int.reduceNeg, Int.reduceToNat, Int.reduceEq, Int.reduceAdd, Int.reduceSub, Int.reduceMul, Int.reduceBEq, Int.reduceBNe, Blk.men, Blk.keysIn, hd])
    | (exact retS_of rfl rfl rfl)
    | (refine DW.cond_tt rfl ?_)
    | (refine call_c (hw) (by decide) ?_)
    | (refine DW.cond_ff rfl ?_)
    | (refine DW.cond rfl ?_ ?_ <;> intro hc <;> (try simp only [go_sem] at hc))
    | (refine g_split ?_ ?_ <;> intro hc <;> (try simp only [hc]) <;> (try simp only [go_sem] at hc)))
    refine ⟨⟨i + 1, hlt⟩, ?_, Ent.to ?_ ?_⟩ <;> first | (show _ < _; (try simp only); omega) | (simp (disch := omega) only [wkT_cons, wkX_cons, wkT_nil, wkX_nil, get, Nat.reduceEqDiff, ↓reduceIte, ex_some, wk_self, wk_top, wk_nil, wkB_self, and_self, dI, i64_in, and_true, true_and, Int.natCast_add, Int.natCast_one, Int.ofNat_zero, Int.natCast_zero,  hj1, hj2])
    all_goals exact .refl _
  · obtain rfl : i = k := by omega
    have hd : decide ((i : Int) < (i : Int)) = false := by rw [decide_eq_false_iff_not]; omega
    generalize s + (i : Int) * rest = si at *
    generalize badOf b rest r.low i = bi at *
    cases h1 : decide (tm ≤ si) <;> repeat' (first
    | (with_reducible refine DW.seq ?_)
    | (with_reducible refine DW.block ?_)
    | (with_reducible refine DW.skip ?_)
    | (with_reducible refine DW.exit ?_)
    | (with_reducible refine DW.ret ?_)
    | (with_reducible refine DW.reg ?_)
    | (simp (disch := omega) only [go_sem, Nat.reduceLT, Nat.reduceLeDiff, Nat.reduceAdd, Nat.reduceMul, Nat.reduceEqDiff, ↓reduceIte, reduceCtorEq, Nat.reduceBEq, Nat.reduceBNe, Nat.reducePow, Int.reduceLE, Int.reduceLT, Int.reduceNeg, Int.reduceToNat, Int.reduceEq, Int.reduceAdd, Int.reduceSub, Int.reduceMul, Int.reduceBEq, Int.reduceBNe, Blk.men, Blk.keysIn, hd, htm, h1, Bool.true_and, Bool.false_and])
    | (exact retS_of rfl rfl rfl)
    | (refine DW.cond_tt rfl ?_)
    | (refine DW.cond_ff rfl ?_)
    | (refine DW.cond rfl ?_ ?_ <;> intro hc <;> (try simp only [go_sem] at hc))
    | (refine g_split ?_ ?_ <;> intro hc <;> (try simp only [hc]) <;> (try simp only [go_sem] at hc)))
def stateI (r : CR) (l : CLot) : Int := if passI r l.made l.ws l.wb 0 then 1 else if passI r l.made l.bs l.bb 100000 then 3 else 2
theorem crState (r : CR) (l : CLot) (h : l.ok) (ht : 1 ≤ r.tests ∧ r.tests ≤ 20) (hm : 0 ≤ r.mean ∧ r.mean ≤ 100000) (hmade : l.made ≤ r.tests) : DCall Try.prog 43 [dLot r l] [] (dI (stateI r l)) [] := by
  have h3 := h.made
  have h4 := h.ws
  have h5 := h.wb
  have h6 := h.bs
  have h7 := h.bb
  have hw := crPasses r l l.ws l.wb 0 ht hm ⟨h3.1, hmade⟩ (by omega) (by omega) (by omega)
  have hb := crPasses r l l.bs l.bb 100000 ht hm ⟨h3.1, hmade⟩ (by omega) (by omega) (by omega)
  unfold stateI
  cases h1 : passI r l.made l.ws l.wb 0 with
  | true =>
    rw [h1] at hw
    refine DCall.of Try.func43 sf43 hb43 (Nat.le_of_ble_eq_true rfl) (okRes_nil fun _ => rfl) ?_; simp only [s43, idxs, Nat.reduceAdd]
    repeat' (first
    | (with_reducible refine DW.seq ?_)
    | (with_reducible refine DW.block ?_)
    | (with_reducible refine DW.skip ?_)
    | (with_reducible refine DW.exit ?_)
    | (with_reducible refine DW.ret ?_)
    | (with_reducible refine DW.reg ?_)
    | (simp (disch := omega) only [go_sem, Nat.reduceLT, Nat.reduceLeDiff, Nat.reduceAdd, Nat.reduceMul, Nat.reduceEqDiff, ↓reduceIte, reduceCtorEq, Nat.reduceBEq, Nat.reduceBNe, Nat.reducePow, Int.reduceLE, Int.reduceLT, Int.reduceNeg, Int.reduceToNat, Int.reduceEq, Int.reduceAdd, Int.reduceSub, Int.reduceMul, Int.reduceBEq, Int.reduceBNe, Blk.men, Blk.keysIn])
    | (exact retS_of rfl rfl rfl)
    | (refine DW.cond_tt rfl ?_)
    | (refine call_c (hw) (by decide) ?_)
    | (refine DW.cond_ff rfl ?_)
    | (refine DW.cond rfl ?_ ?_ <;> intro hc <;> (try simp only [go_sem] at hc))
    | (refine g_split ?_ ?_ <;> intro hc <;> (try simp only [hc]) <;> (try simp only [go_sem] at hc)))
  | false =>
    rw [h1] at hw
    cases h2 : passI r l.made l.bs l.bb 100000 with
    | true =>
      rw [h2] at hb
      refine DCall.of Try.func43 sf43 hb43 (Nat.le_of_ble_eq_true rfl) (okRes_nil fun _ => rfl) ?_; simp only [s43, idxs, Nat.reduceAdd]
      repeat' (first
    | (with_reducible refine DW.seq ?_)
    | (with_reducible refine DW.block ?_)
    | (with_reducible refine DW.skip ?_)
    | (with_reducible refine DW.exit ?_)
    | (with_reducible refine DW.ret ?_)
    | (with_reducible refine DW.reg ?_)
    | (simp (disch := omega) only [go_sem, Nat.reduceLT, Nat.reduceLeDiff, Nat.reduceAdd, Nat.reduceMul, Nat.reduceEqDiff, ↓reduceIte, reduceCtorEq, Nat.reduceBEq, Nat.reduceBNe, Nat.reducePow, Int.reduceLE, Int.reduceLT, Int.reduceNeg, Int.reduceToNat, Int.reduceEq, Int.reduceAdd, Int.reduceSub, Int.reduceMul, Int.reduceBEq, Int.reduceBNe, Blk.men, Blk.keysIn])
    | (exact retS_of rfl rfl rfl)
    | (refine DW.cond_tt rfl ?_)
    | (refine call_c (hw) (by decide) ?_)
    | (refine call_c (hb) (by decide) ?_)
    | (refine DW.cond_ff rfl ?_)
    | (refine DW.cond rfl ?_ ?_ <;> intro hc <;> (try simp only [go_sem] at hc))
    | (refine g_split ?_ ?_ <;> intro hc <;> (try simp only [hc]) <;> (try simp only [go_sem] at hc)))
    | false =>
      rw [h2] at hb
      refine DCall.of Try.func43 sf43 hb43 (Nat.le_of_ble_eq_true rfl) (okRes_nil fun _ => rfl) ?_; simp only [s43, idxs, Nat.reduceAdd]
      repeat' (first
    | (with_reducible refine DW.seq ?_)
    | (with_reducible refine DW.block ?_)
    | (with_reducible refine DW.skip ?_)
    | (with_reducible refine DW.exit ?_)
    | (with_reducible refine DW.ret ?_)
    | (with_reducible refine DW.reg ?_)
    | (simp (disch := omega) only [go_sem, Nat.reduceLT, Nat.reduceLeDiff, Nat.reduceAdd, Nat.reduceMul, Nat.reduceEqDiff, ↓reduceIte, reduceCtorEq, Nat.reduceBEq, Nat.reduceBNe, Nat.reducePow, Int.reduceLE, Int.reduceLT, Int.reduceNeg, Int.reduceToNat, Int.reduceEq, Int.reduceAdd, Int.reduceSub, Int.reduceMul, Int.reduceBEq, Int.reduceBNe, Blk.men, Blk.keysIn])
    | (exact retS_of rfl rfl rfl)
    | (refine DW.cond_tt rfl ?_)
    | (refine call_c (hw) (by decide) ?_)
    | (refine call_c (hb) (by decide) ?_)
    | (refine DW.cond_ff rfl ?_)
    | (refine DW.cond rfl ?_ ?_ <;> intro hc <;> (try simp only [go_sem] at hc))
    | (refine g_split ?_ ?_ <;> intro hc <;> (try simp only [hc]) <;> (try simp only [go_sem] at hc)))
theorem crDecide (b : Bool) (r : CR) (rs : List Int) (off : Int) (h : CRok r rs off) : DCall Try.prog 10 [dCR r, dIs b rs, dI off] [] (.tup [dI (stateI r (lotOf r off rs)), dI 0]) [] := by
  have hlen := h.len
  have ht := h.tests
  have hm := (lotOf_made r off rs).1
  have hok := lotOf_ok (r := r) h.off rs (by omega) h.rs
  have h1 := crRule b r rs off h
  have h2 := crNew b r rs off h
  have h3 := crState r (lotOf r off rs) hok h.tests h.mean (by omega)
  refine DCall.of Try.func10 sf10 hb10 (Nat.le_of_ble_eq_true rfl) (okRes_nil fun _ => rfl) ?_; simp only [s10, idxs, Nat.reduceAdd]
  repeat' (first
    | (with_reducible refine DW.seq ?_)
    | (with_reducible refine DW.block ?_)
    | (with_reducible refine DW.skip ?_)
    | (with_reducible refine DW.exit ?_)
    | (with_reducible refine DW.ret ?_)
    | (with_reducible refine DW.reg ?_)
    | (simp (disch := omega) only [go_sem, Nat.reduceLT, Nat.reduceLeDiff, Nat.reduceAdd, Nat.reduceMul, Nat.reduceEqDiff, ↓reduceIte, reduceCtorEq, Nat.reduceBEq, Nat.reduceBNe, Nat.reducePow, Int.reduceLE, Int.reduceLT, Int.reduceNeg, Int.reduceToNat, Int.reduceEq, Int.reduceAdd, Int.reduceSub, Int.reduceMul, Int.reduceBEq, Int.reduceBNe, Blk.men, Blk.keysIn])
    | (exact retS_of rfl rfl rfl)
    | (refine DW.cond_tt rfl ?_)
    | (refine call_c (h1) (by decide) ?_)
    | (refine call_c (h2) (by decide) ?_)
    | (refine call_c (h3) (by decide) ?_)
    | (refine DW.cond_ff rfl ?_)
    | (refine DW.cond rfl ?_ ?_ <;> intro hc <;> (try simp only [go_sem] at hc))
    | (refine g_split ?_ ?_ <;> intro hc <;> (try simp only [hc]) <;> (try simp only [go_sem] at hc)))
end Go.Dw.Seat
end
section
set_option linter.unusedSimpArgs false
set_option maxRecDepth 100000
namespace Go.Dw.Seat
open Go Go.Dw Go.Proofs Go.IntWalk
theorem bdW1 (n lo hi : Int) (p q : Bool) : DCall Try.prog 156 [dI n, .c (.ro p [.v (.int .i64 lo)] 0), .c (.ro q [.v (.int .i64 hi)] 0)] [] (bD (decide (n < lo) || decide (hi < n))) [] := by
  refine DCall.of Try.func156 sf156 hb156 (Nat.le_of_ble_eq_true rfl) (okRes_nil fun _ => rfl) ?_; simp only [s156, idxs, Nat.reduceAdd]
  repeat' (first
    | (with_reducible refine DW.seq ?_)
    | (with_reducible refine DW.block ?_)
    | (with_reducible refine DW.skip ?_)
    | (with_reducible refine DW.exit ?_)
    | (with_reducible refine DW.ret ?_)
    | (with_reducible refine DW.reg ?_)
    | (simp (disch := omega) only [go_sem, Nat.reduceLT, Nat.reduceLeDiff, Nat.reduceAdd, Nat.reduceMul, Nat.reduceEqDiff, ↓reduceIte, reduceCtorEq, Nat.reduceBEq, Nat.reduceBNe, Nat.reducePow, Int.reduceLE, Int.reduceLT, Int.reduceNeg, Int.reduceToNat, Int.reduceEq, Int.reduceAdd, Int.reduceSub, Int.reduceMul, Int.reduceBEq, Int.reduceBNe, Blk.men, Blk.keysIn])
    | (exact retS_of rfl rfl rfl)
    | (refine DW.cond_tt rfl ?_)
    | (refine DW.cond_ff rfl ?_)
    | (refine DW.cond rfl ?_ ?_ <;> intro hc <;> (try simp only [go_sem] at hc))
    | (refine g_split ?_ ?_ <;> intro hc <;> (try simp only [hc]) <;> (try simp only [go_sem] at hc)))
theorem bdWithin (b : Bool) (lo hi : Int) (l : List Int) (hl : l.length ≤ 2 ^ 36) : DCall Try.prog 126 [dI lo, dI hi, dIs b l] [] (bD (wthn lo hi l)) [] := by
  refine DCall.of Try.func126 sf126 hb126 (Nat.le_of_ble_eq_true rfl) (okRes_nil fun _ => rfl) ?_; simp only [s126, idxs, Nat.reduceAdd]
  repeat' (first
    | (with_reducible refine DW.seq ?_)
    | (with_reducible refine DW.block ?_)
    | (with_reducible refine DW.skip ?_)
    | (with_reducible refine DW.exit ?_)
    | (with_reducible refine DW.ret ?_)
    | (with_reducible refine DW.reg ?_)
    | (simp (disch := omega) only [go_sem, Nat.reduceLT, Nat.reduceLeDiff, Nat.reduceAdd, Nat.reduceMul, Nat.reduceEqDiff, ↓reduceIte, reduceCtorEq, Nat.reduceBEq, Nat.reduceBNe, Nat.reducePow, Int.reduceLE, Int.reduceLT, Int.reduceNeg, Int.reduceToNat, Int.reduceEq, Int.reduceAdd, Int.reduceSub, Int.reduceMul, Int.reduceBEq, Int.reduceBNe, Blk.men, Blk.keysIn])
    | (exact retS_of rfl rfl rfl)
    | (refine DW.cond_tt rfl ?_)
    | (refine DW.cond_ff rfl ?_)
    | (refine DW.cond rfl ?_ ?_ <;> intro hc <;> (try simp only [go_sem] at hc))
    | (refine g_split ?_ ?_ <;> intro hc <;> (try simp only [hc]) <;> (try simp only [go_sem] at hc)))
  (refine call_c (c110 b l hl 156 [] [.ro true [.v (.int .i64 lo)] 0, .ro true [.v (.int .i64 hi)] 0] (fun n => decide (n < lo) || decide (hi < n)) (fun x _ => bdW1 x lo hi true true)) (by decide) ?_; simp (disch := omega) only [go_sem, Nat.reduceLT, Nat.reduceLeDiff, Nat.reduceAdd, Nat.reduceMul, Nat.reduceEqDiff, ↓reduceIte, reduceCtorEq, Nat.reduceBEq, Nat.reduceBNe, Nat.reducePow, Int.reduceLE, Int.reduceLT, Int.reduceNeg, Int.reduceToNat, Int.reduceEq, Int.reduceAdd, Int.reduceSub, Int.reduceMul, Int.reduceBEq, Int.reduceBNe, Blk.men, Blk.keysIn])
  repeat' (first
    | (with_reducible refine DW.seq ?_)
    | (with_reducible refine DW.block ?_)
    | (with_reducible refine DW.skip ?_)
    | (with_reducible refine DW.exit ?_)
    | (with_reducible refine DW.ret ?_)
    | (with_reducible refine DW.reg ?_)
    | (simp (disch := omega) only [go_sem, Nat.reduceLT, Nat.reduceLeDiff, Nat.reduceAdd, Nat.reduceMul, Nat.reduceEqDiff, ↓reduceIte, reduceCtorEq, Nat.reduceBEq, Nat.reduceBNe, Nat.reducePow, Int.reduceLE, Int.reduceLT, Int.reduceNeg, Int.reduceToNat, Int.reduceEq, Int.reduceAdd, Int.reduceSub, Int.reduceMul, Int.reduceBEq, Int.reduceBNe, Blk.men, Blk.keysIn])
    | (exact retS_of rfl rfl rfl)
    | (refine DW.cond_tt rfl ?_)
    | (refine DW.cond_ff rfl ?_)
    | (refine DW.cond rfl ?_ ?_ <;> intro hc <;> (try simp only [go_sem] at hc))
    | (refine g_split ?_ ?_ <;> intro hc <;> (try simp only [hc]) <;> (try simp only [go_sem] at hc)))
theorem bdIn (b : Bool) (lo hi : Int) (l : List Int) (hl : l.length ≤ 2 ^ 36) (h : ∀ v ∈ l, lo ≤ v ∧ v ≤ hi) : DCall Try.prog 126 [dI lo, dI hi, dIs b l] [] (bD true) [] := by
  have := bdWithin b lo hi l hl
  rwa [wthn_yes h] at this
structure Pap where
  kind : Int
  weight : Int
  tl : Int
  th : Int
  ml : Int
  mh : Int
  price : Int
  strong : Int
structure Flu where
  pitch : Int
  draw : Int
  hl : Int
  hh : Int
def eP (p : Pap) : List C := [.v (.int .i64 p.kind), .v (.int .i64 p.weight), .v (.int .i64 p.tl), .v (.int .i64 p.th), .v (.int .i64 p.ml), .v (.int .i64 p.mh), .v (.int .i64 p.price), .v (.int .i64 p.strong)]
def eF (f : Flu) : List C := [.v (.int .i64 f.pitch), .v (.int .i64 f.draw), .v (.int .i64 f.hl), .v (.int .i64 f.hh)]
theorem eP_nb (v : Pap) : C.nbs (eP v) = true := rfl
theorem eF_nb (v : Flu) : C.nbs (eF v) = true := rfl
structure Pap.ok (p : Pap) : Prop where
  kind : p.kind = 1 ∨ p.kind = 2
  weight : 1 ≤ p.weight ∧ p.weight ≤ 1000
  thick : 1 ≤ p.tl ∧ p.tl ≤ p.th ∧ p.th ≤ 1000
  moist : 0 ≤ p.ml ∧ p.ml ≤ p.mh ∧ p.mh ≤ 200
  price : 0 ≤ p.price ∧ p.price ≤ 1000000
  strong : 0 ≤ p.strong ∧ p.strong ≤ 10000
structure Flu.ok (f : Flu) : Prop where
  pitch : 1000 ≤ f.pitch ∧ f.pitch ≤ 10000
  draw : f.pitch ≤ f.draw ∧ f.draw ≤ 2 * f.pitch
  high : 1 ≤ f.hl ∧ f.hl ≤ f.hh ∧ f.hh ≤ 10000
structure Sto where
  papers : List Pap
  flutes : List Flu
structure Sto.ok (s : Sto) : Prop where
  np : 1 ≤ s.papers.length ∧ s.papers.length ≤ 8
  nf : 1 ≤ s.flutes.length ∧ s.flutes.length ≤ 4
  papers : ∀ p ∈ s.papers, p.ok
  flutes : ∀ f ∈ s.flutes, f.ok
abbrev dSto (s : Sto) : D := .agg [.c (.sl false 8 (rows eP s.papers)), .c (.sl false 4 (rows eF s.flutes))]
attribute [go_sem] eP eF dSto
theorem bdSpan (lo hi least most : Int) (h : least ≤ lo ∧ lo ≤ hi ∧ hi ≤ most) : DCall Try.prog 171 [.agg [dI lo, dI hi], dI least, dI most] [] (bD true) [] := by
  have h1 := bdIn true least most [lo, hi] (by simp) (by simp; omega)
  have hd : decide (lo ≤ hi) = true := decide_eq_true h.2.1
  refine DCall.of Try.func171 sf171 hb171 (Nat.le_of_ble_eq_true rfl) (okRes_nil fun _ => rfl) ?_; simp only [s171, idxs, Nat.reduceAdd]
  repeat' (first
    | (with_reducible refine DW.seq ?_)
    | (with_reducible refine DW.block ?_)
    | (with_reducible refine DW.skip ?_)
    | (with_reducible refine DW.exit ?_)
    | (with_reducible refine DW.ret ?_)
    | (with_reducible refine DW.reg ?_)
    | (simp (disch := omega) only [go_sem, Nat.reduceLT, Nat.reduceLeDiff, Nat.reduceAdd, Nat.reduceMul, Nat.reduceEqDiff, ↓reduceIte, reduceCtorEq, Nat.reduceBEq, Nat.reduceBNe, Nat.reducePow, Int.reduceLE, Int.reduceLT, Int.reduceNeg, Int.reduceToNat, Int.reduceEq, Int.reduceAdd, Int.reduceSub, Int.reduceMul, Int.reduceBEq, Int.reduceBNe, Blk.men, Blk.keysIn, hd])
    | (exact retS_of rfl rfl rfl)
    | (refine DW.cond_tt rfl ?_)
    | (refine call_c (h1) (by decide) ?_)
    | (refine DW.cond_ff rfl ?_)
    | (refine DW.cond rfl ?_ ?_ <;> intro hc <;> (try simp only [go_sem] at hc))
    | (refine g_split ?_ ?_ <;> intro hc <;> (try simp only [hc]) <;> (try simp only [go_sem] at hc)))
theorem bdPaper (p : Pap) (h : p.ok) : DCall Try.prog 152 [.agg ((eP p).map D.c)] [] (bD true) [] := by
  have h1 := bdIn true 1 1000 [p.weight] (by simp) (by simpa using h.weight)
  have h2 := bdSpan p.tl p.th 1 1000 h.thick
  have h3 := bdSpan p.ml p.mh 0 200 h.moist
  have h4 := bdIn true 0 1000000 [p.price] (by simp) (by simpa using h.price)
  have h5 := bdIn true 0 10000 [p.strong] (by simp) (by simpa using h.strong)
  rcases h.kind with hk | hk
  · refine DCall.of Try.func152 sf152 hb152 (Nat.le_of_ble_eq_true rfl) (okRes_nil fun _ => rfl) ?_; simp only [s152, idxs, Nat.reduceAdd]
    repeat' (first
    | (with_reducible refine DW.seq ?_)
    | (with_reducible refine DW.block ?_)
    | (with_reducible refine DW.skip ?_)
    | (with_reducible refine DW.exit ?_)
    | (with_reducible refine DW.ret ?_)
    | (with_reducible refine DW.reg ?_)
    | (simp (disch := omega) only [go_sem, Nat.reduceLT, Nat.reduceLeDiff, Nat.reduceAdd, Nat.reduceMul, Nat.reduceEqDiff, ↓reduceIte, reduceCtorEq, Nat.reduceBEq, Nat.reduceBNe, Nat.reducePow, Int.reduceLE, Int.reduceLT, Int.reduceNeg, Int.reduceToNat, Int.reduceEq, Int.reduceAdd, Int.reduceSub, Int.reduceMul, Int.reduceBEq, Int.reduceBNe, Blk.men, Blk.keysIn, List.map_cons, List.map_nil, hk])
    | (exact retS_of rfl rfl rfl)
    | (refine DW.cond_tt rfl ?_)
    | (refine call_c (h1) (by decide) ?_)
    | (refine call_c (h2) (by decide) ?_)
    | (refine call_c (h3) (by decide) ?_)
    | (refine call_c (h4) (by decide) ?_)
    | (refine call_c (h5) (by decide) ?_)
    | (refine DW.cond_ff rfl ?_)
    | (refine DW.cond rfl ?_ ?_ <;> intro hc <;> (try simp only [go_sem] at hc))
    | (refine g_split ?_ ?_ <;> intro hc <;> (try simp only [hc]) <;> (try simp only [go_sem] at hc)))
  · refine DCall.of Try.func152 sf152 hb152 (Nat.le_of_ble_eq_true rfl) (okRes_nil fun _ => rfl) ?_; simp only [s152, idxs, Nat.reduceAdd]
    repeat' (first
    | (with_reducible refine DW.seq ?_)
    | (with_reducible refine DW.block ?_)
    | (with_reducible refine DW.skip ?_)
    | (with_reducible refine DW.exit ?_)
    | (with_reducible refine DW.ret ?_)
    | (with_reducible refine DW.reg ?_)
    | (simp (disch := omega) only [go_sem, Nat.reduceLT, Nat.reduceLeDiff, Nat.reduceAdd, Nat.reduceMul, Nat.reduceEqDiff, ↓reduceIte, reduceCtorEq, Nat.reduceBEq, Nat.reduceBNe, Nat.reducePow, Int.reduceLE, Int.reduceLT, Int.reduceNeg, Int.reduceToNat, Int.reduceEq, Int.reduceAdd, Int.reduceSub, Int.reduceMul, Int.reduceBEq, Int.reduceBNe, Blk.men, Blk.keysIn, List.map_cons, List.map_nil, hk])
    | (exact retS_of rfl rfl rfl)
    | (refine DW.cond_tt rfl ?_)
    | (refine call_c (h1) (by decide) ?_)
    | (refine call_c (h2) (by decide) ?_)
    | (refine call_c (h3) (by decide) ?_)
    | (refine call_c (h4) (by decide) ?_)
    | (refine call_c (h5) (by decide) ?_)
    | (refine DW.cond_ff rfl ?_)
    | (refine DW.cond rfl ?_ ?_ <;> intro hc <;> (try simp only [go_sem] at hc))
    | (refine g_split ?_ ?_ <;> intro hc <;> (try simp only [hc]) <;> (try simp only [go_sem] at hc)))
theorem bdFlute (f : Flu) (h : f.ok) : DCall Try.prog 155 [.agg ((eF f).map D.c)] [] (bD true) [] := by
  have hp := h.pitch
  have h1 := bdIn true 1000 10000 [f.pitch] (by simp) (by simpa using h.pitch)
  have h2 := bdIn true f.pitch (2 * f.pitch) [f.draw] (by simp) (by simpa using h.draw)
  have h3 := bdSpan f.hl f.hh 1 10000 h.high
  refine DCall.of Try.func155 sf155 hb155 (Nat.le_of_ble_eq_true rfl) (okRes_nil fun _ => rfl) ?_; simp only [s155, idxs, Nat.reduceAdd]
  repeat' (first
    | (with_reducible refine DW.seq ?_)
    | (with_reducible refine DW.block ?_)
    | (with_reducible refine DW.skip ?_)
    | (with_reducible refine DW.exit ?_)
    | (with_reducible refine DW.ret ?_)
    | (with_reducible refine DW.reg ?_)
    | (simp (disch := omega) only [go_sem, Nat.reduceLT, Nat.reduceLeDiff, Nat.reduceAdd, Nat.reduceMul, Nat.reduceEqDiff, ↓reduceIte, reduceCtorEq, Nat.reduceBEq, Nat.reduceBNe, Nat.reducePow, Int.reduceLE, Int.reduceLT, Int.reduceNeg, Int.reduceToNat, Int.reduceEq, Int.reduceAdd, Int.reduceSub, Int.reduceMul, Int.reduceBEq, Int.reduceBNe, Blk.men, Blk.keysIn, List.map_cons, List.map_nil])
    | (exact retS_of rfl rfl rfl)
    | (refine DW.cond_tt rfl ?_)
    | (refine call_c (h1) (by decide) ?_)
    | (refine call_c (h2) (by decide) ?_)
    | (refine call_c (h3) (by decide) ?_)
    | (refine DW.cond_ff rfl ?_)
    | (refine DW.cond rfl ?_ ?_ <;> intro hc <;> (try simp only [go_sem] at hc))
    | (refine g_split ?_ ?_ <;> intro hc <;> (try simp only [hc]) <;> (try simp only [go_sem] at hc)))
theorem bdP1 (p : Pap) (h : p.ok) : DCall Try.prog 151 [.agg ((eP p).map D.c)] [] (bD false) [] := by
  have h1 := bdPaper p h
  refine DCall.of Try.func151 sf151 hb151 (Nat.le_of_ble_eq_true rfl) (okRes_nil fun _ => rfl) ?_; simp only [s151, idxs, Nat.reduceAdd]
  repeat' (first
    | (with_reducible refine DW.seq ?_)
    | (with_reducible refine DW.block ?_)
    | (with_reducible refine DW.skip ?_)
    | (with_reducible refine DW.exit ?_)
    | (with_reducible refine DW.ret ?_)
    | (with_reducible refine DW.reg ?_)
    | (simp (disch := omega) only [go_sem, Nat.reduceLT, Nat.reduceLeDiff, Nat.reduceAdd, Nat.reduceMul, Nat.reduceEqDiff, ↓reduceIte, reduceCtorEq, Nat.reduceBEq, Nat.reduceBNe, Nat.reducePow, Int.reduceLE, Int.reduceLT, Int.reduceNeg, Int.reduceToNat, Int.reduceEq, Int.reduceAdd, Int.reduceSub, Int.reduceMul, Int.reduceBEq, Int.reduceBNe, Blk.men, Blk.keysIn, List.map_cons, List.map_nil])
    | (exact retS_of rfl rfl rfl)
    | (refine DW.cond_tt rfl ?_)
    | (refine call_c (h1) (by decide) ?_)
    | (refine DW.cond_ff rfl ?_)
    | (refine DW.cond rfl ?_ ?_ <;> intro hc <;> (try simp only [go_sem] at hc))
    | (refine g_split ?_ ?_ <;> intro hc <;> (try simp only [hc]) <;> (try simp only [go_sem] at hc)))
theorem bdF1 (f : Flu) (h : f.ok) : DCall Try.prog 154 [.agg ((eF f).map D.c)] [] (bD false) [] := by
  have h1 := bdFlute f h
  refine DCall.of Try.func154 sf154 hb154 (Nat.le_of_ble_eq_true rfl) (okRes_nil fun _ => rfl) ?_; simp only [s154, idxs, Nat.reduceAdd]
  repeat' (first
    | (with_reducible refine DW.seq ?_)
    | (with_reducible refine DW.block ?_)
    | (with_reducible refine DW.skip ?_)
    | (with_reducible refine DW.exit ?_)
    | (with_reducible refine DW.ret ?_)
    | (with_reducible refine DW.reg ?_)
    | (simp (disch := omega) only [go_sem, Nat.reduceLT, Nat.reduceLeDiff, Nat.reduceAdd, Nat.reduceMul, Nat.reduceEqDiff, ↓reduceIte, reduceCtorEq, Nat.reduceBEq, Nat.reduceBNe, Nat.reducePow, Int.reduceLE, Int.reduceLT, Int.reduceNeg, Int.reduceToNat, Int.reduceEq, Int.reduceAdd, Int.reduceSub, Int.reduceMul, Int.reduceBEq, Int.reduceBNe, Blk.men, Blk.keysIn, List.map_cons, List.map_nil])
    | (exact retS_of rfl rfl rfl)
    | (refine DW.cond_tt rfl ?_)
    | (refine call_c (h1) (by decide) ?_)
    | (refine DW.cond_ff rfl ?_)
    | (refine DW.cond rfl ?_ ?_ <;> intro hc <;> (try simp only [go_sem] at hc))
    | (refine g_split ?_ ?_ <;> intro hc <;> (try simp only [hc]) <;> (try simp only [go_sem] at hc)))
theorem bdPIdx (b : Bool) (l : List Pap) (hl : l.length ≤ 2 ^ 36) (g : FuncId) (hp : ∀ x ∈ l, DCall Try.prog g [.agg ((eP x).map D.c)] [] (bD false) []) : DCall Try.prog 170 [.c (.sl b 8 (rows eP l)), .c (.fn (.func g) [] [])] [] (dI (-1)) [] := by
  refine DCall.of Try.func170 sf170 hb170 (Nat.le_of_ble_eq_true rfl) (okRes_nil fun _ => rfl) ?_; simp only [s170, idxs, Nat.reduceAdd]
  repeat' (first
    | (with_reducible refine DW.seq ?_)
    | (with_reducible refine DW.block ?_)
    | (with_reducible refine DW.skip ?_)
    | (with_reducible refine DW.exit ?_)
    | (with_reducible refine DW.ret ?_)
    | (with_reducible refine DW.reg ?_)
    | (simp (disch := omega) only [go_sem, Nat.reduceLT, Nat.reduceLeDiff, Nat.reduceAdd, Nat.reduceMul, Nat.reduceEqDiff, ↓reduceIte, reduceCtorEq, Nat.reduceBEq, Nat.reduceBNe, Nat.reducePow, Int.reduceLE, Int.reduceLT, Int.reduceNeg, Int.reduceToNat, Int.reduceEq, Int.reduceAdd, Int.reduceSub, Int.reduceMul, Int.reduceBEq, Int.reduceBNe, Blk.men, Blk.keysIn])
    | (exact retS_of rfl rfl rfl)
    | (refine DW.cond_tt rfl ?_)
    | (refine DW.cond_ff rfl ?_)
    | (refine DW.cond rfl ?_ ?_ <;> intro hc <;> (try simp only [go_sem] at hc))
    | (refine g_split ?_ ?_ <;> intro hc <;> (try simp only [hc]) <;> (try simp only [go_sem] at hc)))
  refine DW.loop (ι := { i : Nat // i ≤ l.length }) (fun i => ⟨19, [(8, dI i.1), (7, dI l.length), (1, .c (.fn (.func g) [] [])), (0, .c (.sl b 8 (rows eP l)))], []⟩) (fun i => l.length - i.1) ⟨0, Nat.zero_le _⟩ ?_ ?_
  · refine Ent.to ?_ ?_ <;> simp (disch := omega) only [wkT_cons, wkX_cons, wkT_nil, wkX_nil, get, Nat.reduceEqDiff, ↓reduceIte, ex_some, wk_self, wk_top, wk_nil, wkB_self, and_self, dI, i64_in, and_true, true_and, Int.natCast_add, Int.natCast_one, Int.ofNat_zero, Int.natCast_zero]
  rintro ⟨i, hi⟩
  rcases at_or l i hi with ⟨v, hv, hlt, hd⟩ | ⟨he, hd⟩
  · have hcall := hp v (List.mem_of_getElem? hv)
    repeat' (first
    | (with_reducible refine DW.seq ?_)
    | (with_reducible refine DW.block ?_)
    | (with_reducible refine DW.skip ?_)
    | (with_reducible refine DW.exit ?_)
    | (with_reducible refine DW.ret ?_)
    | (with_reducible refine DW.reg ?_)
    | (simp (disch := omega) only [go_sem, Nat.reduceLT, Nat.reduceLeDiff, Nat.reduceAdd, Nat.reduceMul, Nat.reduceEqDiff, ↓reduceIte, reduceCtorEq, Nat.reduceBEq, Nat.reduceBNe, Nat.reducePow, Int.reduceLE, Int.reduceLT, Int.reduceNeg, Int.reduceToNat, Int.reduceEq, Int.reduceAdd, Int.reduceSub, Int.reduceMul, Int.reduceBEq, Int.reduceBNe, Blk.men, Blk.keysIn, hd, hv, closeDs_fn, List.map_cons, List.map_nil])
    | (exact retS_of rfl rfl rfl)
    | (refine DW.cond_tt rfl ?_)
    | (refine DW.cond_ff rfl ?_)
    | (refine DW.cond rfl ?_ ?_ <;> intro hc <;> (try simp only [go_sem] at hc))
    | (refine g_split ?_ ?_ <;> intro hc <;> (try simp only [hc]) <;> (try simp only [go_sem] at hc)))
    refine call_c hcall (by decide) ?_
    simp (disch := omega) only [go_sem, Nat.reduceLT, Nat.reduceLeDiff, Nat.reduceAdd, Nat.reduceMul, Nat.reduceEqDiff, ↓reduceIte, reduceCtorEq, Nat.reduceBEq, Nat.reduceBNe, Nat.reducePow, Int.reduceLE, Int.reduceLT, Int.reduceNeg, Int.reduceToNat, Int.reduceEq, Int.reduceAdd, Int.reduceSub, Int.reduceMul, Int.reduceBEq, Int.reduceBNe, Blk.men, Blk.keysIn]
    repeat' (first
    | (with_reducible refine DW.seq ?_)
    | (with_reducible refine DW.block ?_)
    | (with_reducible refine DW.skip ?_)
    | (with_reducible refine DW.exit ?_)
    | (with_reducible refine DW.ret ?_)
    | (with_reducible refine DW.reg ?_)
    | (simp (disch := omega) only [go_sem, Nat.reduceLT, Nat.reduceLeDiff, Nat.reduceAdd, Nat.reduceMul, Nat.reduceEqDiff, ↓reduceIte, reduceCtorEq, Nat.reduceBEq, Nat.reduceBNe, Nat.reducePow, Int.reduceLE, Int.reduceLT, Int.reduceNeg, Int.reduceToNat, Int.reduceEq, Int.reduceAdd, Int.reduceSub, Int.reduceMul, Int.reduceBEq, Int.reduceBNe, Blk.men, Blk.keysIn])
    | (exact retS_of rfl rfl rfl)
    | (refine DW.cond_tt rfl ?_)
    | (refine DW.cond_ff rfl ?_)
    | (refine DW.cond rfl ?_ ?_ <;> intro hc <;> (try simp only [go_sem] at hc))
    | (refine g_split ?_ ?_ <;> intro hc <;> (try simp only [hc]) <;> (try simp only [go_sem] at hc)))
    refine ⟨⟨i + 1, hlt⟩, ?_, Ent.to ?_ ?_⟩ <;> first | (show _ < _; (try simp only); omega) | (simp (disch := omega) only [wkT_cons, wkX_cons, wkT_nil, wkX_nil, get, Nat.reduceEqDiff, ↓reduceIte, ex_some, wk_self, wk_top, wk_nil, wkB_self, and_self, dI, i64_in, and_true, true_and, Int.natCast_add, Int.natCast_one, Int.ofNat_zero, Int.natCast_zero])
  · repeat' (first
    | (with_reducible refine DW.seq ?_)
    | (with_reducible refine DW.block ?_)
    | (with_reducible refine DW.skip ?_)
    | (with_reducible refine DW.exit ?_)
    | (with_reducible refine DW.ret ?_)
    | (with_reducible refine DW.reg ?_)
    | (simp (disch := omega) only [go_sem, Nat.reduceLT, Nat.reduceLeDiff, Nat.reduceAdd, Nat.reduceMul, Nat.reduceEqDiff, ↓reduceIte, reduceCtorEq, Nat.reduceBEq, Nat.reduceBNe, Nat.reducePow, Int.reduceLE, Int.reduceLT, Int.reduceNeg, Int.reduceToNat, Int.reduceEq, Int.reduceAdd, Int.reduceSub, Int.reduceMul, Int.reduceBEq, Int.reduceBNe, Blk.men, Blk.keysIn, hd])
    | (exact retS_of rfl rfl rfl)
    | (refine DW.cond_tt rfl ?_)
    | (refine DW.cond_ff rfl ?_)
    | (refine DW.cond rfl ?_ ?_ <;> intro hc <;> (try simp only [go_sem] at hc))
    | (refine g_split ?_ ?_ <;> intro hc <;> (try simp only [hc]) <;> (try simp only [go_sem] at hc)))
theorem bdPCon (b : Bool) (l : List Pap) (hl : l.length ≤ 2 ^ 36) (g : FuncId) (hp : ∀ x ∈ l, DCall Try.prog g [.agg ((eP x).map D.c)] [] (bD false) []) : DCall Try.prog 150 [.c (.sl b 8 (rows eP l)), .c (.fn (.func g) [] [])] [] (bD false) [] := by
  refine DCall.of Try.func150 sf150 hb150 (Nat.le_of_ble_eq_true rfl) (okRes_nil fun _ => rfl) ?_; simp only [s150, idxs, Nat.reduceAdd]
  repeat' (first
    | (with_reducible refine DW.seq ?_)
    | (with_reducible refine DW.block ?_)
    | (with_reducible refine DW.skip ?_)
    | (with_reducible refine DW.exit ?_)
    | (with_reducible refine DW.ret ?_)
    | (with_reducible refine DW.reg ?_)
    | (simp (disch := omega) only [go_sem, Nat.reduceLT, Nat.reduceLeDiff, Nat.reduceAdd, Nat.reduceMul, Nat.reduceEqDiff, ↓reduceIte, reduceCtorEq, Nat.reduceBEq, Nat.reduceBNe, Nat.reducePow, Int.reduceLE, Int.reduceLT, Int.reduceNeg, Int.reduceToNat, Int.reduceEq, Int.reduceAdd, Int.reduceSub, Int.reduceMul, Int.reduceBEq, Int.reduceBNe, Blk.men, Blk.keysIn])
    | (exact retS_of rfl rfl rfl)
    | (refine DW.cond_tt rfl ?_)
    | (refine DW.cond_ff rfl ?_)
    | (refine DW.cond rfl ?_ ?_ <;> intro hc <;> (try simp only [go_sem] at hc))
    | (refine g_split ?_ ?_ <;> intro hc <;> (try simp only [hc]) <;> (try simp only [go_sem] at hc)))
  (refine call_c (bdPIdx b l hl g hp) (by decide) ?_; simp (disch := omega) only [go_sem, Nat.reduceLT, Nat.reduceLeDiff, Nat.reduceAdd, Nat.reduceMul, Nat.reduceEqDiff, ↓reduceIte, reduceCtorEq, Nat.reduceBEq, Nat.reduceBNe, Nat.reducePow, Int.reduceLE, Int.reduceLT, Int.reduceNeg, Int.reduceToNat, Int.reduceEq, Int.reduceAdd, Int.reduceSub, Int.reduceMul, Int.reduceBEq, Int.reduceBNe, Blk.men, Blk.keysIn])
  repeat' (first
    | (with_reducible refine DW.seq ?_)
    | (with_reducible refine DW.block ?_)
    | (with_reducible refine DW.skip ?_)
    | (with_reducible refine DW.exit ?_)
    | (with_reducible refine DW.ret ?_)
    | (with_reducible refine DW.reg ?_)
    | (simp (disch := omega) only [go_sem, Nat.reduceLT, Nat.reduceLeDiff, Nat.reduceAdd, Nat.reduceMul, Nat.reduceEqDiff, ↓reduceIte, reduceCtorEq, Nat.reduceBEq, Nat.reduceBNe, Nat.reducePow, Int.reduceLE, Int.reduceLT, Int.reduceNeg, Int.reduceToNat, Int.reduceEq, Int.reduceAdd, Int.reduceSub, Int.reduceMul, Int.reduceBEq, Int.reduceBNe, Blk.men, Blk.keysIn])
    | (exact retS_of rfl rfl rfl)
    | (refine DW.cond_tt rfl ?_)
    | (refine DW.cond_ff rfl ?_)
    | (refine DW.cond rfl ?_ ?_ <;> intro hc <;> (try simp only [go_sem] at hc))
    | (refine g_split ?_ ?_ <;> intro hc <;> (try simp only [hc]) <;> (try simp only [go_sem] at hc)))
theorem bdFIdx (b : Bool) (l : List Flu) (hl : l.length ≤ 2 ^ 36) (g : FuncId) (hp : ∀ x ∈ l, DCall Try.prog g [.agg ((eF x).map D.c)] [] (bD false) []) : DCall Try.prog 172 [.c (.sl b 4 (rows eF l)), .c (.fn (.func g) [] [])] [] (dI (-1)) [] := by
  refine DCall.of Try.func172 sf172 hb172 (Nat.le_of_ble_eq_true rfl) (okRes_nil fun _ => rfl) ?_; simp only [s172, idxs, Nat.reduceAdd]
  repeat' (first
    | (with_reducible refine DW.seq ?_)
    | (with_reducible refine DW.block ?_)
    | (with_reducible refine DW.skip ?_)
    | (with_reducible refine DW.exit ?_)
    | (with_reducible refine DW.ret ?_)
    | (with_reducible refine DW.reg ?_)
    | (simp (disch := omega) only [go_sem, Nat.reduceLT, Nat.reduceLeDiff, Nat.reduceAdd, Nat.reduceMul, Nat.reduceEqDiff, ↓reduceIte, reduceCtorEq, Nat.reduceBEq, Nat.reduceBNe, Nat.reducePow, Int.reduceLE, Int.reduceLT, Int.reduceNeg, Int.reduceToNat, Int.reduceEq, Int.reduceAdd, Int.reduceSub, Int.reduceMul, Int.reduceBEq, Int.reduceBNe, Blk.men, Blk.keysIn])
    | (exact retS_of rfl rfl rfl)
    | (refine DW.cond_tt rfl ?_)
    | (refine DW.cond_ff rfl ?_)
    | (refine DW.cond rfl ?_ ?_ <;> intro hc <;> (try simp only [go_sem] at hc))
    | (refine g_split ?_ ?_ <;> intro hc <;> (try simp only [hc]) <;> (try simp only [go_sem] at hc)))
  refine DW.loop (ι := { i : Nat // i ≤ l.length }) (fun i => ⟨19, [(8, dI i.1), (7, dI l.length), (1, .c (.fn (.func g) [] [])), (0, .c (.sl b 4 (rows eF l)))], []⟩) (fun i => l.length - i.1) ⟨0, Nat.zero_le _⟩ ?_ ?_
  · refine Ent.to ?_ ?_ <;> simp (disch := omega) only [wkT_cons, wkX_cons, wkT_nil, wkX_nil, get, Nat.reduceEqDiff, ↓reduceIte, ex_some, wk_self, wk_top, wk_nil, wkB_self, and_self, dI, i64_in, and_true, true_and, Int.natCast_add, Int.natCast_one, Int.ofNat_zero, Int.natCast_zero]
  rintro ⟨i, hi⟩
  rcases at_or l i hi with ⟨v, hv, hlt, hd⟩ | ⟨he, hd⟩
  · have hcall := hp v (List.mem_of_getElem? hv)
    repeat' (first
    | (with_reducible refine DW.seq ?_)
    | (with_reducible refine DW.block ?_)
    | (with_reducible refine DW.skip ?_)
    | (with_reducible refine DW.exit ?_)
    | (with_reducible refine DW.ret ?_)
    | (with_reducible refine DW.reg ?_)
    | (simp (disch := omega) only [go_sem, Nat.reduceLT, Nat.reduceLeDiff, Nat.reduceAdd, Nat.reduceMul, Nat.reduceEqDiff, ↓reduceIte, reduceCtorEq, Nat.reduceBEq, Nat.reduceBNe, Nat.reducePow, Int.reduceLE, Int.reduceLT, Int.reduceNeg, Int.reduceToNat, Int.reduceEq, Int.reduceAdd, Int.reduceSub, Int.reduceMul, Int.reduceBEq, Int.reduceBNe, Blk.men, Blk.keysIn, hd, hv, closeDs_fn, List.map_cons, List.map_nil])
    | (exact retS_of rfl rfl rfl)
    | (refine DW.cond_tt rfl ?_)
    | (refine DW.cond_ff rfl ?_)
    | (refine DW.cond rfl ?_ ?_ <;> intro hc <;> (try simp only [go_sem] at hc))
    | (refine g_split ?_ ?_ <;> intro hc <;> (try simp only [hc]) <;> (try simp only [go_sem] at hc)))
    refine call_c hcall (by decide) ?_
    simp (disch := omega) only [go_sem, Nat.reduceLT, Nat.reduceLeDiff, Nat.reduceAdd, Nat.reduceMul, Nat.reduceEqDiff, ↓reduceIte, reduceCtorEq, Nat.reduceBEq, Nat.reduceBNe, Nat.reducePow, Int.reduceLE, Int.reduceLT, Int.reduceNeg, Int.reduceToNat, Int.reduceEq, Int.reduceAdd, Int.reduceSub, Int.reduceMul, Int.reduceBEq, Int.reduceBNe, Blk.men, Blk.keysIn]
    repeat' (first
    | (with_reducible refine DW.seq ?_)
    | (with_reducible refine DW.block ?_)
    | (with_reducible refine DW.skip ?_)
    | (with_reducible refine DW.exit ?_)
    | (with_reducible refine DW.ret ?_)
    | (with_reducible refine DW.reg ?_)
    | (simp (disch := omega) only [go_sem, Nat.reduceLT, Nat.reduceLeDiff, Nat.reduceAdd, Nat.reduceMul, Nat.reduceEqDiff, ↓reduceIte, reduceCtorEq, Nat.reduceBEq, Nat.reduceBNe, Nat.reducePow, Int.reduceLE, Int.reduceLT, Int.reduceNeg, Int.reduceToNat, Int.reduceEq, Int.reduceAdd, Int.reduceSub, Int.reduceMul, Int.reduceBEq, Int.reduceBNe, Blk.men, Blk.keysIn])
    | (exact retS_of rfl rfl rfl)
    | (refine DW.cond_tt rfl ?_)
    | (refine DW.cond_ff rfl ?_)
    | (refine DW.cond rfl ?_ ?_ <;> intro hc <;> (try simp only [go_sem] at hc))
    | (refine g_split ?_ ?_ <;> intro hc <;> (try simp only [hc]) <;> (try simp only [go_sem] at hc)))
    refine ⟨⟨i + 1, hlt⟩, ?_, Ent.to ?_ ?_⟩ <;> first | (show _ < _; (try simp only); omega) | (simp (disch := omega) only [wkT_cons, wkX_cons, wkT_nil, wkX_nil, get, Nat.reduceEqDiff, ↓reduceIte, ex_some, wk_self, wk_top, wk_nil, wkB_self, and_self, dI, i64_in, and_true, true_and, Int.natCast_add, Int.natCast_one, Int.ofNat_zero, Int.natCast_zero])
  · repeat' (first
    | (with_reducible refine DW.seq ?_)
    | (with_reducible refine DW.block ?_)
    | (with_reducible refine DW.skip ?_)
    | (with_reducible refine DW.exit ?_)
    | (with_reducible refine DW.ret ?_)
    | (with_reducible refine DW.reg ?_)
    | (simp (disch := omega) only [go_sem, Nat.reduceLT, Nat.reduceLeDiff, Nat.reduceAdd, Nat.reduceMul, Nat.reduceEqDiff, ↓reduceIte, reduceCtorEq, Nat.reduceBEq, Nat.reduceBNe, Nat.reducePow, Int.reduceLE, Int.reduceLT, Int.reduceNeg, Int.reduceToNat, Int.reduceEq, Int.reduceAdd, Int.reduceSub, Int.reduceMul, Int.reduceBEq, Int.reduceBNe, Blk.men, Blk.keysIn, hd])
    | (exact retS_of rfl rfl rfl)
    | (refine DW.cond_tt rfl ?_)
    | (refine DW.cond_ff rfl ?_)
    | (refine DW.cond rfl ?_ ?_ <;> intro hc <;> (try simp only [go_sem] at hc))
    | (refine g_split ?_ ?_ <;> intro hc <;> (try simp only [hc]) <;> (try simp only [go_sem] at hc)))
theorem bdFCon (b : Bool) (l : List Flu) (hl : l.length ≤ 2 ^ 36) (g : FuncId) (hp : ∀ x ∈ l, DCall Try.prog g [.agg ((eF x).map D.c)] [] (bD false) []) : DCall Try.prog 153 [.c (.sl b 4 (rows eF l)), .c (.fn (.func g) [] [])] [] (bD false) [] := by
  refine DCall.of Try.func153 sf153 hb153 (Nat.le_of_ble_eq_true rfl) (okRes_nil fun _ => rfl) ?_; simp only [s153, idxs, Nat.reduceAdd]
  repeat' (first
    | (with_reducible refine DW.seq ?_)
    | (with_reducible refine DW.block ?_)
    | (with_reducible refine DW.skip ?_)
    | (with_reducible refine DW.exit ?_)
    | (with_reducible refine DW.ret ?_)
    | (with_reducible refine DW.reg ?_)
    | (simp (disch := omega) only [go_sem, Nat.reduceLT, Nat.reduceLeDiff, Nat.reduceAdd, Nat.reduceMul, Nat.reduceEqDiff, ↓reduceIte, reduceCtorEq, Nat.reduceBEq, Nat.reduceBNe, Nat.reducePow, Int.reduceLE, Int.reduceLT, Int.reduceNeg, Int.reduceToNat, Int.reduceEq, Int.reduceAdd, Int.reduceSub, Int.reduceMul, Int.reduceBEq, Int.reduceBNe, Blk.men, Blk.keysIn])
    | (exact retS_of rfl rfl rfl)
    | (refine DW.cond_tt rfl ?_)
    | (refine DW.cond_ff rfl ?_)
    | (refine DW.cond rfl ?_ ?_ <;> intro hc <;> (try simp only [go_sem] at hc))
    | (refine g_split ?_ ?_ <;> intro hc <;> (try simp only [hc]) <;> (try simp only [go_sem] at hc)))
  (refine call_c (bdFIdx b l hl g hp) (by decide) ?_; simp (disch := omega) only [go_sem, Nat.reduceLT, Nat.reduceLeDiff, Nat.reduceAdd, Nat.reduceMul, Nat.reduceEqDiff, ↓reduceIte, reduceCtorEq, Nat.reduceBEq, Nat.reduceBNe, Nat.reducePow, Int.reduceLE, Int.reduceLT, Int.reduceNeg, Int.reduceToNat, Int.reduceEq, Int.reduceAdd, Int.reduceSub, Int.reduceMul, Int.reduceBEq, Int.reduceBNe, Blk.men, Blk.keysIn])
  repeat' (first
    | (with_reducible refine DW.seq ?_)
    | (with_reducible refine DW.block ?_)
    | (with_reducible refine DW.skip ?_)
    | (with_reducible refine DW.exit ?_)
    | (with_reducible refine DW.ret ?_)
    | (with_reducible refine DW.reg ?_)
    | (simp (disch := omega) only [go_sem, Nat.reduceLT, Nat.reduceLeDiff, Nat.reduceAdd, Nat.reduceMul, Nat.reduceEqDiff, ↓reduceIte, reduceCtorEq, Nat.reduceBEq, Nat.reduceBNe, Nat.reducePow, Int.reduceLE, Int.reduceLT, Int.reduceNeg, Int.reduceToNat, Int.reduceEq, Int.reduceAdd, Int.reduceSub, Int.reduceMul, Int.reduceBEq, Int.reduceBNe, Blk.men, Blk.keysIn])
    | (exact retS_of rfl rfl rfl)
    | (refine DW.cond_tt rfl ?_)
    | (refine DW.cond_ff rfl ?_)
    | (refine DW.cond rfl ?_ ?_ <;> intro hc <;> (try simp only [go_sem] at hc))
    | (refine g_split ?_ ?_ <;> intro hc <;> (try simp only [hc]) <;> (try simp only [go_sem] at hc)))
theorem bdCheck (s : Sto) (h : s.ok) : DCall Try.prog 124 [dSto s] [] (dI 0) [] := by
  have hp := h.np
  have hf := h.nf
  have h1 := bdPCon false s.papers (by omega) 151 (fun p hp => bdP1 p (h.papers p hp))
  have h2 := bdFCon false s.flutes (by omega) 154 (fun f hf => bdF1 f (h.flutes f hf))
  have d1 : decide ((8 : Int) < (s.papers.length : Int)) = false := by rw [decide_eq_false_iff_not]; omega
  have d2 : decide ((4 : Int) < (s.flutes.length : Int)) = false := by rw [decide_eq_false_iff_not]; omega
  have d3 : ((s.papers.length : Int) == 0) = false := by rw [beq_eq_false_iff_ne]; omega
  have d4 : ((s.flutes.length : Int) == 0) = false := by rw [beq_eq_false_iff_ne]; omega
  refine DCall.of Try.func124 sf124 hb124 (Nat.le_of_ble_eq_true rfl) (okRes_nil fun _ => rfl) ?_; simp only [s124, idxs, Nat.reduceAdd]
  repeat' (first
    | (with_reducible refine DW.seq ?_)
    | (with_reducible refine DW.block ?_)
    | (with_reducible refine DW.skip ?_)
    | (with_reducible refine DW.exit ?_)
    | (with_reducible refine DW.ret ?_)
    | (with_reducible refine DW.reg ?_)
    | (simp (disch := omega) only [go_sem, Nat.reduceLT, Nat.reduceLeDiff, Nat.reduceAdd, Nat.reduceMul, Nat.reduceEqDiff, ↓reduceIte, reduceCtorEq, Nat.reduceBEq, Nat.reduceBNe, Nat.reducePow, Int.reduceLE, Int.reduceLT, Int.reduceNeg, Int.reduceToNat, Int.reduceEq, Int.reduceAdd, Int.reduceSub, Int.reduceMul, Int.reduceBEq, Int.reduceBNe, Blk.men, Blk.keysIn, d1, d2, d3, d4])
    | (exact retS_of rfl rfl rfl)
    | (refine DW.cond_tt rfl ?_)
    | (refine call_c (h1) (by decide) ?_)
    | (refine call_c (h2) (by decide) ?_)
    | (refine DW.cond_ff rfl ?_)
    | (refine DW.cond rfl ?_ ?_ <;> intro hc <;> (try simp only [go_sem] at hc))
    | (refine g_split ?_ ?_ <;> intro hc <;> (try simp only [hc]) <;> (try simp only [go_sem] at hc)))
structure Mak where
  papers : List Nat
  flutes : List Nat
abbrev dMak (m : Mak) : D := .agg [.c (.sl false 1 (rows eI (nL m.papers))), .c (.sl false 1 (rows eI (nL m.flutes)))]
attribute [go_sem] dMak
structure Mak.ok (m : Mak) (s : Sto) : Prop where
  nf : 1 ≤ m.flutes.length ∧ m.flutes.length ≤ 2
  np : m.papers.length = 2 * m.flutes.length + 1
  papers : ∀ n ∈ m.papers, n < s.papers.length
  flutes : ∀ n ∈ m.flutes, n < s.flutes.length
  kind : ∀ (i n : Nat) (p : Pap), m.papers[i]? = some n → s.papers[n]? = some p → p.kind = if i % 2 = 0 then 1 else 2
def kindsL : Nat → List Int
  | 0 => [1]
  | n + 1 => kindsL n ++ [2, 1]
theorem kindsL_len : ∀ n, (kindsL n).length = 2 * n + 1
  | 0 => rfl
  | n + 1 => by rw [kindsL, List.length_append, kindsL_len n]; simp; omega
theorem kindsL_get : ∀ n i, i < 2 * n + 1 → (kindsL n)[i]? = some (if i % 2 = 0 then 1 else 2)
  | 0, i, h => by
    obtain rfl : i = 0 := by omega
    rfl
  | n + 1, i, h => by
    rw [kindsL]
    rcases Nat.lt_or_ge i (2 * n + 1) with h1 | h1
    · rw [List.getElem?_append_left (by rw [kindsL_len]; omega)]
      exact kindsL_get n i h1
    · rw [List.getElem?_append_right (by rw [kindsL_len]; omega), kindsL_len]
      rcases (by omega : i = 2 * n + 1 ∨ i = 2 * n + 2) with rfl | rfl
      · rw [if_neg (by omega)]; simp
      · rw [if_pos (by omega)]; simp
theorem snoc2 (l : List Int) (a b : Int) : rowC (rows eI l) ++ [[D.c (.v (.int .i64 a))], [D.c (.v (.int .i64 b))]] = rowC (rows eI (l ++ [a, b])) := by simp [rowC, rows, eI]
theorem bdKinds (n : Nat) (hn : n ≤ 1000) : DCall Try.prog 127 [dI n] [] (dIs false (kindsL n)) [] := by
  refine DCall.of Try.func127 sf127 hb127 (Nat.le_of_ble_eq_true rfl) (okRes_nil fun _ => rfl) ?_; simp only [s127, idxs, Nat.reduceAdd]
  repeat' (first
    | (with_reducible refine DW.seq ?_)
    | (with_reducible refine DW.block ?_)
    | (with_reducible refine DW.skip ?_)
    | (with_reducible refine DW.exit ?_)
    | (with_reducible refine DW.ret ?_)
    | (with_reducible refine DW.reg ?_)
    | (simp (disch := omega) only [go_sem, Nat.reduceLT, Nat.reduceLeDiff, Nat.reduceAdd, Nat.reduceMul, Nat.reduceEqDiff, ↓reduceIte, reduceCtorEq, Nat.reduceBEq, Nat.reduceBNe, Nat.reducePow, Int.reduceLE, Int.reduceLT, Int.reduceNeg, Int.reduceToNat, Int.reduceEq, Int.reduceAdd, Int.reduceSub, Int.reduceMul, Int.reduceBEq, Int.reduceBNe, Blk.men, Blk.keysIn])
    | (exact retS_of rfl rfl rfl)
    | (refine DW.cond_tt rfl ?_)
    | (refine DW.cond_ff rfl ?_)
    | (refine DW.cond rfl ?_ ?_ <;> intro hc <;> (try simp only [go_sem] at hc))
    | (refine g_split ?_ ?_ <;> intro hc <;> (try simp only [hc]) <;> (try simp only [go_sem] at hc)))
  refine DW.loop (ι := { i : Nat // i ≤ n }) (fun i => ⟨13, [(6, dI i.1), (5, dI n), (3, .own 4)], [(4, .row 1 (rowC (rows eI (kindsL i.1))))]⟩) (fun i => n - i.1) ⟨0, Nat.zero_le _⟩ ?_ ?_
  · refine Ent.to ?_ ?_ <;> simp (disch := omega) only [wkT_cons, wkX_cons, wkT_nil, wkX_nil, get, Nat.reduceEqDiff, ↓reduceIte, ex_some, wk_self, wk_top, wk_nil, wkB_self, and_self, dI, i64_in, and_true, true_and, Int.natCast_add, Int.natCast_one, Int.ofNat_zero, Int.natCast_zero]
    exact .refl _
  rintro ⟨i, hi⟩
  rcases Nat.lt_or_ge i n with hlt | hge
  · have hd : decide ((i : Int) < (n : Int)) = true := by rw [decide_eq_true_eq]; omega
    have hl := kindsL_len i
    have hs : kindsL (i + 1) = kindsL i ++ [2, 1] := rfl
    generalize kindsL i = k at *
    repeat' (first
    | (with_reducible refine DW.seq ?_)
    | (with_reducible refine DW.block ?_)
    | (with_reducible refine DW.skip ?_)
    | (with_reducible refine DW.exit ?_)
    | (with_reducible refine DW.ret ?_)
    | (with_reducible refine DW.reg ?_)
    | (simp (disch := omega) only [go_sem, Nat.reduceLT, Nat.reduceLeDiff, Nat.reduceAdd, Nat.reduceMul, Nat.reduceEqDiff, ↓reduceIte, reduceCtorEq, Nat.reduceBEq, Nat.reduceBNe, Nat.reducePow, Int.reduceLE, Int.reduceLT, Int.reduceNeg, Int.reduceToNat, Int.reduceEq, Int.reduceAdd, Int.reduceSub, Int.reduceMul, Int.reduceBEq, Int.reduceBNe, Blk.men, Blk.keysIn, hd, snoc2])
    | (exact retS_of rfl rfl rfl)
    | (refine DW.cond_tt rfl ?_)
    | (refine DW.cond_ff rfl ?_)
    | (refine DW.cond rfl ?_ ?_ <;> intro hc <;> (try simp only [go_sem] at hc))
    | (refine g_split ?_ ?_ <;> intro hc <;> (try simp only [hc]) <;> (try simp only [go_sem] at hc)))
    refine ⟨⟨i + 1, hlt⟩, ?_, Ent.to ?_ ?_⟩ <;> first | (show _ < _; (try simp only); omega) | (simp (disch := omega) only [wkT_cons, wkX_cons, wkT_nil, wkX_nil, get, Nat.reduceEqDiff, ↓reduceIte, ex_some, wk_self, wk_top, wk_nil, wkB_self, and_self, dI, i64_in, and_true, true_and, Int.natCast_add, Int.natCast_one, Int.ofNat_zero, Int.natCast_zero,  hs])
    all_goals exact .refl _
  · obtain rfl : i = n := by omega
    have hd : decide ((i : Int) < (i : Int)) = false := by rw [decide_eq_false_iff_not]; omega
    repeat' (first
    | (with_reducible refine DW.seq ?_)
    | (with_reducible refine DW.block ?_)
    | (with_reducible refine DW.skip ?_)
    | (with_reducible refine DW.exit ?_)
    | (with_reducible refine DW.ret ?_)
    | (with_reducible refine DW.reg ?_)
    | (simp (disch := omega) only [go_sem, Nat.reduceLT, Nat.reduceLeDiff, Nat.reduceAdd, Nat.reduceMul, Nat.reduceEqDiff, ↓reduceIte, reduceCtorEq, Nat.reduceBEq, Nat.reduceBNe, Nat.reducePow, Int.reduceLE, Int.reduceLT, Int.reduceNeg, Int.reduceToNat, Int.reduceEq, Int.reduceAdd, Int.reduceSub, Int.reduceMul, Int.reduceBEq, Int.reduceBNe, Blk.men, Blk.keysIn, hd])
    | (exact retS_of rfl rfl rfl)
    | (refine DW.cond_tt rfl ?_)
    | (refine DW.cond_ff rfl ?_)
    | (refine DW.cond rfl ?_ ?_ <;> intro hc <;> (try simp only [go_sem] at hc))
    | (refine g_split ?_ ?_ <;> intro hc <;> (try simp only [hc]) <;> (try simp only [go_sem] at hc)))
    (refine retS_ent (Ent.rel 4 rfl) ?_; simp (disch := omega) only [go_sem, Nat.reduceLT, Nat.reduceLeDiff, Nat.reduceAdd, Nat.reduceMul, Nat.reduceEqDiff, ↓reduceIte, reduceCtorEq, Nat.reduceBEq, Nat.reduceBNe, Nat.reducePow, Int.reduceLE, Int.reduceLT, Int.reduceNeg, Int.reduceToNat, Int.reduceEq, Int.reduceAdd, Int.reduceSub, Int.reduceMul, Int.reduceBEq, Int.reduceBNe, Blk.men, Blk.keysIn])
    refine retS_wk rfl ?_ (by simp only [Blk.nb, rowC_nb, D.nb, D.nbs, C.nb, C.nbs, C.nbss, rows_nb eI_nb, rows_nb eC_nb, rows_nb eL_nb, rows_nb eR_nb, rows_nb eS_nb, rows_nb eG_nb, Bool.and_true, Bool.not_false, Bool.and_self, bD, dI, iD, rows_nb eP_nb, rows_nb eF_nb]); exact .refl _
end Go.Dw.Seat
end
section
set_option linter.unusedSimpArgs false
set_option maxRecDepth 100000
namespace Go.Dw.Seat
open Go Go.Dw Go.Proofs Go.IntWalk
theorem bdForm (m : Mak) (s : Sto) (h : m.ok s) : DCall Try.prog 125 [dMak m] [] (bD true) [] := by
  have hf := h.nf
  have hn := h.np
  have h1 := bdIn true 1 2 [(m.flutes.length : Int)] (by simp) (by simp; omega)
  have h2 := bdKinds m.flutes.length (by omega)
  have hl := kindsL_len m.flutes.length
  have hd : ((m.papers.length : Int) == ((kindsL m.flutes.length).length : Int)) = true := by rw [hl, hn]; simp
  refine DCall.of Try.func125 sf125 hb125 (Nat.le_of_ble_eq_true rfl) (okRes_nil fun _ => rfl) ?_; simp only [s125, idxs, Nat.reduceAdd]
  repeat' (first
    | (with_reducible refine DW.seq ?_)
    | (with_reducible refine DW.block ?_)
    | (with_reducible refine DW.skip ?_)
    | (with_reducible refine DW.exit ?_)
    | (with_reducible refine DW.ret ?_)
    | (with_reducible refine DW.reg ?_)
    | (refine DW.dreg rfl (WF.of (by first | rfl | simp (disch := omega) only [go_sem, Nat.reduceLT, Nat.reduceLeDiff, Nat.reduceAdd, Nat.reduceMul, Nat.reduceEqDiff, ↓reduceIte, reduceCtorEq, Nat.reduceBEq, Nat.reduceBNe, Nat.reducePow, Int.reduceLE, Int.reduceLT, Int.reduceNeg, Int.reduceToNat, Int.reduceEq, Int.reduceAdd, Int.reduceSub, Int.reduceMul, Int.reduceBEq, Int.reduceBNe, bm_box, bm_row, bk_box, bk_row, hd, nL_length])) ?_)
    | (simp (disch := omega) only [go_sem, Nat.reduceLT, Nat.reduceLeDiff, Nat.reduceAdd, Nat.reduceMul, Nat.reduceEqDiff, ↓reduceIte, reduceCtorEq, Nat.reduceBEq, Nat.reduceBNe, Nat.reducePow, Int.reduceLE, Int.reduceLT, Int.reduceNeg, Int.reduceToNat, Int.reduceEq, Int.reduceAdd, Int.reduceSub, Int.reduceMul, Int.reduceBEq, Int.reduceBNe, bm_box, bm_row, bk_box, bk_row, hd, nL_length])
    | (exact retS_of rfl rfl rfl)
    | (refine DW.cond_tt rfl ?_)
    | (refine call_c (h1) (by decide) ?_)
    | (refine call_c (h2) (by decide) ?_)
    | (refine DW.cond_ff rfl ?_)
    | (refine DW.cond rfl ?_ ?_ <;> intro hc <;> (try simp only [go_sem] at hc))
    | (refine g_split ?_ ?_ <;> intro hc <;> (try simp only [hc]) <;> (try simp only [go_sem] at hc)))
theorem nL_at {l : List Nat} {i v : Nat} (h : l[i]? = some v) : (nL l)[i]? = some (v : Int) := by rw [nL_get, h]; rfl
theorem bdMade (s : Sto) (m : Mak) (hs : s.ok) (h : m.ok s) : DCall Try.prog 84 [dSto s, dMak m] [] (dI 0) [] := by
  have hf := h.nf
  have hn := h.np
  have hsp := hs.np
  have hsf := hs.nf
  have h1 := bdCheck s hs
  have h2 := bdForm m s h
  have h3 := bdIn false 0 ((s.papers.length : Int) - 1) (nL m.papers) (by rw [nL_length]; omega) (fun v hv => by
    obtain ⟨n, hn, rfl⟩ := List.mem_map.1 hv
    have := h.papers n hn
    omega)
  have h4 := bdIn false 0 ((s.flutes.length : Int) - 1) (nL m.flutes) (by rw [nL_length]; omega) (fun v hv => by
    obtain ⟨n, hn, rfl⟩ := List.mem_map.1 hv
    have := h.flutes n hn
    omega)
  have h5 := bdKinds m.flutes.length (by omega)
  have hl := kindsL_len m.flutes.length
  have hk := kindsL_get m.flutes.length
  have hkl : (kindsL m.flutes.length).length ≤ 5 := by omega
  refine DCall.of Try.func84 sf84 hb84 (Nat.le_of_ble_eq_true rfl) (okRes_nil fun _ => rfl) ?_; simp only [s84, idxs, Nat.reduceAdd]
  repeat' (first
    | (with_reducible refine DW.seq ?_)
    | (with_reducible refine DW.block ?_)
    | (with_reducible refine DW.skip ?_)
    | (with_reducible refine DW.exit ?_)
    | (with_reducible refine DW.ret ?_)
    | (with_reducible refine DW.reg ?_)
    | (refine DW.dreg rfl (WF.of (by first | rfl | simp (disch := omega) only [go_sem, Nat.reduceLT, Nat.reduceLeDiff, Nat.reduceAdd, Nat.reduceMul, Nat.reduceEqDiff, ↓reduceIte, reduceCtorEq, Nat.reduceBEq, Nat.reduceBNe, Nat.reducePow, Int.reduceLE, Int.reduceLT, Int.reduceNeg, Int.reduceToNat, Int.reduceEq, Int.reduceAdd, Int.reduceSub, Int.reduceMul, Int.reduceBEq, Int.reduceBNe, bm_box, bm_row, bk_box, bk_row, nL_length])) ?_)
    | (simp (disch := omega) only [go_sem, Nat.reduceLT, Nat.reduceLeDiff, Nat.reduceAdd, Nat.reduceMul, Nat.reduceEqDiff, ↓reduceIte, reduceCtorEq, Nat.reduceBEq, Nat.reduceBNe, Nat.reducePow, Int.reduceLE, Int.reduceLT, Int.reduceNeg, Int.reduceToNat, Int.reduceEq, Int.reduceAdd, Int.reduceSub, Int.reduceMul, Int.reduceBEq, Int.reduceBNe, bm_box, bm_row, bk_box, bk_row, nL_length])
    | (exact retS_of rfl rfl rfl)
    | (refine DW.cond_tt rfl ?_)
    | (refine call_c (h1) (by decide) ?_)
    | (refine call_c (h2) (by decide) ?_)
    | (refine call_c (h3) (by decide) ?_)
    | (refine call_c (h4) (by decide) ?_)
    | (refine call_c (h5) (by decide) ?_)
    | (refine DW.cond_ff rfl ?_)
    | (refine DW.cond rfl ?_ ?_ <;> intro hc <;> (try simp only [go_sem] at hc))
    | (refine g_split ?_ ?_ <;> intro hc <;> (try simp only [hc]) <;> (try simp only [go_sem] at hc)))
  refine DW.loop (ι := { i : Nat // i ≤ m.papers.length }) (fun i => ⟨57, [(39, dI i.1), (38, dI (kindsL m.flutes.length).length), (37, .c (.sl false 1 (rows eI (kindsL m.flutes.length)))), (3, .box 3 0), (2, .box 2 0)], [(3, .box [.c (.sl false 1 (rows eI (nL m.papers))), .c (.sl false 1 (rows eI (nL m.flutes)))]), (2, .box [.c (.sl false 8 (rows eP s.papers)), .c (.sl false 4 (rows eF s.flutes))])]⟩) (fun i => m.papers.length - i.1) ⟨0, Nat.zero_le _⟩ ?_ ?_
  · refine Ent.to ?_ ?_ <;> simp (disch := omega) only [wkT_cons, wkX_cons, wkT_nil, wkX_nil, get, Nat.reduceEqDiff, ↓reduceIte, ex_some, wk_self, wk_top, wk_nil, wkB_self, and_self, dI, i64_in, and_true, true_and, Int.natCast_add, Int.natCast_one, Int.ofNat_zero, Int.natCast_zero]
  rintro ⟨i, hi⟩
  rcases Nat.lt_or_ge i m.papers.length with hlt | hge
  · have hd : decide ((i : Int) < ((kindsL m.flutes.length).length : Int)) = true := by rw [decide_eq_true_eq]; omega
    have hki := hk i (by omega)
    obtain ⟨v, hv⟩ := getE (l := m.papers) (i := i) hlt
    have hv' := nL_at hv
    have hvs := h.papers v (List.mem_of_getElem? hv)
    obtain ⟨p, hp⟩ := getE (l := s.papers) (i := v) hvs
    have hpk := h.kind i v p hv hp
    have hl1 : (nL m.papers).length = m.papers.length := nL_length _
    rw [← hpk] at hki
    have hne : (p.kind != p.kind) = false := by simp
    generalize kindsL m.flutes.length = k at *
    repeat' (first
    | (with_reducible refine DW.seq ?_)
    | (with_reducible refine DW.block ?_)
    | (with_reducible refine DW.skip ?_)
    | (with_reducible refine DW.exit ?_)
    | (with_reducible refine DW.ret ?_)
    | (with_reducible refine DW.reg ?_)
    | (refine DW.dreg rfl (WF.of (by first | rfl | simp (disch := omega) only [go_sem, Nat.reduceLT, Nat.reduceLeDiff, Nat.reduceAdd, Nat.reduceMul, Nat.reduceEqDiff, ↓reduceIte, reduceCtorEq, Nat.reduceBEq, Nat.reduceBNe, Nat.reducePow, Int.reduceLE, Int.reduceLT, Int.reduceNeg, Int.reduceToNat, Int.reduceEq, Int.reduceAdd, Int.reduceSub, Int.reduceMul, Int.reduceBEq, Int.reduceBNe, bm_box, bm_row, bk_box, bk_row, hd, hki, hv', hp, hl1, hne, List.map_cons, List.map_nil])) ?_)
    | (simp (disch := omega) only [go_sem, Nat.reduceLT, Nat.reduceLeDiff, Nat.reduceAdd, Nat.reduceMul, Nat.reduceEqDiff, ↓reduceIte, reduceCtorEq, Nat.reduceBEq, Nat.reduceBNe, Nat.reducePow, Int.reduceLE, Int.reduceLT, Int.reduceNeg, Int.reduceToNat, Int.reduceEq, Int.reduceAdd, Int.reduceSub, Int.reduceMul, Int.reduceBEq, Int.reduceBNe, bm_box, bm_row, bk_box, bk_row, hd, hki, hv', hp, hl1, hne, List.map_cons, List.map_nil])
    | (exact retS_of rfl rfl rfl)
    | (refine DW.cond_tt rfl ?_)
    | (refine DW.cond_ff rfl ?_)
    | (refine DW.cond rfl ?_ ?_ <;> intro hc <;> (try simp only [go_sem] at hc))
    | (refine g_split ?_ ?_ <;> intro hc <;> (try simp only [hc]) <;> (try simp only [go_sem] at hc)))
    refine ⟨⟨i + 1, hlt⟩, ?_, Ent.to ?_ ?_⟩ <;> first | (show _ < _; (try simp only); omega) | (simp (disch := omega) only [wkT_cons, wkX_cons, wkT_nil, wkX_nil, get, Nat.reduceEqDiff, ↓reduceIte, ex_some, wk_self, wk_top, wk_nil, wkB_self, and_self, dI, i64_in, and_true, true_and, Int.natCast_add, Int.natCast_one, Int.ofNat_zero, Int.natCast_zero])
  · have hd : decide ((i : Int) < ((kindsL m.flutes.length).length : Int)) = false := by rw [decide_eq_false_iff_not]; omega
    repeat' (first
    | (with_reducible refine DW.seq ?_)
    | (with_reducible refine DW.block ?_)
    | (with_reducible refine DW.skip ?_)
    | (with_reducible refine DW.exit ?_)
    | (with_reducible refine DW.ret ?_)
    | (with_reducible refine DW.reg ?_)
    | (refine DW.dreg rfl (WF.of (by first | rfl | simp (disch := omega) only [go_sem, Nat.reduceLT, Nat.reduceLeDiff, Nat.reduceAdd, Nat.reduceMul, Nat.reduceEqDiff, ↓reduceIte, reduceCtorEq, Nat.reduceBEq, Nat.reduceBNe, Nat.reducePow, Int.reduceLE, Int.reduceLT, Int.reduceNeg, Int.reduceToNat, Int.reduceEq, Int.reduceAdd, Int.reduceSub, Int.reduceMul, Int.reduceBEq, Int.reduceBNe, bm_box, bm_row, bk_box, bk_row, hd])) ?_)
    | (simp (disch := omega) only [go_sem, Nat.reduceLT, Nat.reduceLeDiff, Nat.reduceAdd, Nat.reduceMul, Nat.reduceEqDiff, ↓reduceIte, reduceCtorEq, Nat.reduceBEq, Nat.reduceBNe, Nat.reducePow, Int.reduceLE, Int.reduceLT, Int.reduceNeg, Int.reduceToNat, Int.reduceEq, Int.reduceAdd, Int.reduceSub, Int.reduceMul, Int.reduceBEq, Int.reduceBNe, bm_box, bm_row, bk_box, bk_row, hd])
    | (exact retS_of rfl rfl rfl)
    | (refine DW.cond_tt rfl ?_)
    | (refine DW.cond_ff rfl ?_)
    | (refine DW.cond rfl ?_ ?_ <;> intro hc <;> (try simp only [go_sem] at hc))
    | (refine g_split ?_ ?_ <;> intro hc <;> (try simp only [hc]) <;> (try simp only [go_sem] at hc)))
def papAt (s : Sto) (n : Nat) : Pap := s.papers[n]?.getD ⟨0, 0, 0, 0, 0, 0, 0, 0⟩
def fluAt (s : Sto) (n : Nat) : Flu := s.flutes[n]?.getD ⟨0, 0, 0, 0⟩
theorem papAt_get {s : Sto} {n : Nat} (h : n < s.papers.length) : s.papers[n]? = some (papAt s n) := by
  rw [papAt, List.getElem?_eq_getElem h]; rfl
theorem fluAt_get {s : Sto} {n : Nat} (h : n < s.flutes.length) : s.flutes[n]? = some (fluAt s n) := by
  rw [fluAt, List.getElem?_eq_getElem h]; rfl
theorem papAt_ok {s : Sto} {n : Nat} (hs : s.ok) (h : n < s.papers.length) : (papAt s n).ok := hs.papers _ (List.mem_of_getElem? (papAt_get h))
theorem fluAt_ok {s : Sto} {n : Nat} (hs : s.ok) (h : n < s.flutes.length) : (fluAt s n).ok := hs.flutes _ (List.mem_of_getElem? (fluAt_get h))
def wholeF (s : Sto) (w : Int) (l : List Nat) : Int := l.foldl (fun w n => w * (fluAt s n).pitch) w
theorem wholeF_take (s : Sto) (w : Int) {l : List Nat} {i v : Nat} (h : l[i]? = some v) : wholeF s w (l.take (i + 1)) = wholeF s w (l.take i) * (fluAt s v).pitch := by
  rw [List.take_add_one, h]
  simp only [wholeF, Option.toList_some, List.foldl_append, List.foldl_cons, List.foldl_nil]
theorem wholeF_b (s : Sto) (hs : s.ok) : ∀ (l : List Nat), (∀ n ∈ l, n < s.flutes.length) → l.length ≤ 2 → 1 ≤ wholeF s 1 l ∧ wholeF s 1 l ≤ 100000000
  | [], _, _ => by simp [wholeF]
  | [a], h, _ => by
    have := (fluAt_ok hs (h a (by simp))).pitch
    simp only [wholeF, List.foldl_cons, List.foldl_nil]
    omega
  | [a, b], h, _ => by
    have h1 := (fluAt_ok hs (h a (by simp))).pitch
    have h2 := (fluAt_ok hs (h b (by simp))).pitch
    simp only [wholeF, List.foldl_cons, List.foldl_nil, Int.one_mul]
    have h3 := mulB0 (a := (fluAt s a).pitch) (b := (fluAt s b).pitch) (A := 10000) (B := 10000) (by omega) (by omega)
    have h4 : 1 * 1 ≤ (fluAt s a).pitch * (fluAt s b).pitch := Int.mul_le_mul (by omega) (by omega) (by decide) (by omega)
    omega
  | a :: b :: c :: l, _, h => by simp at h
abbrev dShe (s : Sto) (m : Mak) (w : Int) : D := .agg [.c (.sl false 1 (rows eI (nL m.papers))), .c (.sl false 1 (rows eI (nL m.flutes))), .c (.sl false 8 (rows eP s.papers)), .c (.sl false 4 (rows eF s.flutes)), dI w]
attribute [go_sem] dShe
def wholeI (s : Sto) (m : Mak) : Int := wholeF s 1 m.flutes
theorem bdSheetOf (s : Sto) (m : Mak) (hs : s.ok) (h : m.ok s) : DCall Try.prog 85 [dSto s, dMak m] [] (dShe s m (wholeI s m)) [] := by
  have hf := h.nf
  have hl1 : (nL m.flutes).length = m.flutes.length := nL_length _
  refine DCall.of Try.func85 sf85 hb85 (Nat.le_of_ble_eq_true rfl) (okRes_nil fun _ => rfl) ?_; simp only [s85, idxs, Nat.reduceAdd]
  repeat' (first
    | (with_reducible refine DW.seq ?_)
    | (with_reducible refine DW.block ?_)
    | (with_reducible refine DW.skip ?_)
    | (with_reducible refine DW.exit ?_)
    | (with_reducible refine DW.ret ?_)
    | (with_reducible refine DW.reg ?_)
    | (refine DW.dreg rfl (WF.of (by first | rfl | simp (disch := omega) only [go_sem, Nat.reduceLT, Nat.reduceLeDiff, Nat.reduceAdd, Nat.reduceMul, Nat.reduceEqDiff, ↓reduceIte, reduceCtorEq, Nat.reduceBEq, Nat.reduceBNe, Nat.reducePow, Int.reduceLE, Int.reduceLT, Int.reduceNeg, Int.reduceToNat, Int.reduceEq, Int.reduceAdd, Int.reduceSub, Int.reduceMul, Int.reduceBEq, Int.reduceBNe, bm_box, bm_row, bk_box, bk_row, hl1])) ?_)
    | (simp (disch := omega) only [go_sem, Nat.reduceLT, Nat.reduceLeDiff, Nat.reduceAdd, Nat.reduceMul, Nat.reduceEqDiff, ↓reduceIte, reduceCtorEq, Nat.reduceBEq, Nat.reduceBNe, Nat.reducePow, Int.reduceLE, Int.reduceLT, Int.reduceNeg, Int.reduceToNat, Int.reduceEq, Int.reduceAdd, Int.reduceSub, Int.reduceMul, Int.reduceBEq, Int.reduceBNe, bm_box, bm_row, bk_box, bk_row, hl1])
    | (exact retS_of rfl rfl rfl)
    | (refine DW.cond_tt rfl ?_)
    | (refine DW.cond_ff rfl ?_)
    | (refine DW.cond rfl ?_ ?_ <;> intro hc <;> (try simp only [go_sem] at hc))
    | (refine g_split ?_ ?_ <;> intro hc <;> (try simp only [hc]) <;> (try simp only [go_sem] at hc)))
  refine DW.loop (ι := { i : Nat // i ≤ m.flutes.length }) (fun i => ⟨30, [(14, dI i.1), (13, dI m.flutes.length), (12, .c (.sl false 1 (rows eI (nL m.flutes)))), (5, .box 5 0), (4, .box 4 0), (2, .box 2 0)], [(5, .box [.c (.sl false 1 (rows eI (nL m.papers))), .c (.sl false 1 (rows eI (nL m.flutes))), .c (.sl false 8 (rows eP s.papers)), .c (.sl false 4 (rows eF s.flutes)), dI (wholeF s 1 (m.flutes.take i.1))]), (4, .box [.c (.v (.slice none 0 0)), .c (.v (.slice none 0 0)), .c (.v (.slice none 0 0)), .c (.v (.slice none 0 0)), dI 0]), (2, .box [.c (.sl false 8 (rows eP s.papers)), .c (.sl false 4 (rows eF s.flutes))])]⟩) (fun i => m.flutes.length - i.1) ⟨0, Nat.zero_le _⟩ ?_ ?_
  · refine Ent.to ?_ ?_ <;> simp (disch := omega) only [wkT_cons, wkX_cons, wkT_nil, wkX_nil, get, Nat.reduceEqDiff, ↓reduceIte, ex_some, wk_self, wk_top, wk_nil, wkB_self, and_self, dI, i64_in, and_true, true_and, Int.natCast_add, Int.natCast_one, Int.ofNat_zero, Int.natCast_zero, List.take_zero, wholeF, List.foldl_nil]
  rintro ⟨i, hi⟩
  rcases Nat.lt_or_ge i m.flutes.length with hlt | hge
  · have hd : decide ((i : Int) < (m.flutes.length : Int)) = true := by rw [decide_eq_true_eq]; omega
    obtain ⟨v, hv⟩ := getE (l := m.flutes) (i := i) hlt
    have hv' := nL_at hv
    have hvs := h.flutes v (List.mem_of_getElem? hv)
    have hp := fluAt_get hvs
    have hnx := wholeF_take s 1 hv
    have hb := wholeF_b s hs (m.flutes.take (i + 1)) (fun n hn => h.flutes n (List.mem_of_mem_take hn)) (by rw [List.length_take]; omega)
    rw [hnx] at hb
    repeat' (first
    | (with_reducible refine DW.seq ?_)
    | (with_reducible refine DW.block ?_)
    | (with_reducible refine DW.skip ?_)
    | (with_reducible refine DW.exit ?_)
    | (with_reducible refine DW.ret ?_)
    | (with_reducible refine DW.reg ?_)
    | (refine DW.dreg rfl (WF.of (by first | rfl | simp (disch := omega) only [go_sem, Nat.reduceLT, Nat.reduceLeDiff, Nat.reduceAdd, Nat.reduceMul, Nat.reduceEqDiff, ↓reduceIte, reduceCtorEq, Nat.reduceBEq, Nat.reduceBNe, Nat.reducePow, Int.reduceLE, Int.reduceLT, Int.reduceNeg, Int.reduceToNat, Int.reduceEq, Int.reduceAdd, Int.reduceSub, Int.reduceMul, Int.reduceBEq, Int.reduceBNe, bm_box, bm_row, bk_box, bk_row, hd, hv', hp, List.map_cons, List.map_nil])) ?_)
    | (simp (disch := omega) only [go_sem, Nat.reduceLT, Nat.reduceLeDiff, Nat.reduceAdd, Nat.reduceMul, Nat.reduceEqDiff, ↓reduceIte, reduceCtorEq, Nat.reduceBEq, Nat.reduceBNe, Nat.reducePow, Int.reduceLE, Int.reduceLT, Int.reduceNeg, Int.reduceToNat, Int.reduceEq, Int.reduceAdd, Int.reduceSub, Int.reduceMul, Int.reduceBEq, Int.reduceBNe, bm_box, bm_row, bk_box, bk_row, hd, hv', hp, List.map_cons, List.map_nil])
    | (exact retS_of rfl rfl rfl)
    | (refine DW.cond_tt rfl ?_)
    | (refine DW.cond_ff rfl ?_)
    | (refine DW.cond rfl ?_ ?_ <;> intro hc <;> (try simp only [go_sem] at hc))
    | (refine g_split ?_ ?_ <;> intro hc <;> (try simp only [hc]) <;> (try simp only [go_sem] at hc)))
    refine ⟨⟨i + 1, hlt⟩, ?_, Ent.to ?_ ?_⟩ <;> first | (show _ < _; (try simp only); omega) | (simp (disch := omega) only [wkT_cons, wkX_cons, wkT_nil, wkX_nil, get, Nat.reduceEqDiff, ↓reduceIte, ex_some, wk_self, wk_top, wk_nil, wkB_self, and_self, dI, i64_in, and_true, true_and, Int.natCast_add, Int.natCast_one, Int.ofNat_zero, Int.natCast_zero,  hnx])
    all_goals exact .refl _
  · obtain rfl : i = m.flutes.length := by omega
    have hd : decide ((m.flutes.length : Int) < (m.flutes.length : Int)) = false := by rw [decide_eq_false_iff_not]; omega
    have hw : wholeI s m = wholeF s 1 (m.flutes.take m.flutes.length) := by rw [List.take_length]; rfl
    rw [hw]
    repeat' (first
    | (with_reducible refine DW.seq ?_)
    | (with_reducible refine DW.block ?_)
    | (with_reducible refine DW.skip ?_)
    | (with_reducible refine DW.exit ?_)
    | (with_reducible refine DW.ret ?_)
    | (with_reducible refine DW.reg ?_)
    | (refine DW.dreg rfl (WF.of (by first | rfl | simp (disch := omega) only [go_sem, Nat.reduceLT, Nat.reduceLeDiff, Nat.reduceAdd, Nat.reduceMul, Nat.reduceEqDiff, ↓reduceIte, reduceCtorEq, Nat.reduceBEq, Nat.reduceBNe, Nat.reducePow, Int.reduceLE, Int.reduceLT, Int.reduceNeg, Int.reduceToNat, Int.reduceEq, Int.reduceAdd, Int.reduceSub, Int.reduceMul, Int.reduceBEq, Int.reduceBNe, bm_box, bm_row, bk_box, bk_row, hd])) ?_)
    | (simp (disch := omega) only [go_sem, Nat.reduceLT, Nat.reduceLeDiff, Nat.reduceAdd, Nat.reduceMul, Nat.reduceEqDiff, ↓reduceIte, reduceCtorEq, Nat.reduceBEq, Nat.reduceBNe, Nat.reducePow, Int.reduceLE, Int.reduceLT, Int.reduceNeg, Int.reduceToNat, Int.reduceEq, Int.reduceAdd, Int.reduceSub, Int.reduceMul, Int.reduceBEq, Int.reduceBNe, bm_box, bm_row, bk_box, bk_row, hd])
    | (exact retS_of rfl rfl rfl)
    | (refine DW.cond_tt rfl ?_)
    | (refine DW.cond_ff rfl ?_)
    | (refine DW.cond rfl ?_ ?_ <;> intro hc <;> (try simp only [go_sem] at hc))
    | (refine g_split ?_ ?_ <;> intro hc <;> (try simp only [hc]) <;> (try simp only [go_sem] at hc)))
    refine retS_wk rfl ?_ (by simp only [Blk.nb, rowC_nb, D.nb, D.nbs, C.nb, C.nbs, C.nbss, rows_nb eI_nb, rows_nb eC_nb, rows_nb eL_nb, rows_nb eR_nb, rows_nb eS_nb, rows_nb eG_nb, Bool.and_true, Bool.not_false, Bool.and_self, bD, dI, iD, rows_nb eP_nb, rows_nb eF_nb]); exact .refl _
theorem bdNew (s : Sto) (m : Mak) (hs : s.ok) (h : m.ok s) : DCall Try.prog 48 [dSto s, dMak m] [] (.tup [dShe s m (wholeI s m), dI 0]) [] := by
  have h1 := bdMade s m hs h
  have h2 := bdSheetOf s m hs h
  refine DCall.of Try.func48 sf48 hb48 (Nat.le_of_ble_eq_true rfl) (okRes_nil fun _ => rfl) ?_; simp only [s48, idxs, Nat.reduceAdd]
  repeat' (first
    | (with_reducible refine DW.seq ?_)
    | (with_reducible refine DW.block ?_)
    | (with_reducible refine DW.skip ?_)
    | (with_reducible refine DW.exit ?_)
    | (with_reducible refine DW.ret ?_)
    | (with_reducible refine DW.reg ?_)
    | (simp (disch := omega) only [go_sem, Nat.reduceLT, Nat.reduceLeDiff, Nat.reduceAdd, Nat.reduceMul, Nat.reduceEqDiff, ↓reduceIte, reduceCtorEq, Nat.reduceBEq, Nat.reduceBNe, Nat.reducePow, Int.reduceLE, Int.reduceLT, Int.reduceNeg, Int.reduceToNat, Int.reduceEq, Int.reduceAdd, Int.reduceSub, Int.reduceMul, Int.reduceBEq, Int.reduceBNe, bm_box, bm_row, bk_box, bk_row])
    | (exact retS_of rfl rfl rfl)
    | (refine DW.cond_tt rfl ?_)
    | (refine call_c (h1) (by decide) ?_)
    | (refine call_c (h2) (by decide) ?_)
    | (refine DW.cond_ff rfl ?_)
    | (refine DW.cond rfl ?_ ?_ <;> intro hc <;> (try simp only [go_sem] at hc))
    | (refine g_split ?_ ?_ <;> intro hc <;> (try simp only [hc]) <;> (try simp only [go_sem] at hc)))
  refine retS_wk rfl ?_ (by simp only [Blk.nb, rowC_nb, D.nb, D.nbs, C.nb, C.nbs, C.nbss, rows_nb eI_nb, rows_nb eC_nb, rows_nb eL_nb, rows_nb eR_nb, rows_nb eS_nb, rows_nb eG_nb, Bool.and_true, Bool.not_false, Bool.and_self, bD, dI, iD, rows_nb eP_nb, rows_nb eF_nb]); exact .tup (.cons (.refl _) (.cons (.refl _) .nil))
theorem drop_at {α : Type} {l : List α} {i : Nat} {v : α} (h : l[i]? = some v) : l.drop i = v :: l.drop (i + 1) := by
  obtain ⟨hi, rfl⟩ := List.getElem?_eq_some_iff.1 h
  exact List.drop_eq_getElem_cons hi
def partsAt (s : Sto) (m : Mak) (i : Nat) : Int := if i % 2 = 1 then (wholeI s m).tdiv (fluAt s (m.flutes[i / 2]?.getD 0)).pitch * (fluAt s (m.flutes[i / 2]?.getD 0)).draw else wholeI s m
def layersL (s : Sto) (m : Mak) : List (Nat × Int) := m.papers.zipIdx.map fun e => (e.1, partsAt s m e.2)
theorem layersL_get {s : Sto} {m : Mak} {i v : Nat} (h : m.papers[i]? = some v) : (layersL s m)[i]? = some (v, partsAt s m i) := by
  simp [layersL, h]
theorem layersL_len (s : Sto) (m : Mak) : (layersL s m).length = m.papers.length := by simp [layersL]
def enLay (e : Nat × Int) : List D := [dI e.1, dI e.2]
def okLay (s : Sto) (e : Nat × Int) : Prop := e.1 < s.papers.length ∧ 0 ≤ e.2 ∧ e.2 ≤ 200000000
theorem flute_at {s : Sto} {m : Mak} (h : m.ok s) {i : Nat} (hi : i < m.papers.length) (ho : i % 2 = 1) : m.flutes[i / 2]? = some (m.flutes[i / 2]?.getD 0) ∧ (m.flutes[i / 2]?.getD 0) < s.flutes.length := by
  have h1 := h.np
  obtain ⟨v, hv⟩ := getE (l := m.flutes) (i := i / 2) (by omega)
  rw [hv]
  exact ⟨rfl, h.flutes v (List.mem_of_getElem? hv)⟩
theorem wholeI_b {s : Sto} {m : Mak} (hs : s.ok) (h : m.ok s) : 1 ≤ wholeI s m ∧ wholeI s m ≤ 100000000 := wholeF_b s hs m.flutes h.flutes h.nf.2
theorem partsAt_b {s : Sto} {m : Mak} (hs : s.ok) (h : m.ok s) {i : Nat} (hi : i < m.papers.length) : 0 ≤ partsAt s m i ∧ partsAt s m i ≤ 200000000 := by
  have hw := wholeI_b hs h
  unfold partsAt
  split
  · rename_i ho
    have hf := fluAt_ok hs (flute_at h hi ho).2
    have h1 := hf.pitch
    have h2 := hf.draw
    generalize fluAt s (m.flutes[i / 2]?.getD 0) = f at *
    generalize wholeI s m = w at *
    rw [Int.tdiv_eq_ediv_of_nonneg (by omega)]
    have q0 : 0 ≤ w / f.pitch := Int.ediv_nonneg (by omega) (by omega)
    have q1 : w / f.pitch * f.pitch ≤ w := Int.ediv_mul_le w (by omega)
    have q2 : w / f.pitch * f.draw ≤ w / f.pitch * (2 * f.pitch) := Int.mul_le_mul_of_nonneg_left h2.2 q0
    have q3 : 0 ≤ w / f.pitch * f.draw := Int.mul_nonneg q0 (by omega)
    have q4 : w / f.pitch * (2 * f.pitch) = 2 * (w / f.pitch * f.pitch) := by rw [Int.mul_left_comm]
    omega
  · omega
attribute [go_sem] enLay
theorem bdLayers (s : Sto) (m : Mak) (hs : s.ok) (h : m.ok s) : ItD Try.prog 105 [dShe s m (wholeI s m)] [] enLay (okLay s) (layersL s m) := by
  intro ly β H stp live hW hY b0 hl0
  have hH : ∀ b, HidOk (H b) := fun b => (hW b).toHidOk
  have hw := wholeI_b hs h
  refine DCall.of Try.func105 sf105 hb105 (Nat.le_of_ble_eq_true rfl) (hH _).res ?_
  simp only [s105, idxs, Nat.reduceAdd, List.map_nil, List.map_cons, List.nil_append, List.cons_append]
  have f1 := hid_get (hH b0)
  have f2 := hid_ins (hH b0)
  have f3 := (hH b0).men
  have f4 := (hH b0).lo
  have f5 : ∀ k x, k < 1000 → ins k x (H b0) = H b0 ++ [(k, x)] := fun k x hk => by have := f2 k hk x []; rwa [List.append_nil] at this
  have hl1 : (nL m.papers).length = m.papers.length := nL_length _
  have hn5 : m.papers.length ≤ 5 := by have := h.np; have := h.nf; omega
  repeat' (first
    | (with_reducible refine DW.seq ?_)
    | (with_reducible refine DW.block ?_)
    | (with_reducible refine DW.skip ?_)
    | (with_reducible refine DW.exit ?_)
    | (with_reducible refine DW.ret ?_)
    | (with_reducible refine DW.reg ?_)
    | (refine DW.dreg rfl (WF.of (by first | rfl | simp (disch := omega) only [go_sem, Nat.reduceLT, Nat.reduceLeDiff, Nat.reduceAdd, Nat.reduceMul, Nat.reduceEqDiff, ↓reduceIte, reduceCtorEq, Nat.reduceBEq, Nat.reduceBNe, Nat.reducePow, Int.reduceLE, Int.reduceLT, Int.reduceNeg, Int.reduceToNat, Int.reduceEq, Int.reduceAdd, Int.reduceSub, Int.reduceMul, Int.reduceBEq, Int.reduceBNe, bm_box, bm_row, bk_box, bk_row, f1, f2, f3, f4, f5, ins, hl1])) ?_)
    | (simp (disch := omega) only [go_sem, Nat.reduceLT, Nat.reduceLeDiff, Nat.reduceAdd, Nat.reduceMul, Nat.reduceEqDiff, ↓reduceIte, reduceCtorEq, Nat.reduceBEq, Nat.reduceBNe, Nat.reducePow, Int.reduceLE, Int.reduceLT, Int.reduceNeg, Int.reduceToNat, Int.reduceEq, Int.reduceAdd, Int.reduceSub, Int.reduceMul, Int.reduceBEq, Int.reduceBNe, bm_box, bm_row, bk_box, bk_row, f1, f2, f3, f4, f5, ins, hl1])
    | (exact retS_of rfl rfl rfl)
    | (refine DW.cond_tt rfl ?_)
    | (refine DW.cond_ff rfl ?_)
    | (refine DW.cond rfl ?_ ?_ <;> intro hc <;> (try simp only [go_sem] at hc))
    | (refine g_split ?_ ?_ <;> intro hc <;> (try simp only [hc]) <;> (try simp only [go_sem] at hc)))
  refine DW.ent (Ent.comm (hH b0) rfl).1 ?_
  refine DW.loop (ι := { y : Nat × β // y.1 ≤ m.papers.length ∧ live y.2 ∧ runB stp b0 (layersL s m) = runB stp y.2 ((layersL s m).drop y.1) })
    (fun y => ⟨47, [(12, dI y.1.1), (11, dI m.papers.length), (10, .c (.sl false 1 (rows eI (nL m.papers)))), (2, .box 2 0), (1, .c (.fn (.yield ly) [] []))], [(2, .box [.c (.sl false 1 (rows eI (nL m.papers))), .c (.sl false 1 (rows eI (nL m.flutes))), .c (.sl false 8 (rows eP s.papers)), .c (.sl false 4 (rows eF s.flutes)), dI (wholeI s m)])] ++ H y.1.2⟩) (fun y => m.papers.length - y.1.1) ⟨(0, b0), Nat.zero_le _, hl0, rfl⟩ ?_ ?_
  · refine Ent.toH (o := [_]) (o' := [_]) (hH _) ?_ ?_ ?_
    · rfl
    · simp (disch := omega) only [wkT_cons, wkX_cons, wkT_nil, wkX_nil, get, Nat.reduceEqDiff, ↓reduceIte, ex_some, wk_self, wk_top, wk_nil, wkB_self, and_self, dI, i64_in, and_true, true_and, Int.natCast_add, Int.natCast_one, Int.ofNat_zero, Int.natCast_zero]
    · simp (disch := omega) only [wkT_cons, wkX_cons, wkT_nil, wkX_nil, get, Nat.reduceEqDiff, ↓reduceIte, ex_some, wk_self, wk_top, wk_nil, wkB_self, and_self, dI, i64_in, and_true, true_and, Int.natCast_add, Int.natCast_one, Int.ofNat_zero, Int.natCast_zero]
  clear f1 f2 f3 f4 f5
  rintro ⟨⟨i, b⟩, hi, hlv, hrun⟩
  dsimp only at hi hlv hrun ⊢
  have g3 := (hH b).men
  have g4 := (hH b).lo
  have g5 := (hW b).app1
  have g6 := (hW b).app2
  rcases Nat.lt_or_ge i m.papers.length with hlt | hge
  · have hd : decide ((i : Int) < (m.papers.length : Int)) = true := by rw [decide_eq_true_eq]; omega
    obtain ⟨v, hv⟩ := getE (l := m.papers) (i := i) hlt
    have hv' := nL_at hv
    have hvs := h.papers v (List.mem_of_getElem? hv)
    have hpb := partsAt_b hs h hlt
    rw [drop_at (layersL_get hv)] at hrun
    obtain ⟨hyc, hlv4⟩ := hY b (v, partsAt s m i) hlv ⟨hvs, hpb⟩
    simp only [runB] at hrun
    have hrem : (i : Int).tmod 2 = ((i % 2 : Nat) : Int) := by rw [Int.tmod_eq_emod_of_nonneg (by omega)]; omega
    have hquo : (i : Int).tdiv 2 = ((i / 2 : Nat) : Int) := by rw [Int.tdiv_eq_ediv_of_nonneg (by omega)]; omega
    rcases (by omega : i % 2 = 0 ∨ i % 2 = 1) with ho | ho
    · have hpe : partsAt s m i = wholeI s m := by rw [partsAt, if_neg (by omega)]
      rw [hpe] at hyc hrun hlv4
      rw [ho] at hrem
      repeat' (first
    | (with_reducible refine DW.seq ?_)
    | (with_reducible refine DW.block ?_)
    | (with_reducible refine DW.skip ?_)
    | (with_reducible refine DW.exit ?_)
    | (with_reducible refine DW.ret ?_)
    | (with_reducible refine DW.reg ?_)
    | (refine DW.dreg rfl (WF.of (by first | rfl | simp (disch := omega) only [go_sem, Nat.reduceLT, Nat.reduceLeDiff, Nat.reduceAdd, Nat.reduceMul, Nat.reduceEqDiff, ↓reduceIte, reduceCtorEq, Nat.reduceBEq, Nat.reduceBNe, Nat.reducePow, Int.reduceLE, Int.reduceLT, Int.reduceNeg, Int.reduceToNat, Int.reduceEq, Int.reduceAdd, Int.reduceSub, Int.reduceMul, Int.reduceBEq, Int.reduceBNe, bm_box, bm_row, bk_box, bk_row, hd, hv', hrem, g3, g4])) ?_)
    | (simp (disch := omega) only [go_sem, Nat.reduceLT, Nat.reduceLeDiff, Nat.reduceAdd, Nat.reduceMul, Nat.reduceEqDiff, ↓reduceIte, reduceCtorEq, Nat.reduceBEq, Nat.reduceBNe, Nat.reducePow, Int.reduceLE, Int.reduceLT, Int.reduceNeg, Int.reduceToNat, Int.reduceEq, Int.reduceAdd, Int.reduceSub, Int.reduceMul, Int.reduceBEq, Int.reduceBNe, bm_box, bm_row, bk_box, bk_row, hd, hv', hrem, g3, g4])
    | (exact retS_of rfl rfl rfl)
    | (refine DW.cond_tt rfl ?_)
    | (refine DW.cond_ff rfl ?_)
    | (refine DW.cond rfl ?_ ?_ <;> intro hc <;> (try simp only [go_sem] at hc))
    | (refine g_split ?_ ?_ <;> intro hc <;> (try simp only [hc]) <;> (try simp only [go_sem] at hc)))
      refine call_y (own := [_]) hyc rfl rfl rfl (hH _) (hH _) (by decide) ?_
      cases hs : (stp b (v, wholeI s m)).1 with
      | true =>
        rw [hs] at hrun hlv4
        simp (disch := omega) only [go_sem, Nat.reduceLT, Nat.reduceLeDiff, Nat.reduceAdd, Nat.reduceMul, Nat.reduceEqDiff, ↓reduceIte, reduceCtorEq, Nat.reduceBEq, Nat.reduceBNe, Nat.reducePow, Int.reduceLE, Int.reduceLT, Int.reduceNeg, Int.reduceToNat, Int.reduceEq, Int.reduceAdd, Int.reduceSub, Int.reduceMul, Int.reduceBEq, Int.reduceBNe, bm_box, bm_row, bk_box, bk_row]
        repeat' (first
    | (with_reducible refine DW.seq ?_)
    | (with_reducible refine DW.block ?_)
    | (with_reducible refine DW.skip ?_)
    | (with_reducible refine DW.exit ?_)
    | (with_reducible refine DW.ret ?_)
    | (with_reducible refine DW.reg ?_)
    | (refine DW.dreg rfl (WF.of (by first | rfl | simp (disch := omega) only [go_sem, Nat.reduceLT, Nat.reduceLeDiff, Nat.reduceAdd, Nat.reduceMul, Nat.reduceEqDiff, ↓reduceIte, reduceCtorEq, Nat.reduceBEq, Nat.reduceBNe, Nat.reducePow, Int.reduceLE, Int.reduceLT, Int.reduceNeg, Int.reduceToNat, Int.reduceEq, Int.reduceAdd, Int.reduceSub, Int.reduceMul, Int.reduceBEq, Int.reduceBNe, bm_box, bm_row, bk_box, bk_row])) ?_)
    | (simp (disch := omega) only [go_sem, Nat.reduceLT, Nat.reduceLeDiff, Nat.reduceAdd, Nat.reduceMul, Nat.reduceEqDiff, ↓reduceIte, reduceCtorEq, Nat.reduceBEq, Nat.reduceBNe, Nat.reducePow, Int.reduceLE, Int.reduceLT, Int.reduceNeg, Int.reduceToNat, Int.reduceEq, Int.reduceAdd, Int.reduceSub, Int.reduceMul, Int.reduceBEq, Int.reduceBNe, bm_box, bm_row, bk_box, bk_row])
    | (exact retS_of rfl rfl rfl)
    | (refine DW.cond_tt rfl ?_)
    | (refine DW.cond_ff rfl ?_)
    | (refine DW.cond rfl ?_ ?_ <;> intro hc <;> (try simp only [go_sem] at hc))
    | (refine g_split ?_ ?_ <;> intro hc <;> (try simp only [hc]) <;> (try simp only [go_sem] at hc)))
        refine ⟨⟨(i + 1, (stp b (v, wholeI s m)).2), hlt, hlv4 rfl, hrun⟩, by (show _ < _; (try simp only); omega), Ent.toH (o := [_]) (o' := [_]) (hH _) ?_ ?_ ?_⟩
        · rfl
        · simp (disch := omega) only [wkT_cons, wkX_cons, wkT_nil, wkX_nil, get, Nat.reduceEqDiff, ↓reduceIte, ex_some, wk_self, wk_top, wk_nil, wkB_self, and_self, dI, i64_in, and_true, true_and, Int.natCast_add, Int.natCast_one, Int.ofNat_zero, Int.natCast_zero]
        · simp (disch := omega) only [wkT_cons, wkX_cons, wkT_nil, wkX_nil, get, Nat.reduceEqDiff, ↓reduceIte, ex_some, wk_self, wk_top, wk_nil, wkB_self, and_self, dI, i64_in, and_true, true_and, Int.natCast_add, Int.natCast_one, Int.ofNat_zero, Int.natCast_zero]
      | false =>
        rw [hs] at hrun
        simp (disch := omega) only [go_sem, Nat.reduceLT, Nat.reduceLeDiff, Nat.reduceAdd, Nat.reduceMul, Nat.reduceEqDiff, ↓reduceIte, reduceCtorEq, Nat.reduceBEq, Nat.reduceBNe, Nat.reducePow, Int.reduceLE, Int.reduceLT, Int.reduceNeg, Int.reduceToNat, Int.reduceEq, Int.reduceAdd, Int.reduceSub, Int.reduceMul, Int.reduceBEq, Int.reduceBNe, bm_box, bm_row, bk_box, bk_row]
        repeat' (first
    | (with_reducible refine DW.seq ?_)
    | (with_reducible refine DW.block ?_)
    | (with_reducible refine DW.skip ?_)
    | (with_reducible refine DW.exit ?_)
    | (with_reducible refine DW.ret ?_)
    | (with_reducible refine DW.reg ?_)
    | (refine DW.dreg rfl (WF.of (by first | rfl | simp (disch := omega) only [go_sem, Nat.reduceLT, Nat.reduceLeDiff, Nat.reduceAdd, Nat.reduceMul, Nat.reduceEqDiff, ↓reduceIte, reduceCtorEq, Nat.reduceBEq, Nat.reduceBNe, Nat.reducePow, Int.reduceLE, Int.reduceLT, Int.reduceNeg, Int.reduceToNat, Int.reduceEq, Int.reduceAdd, Int.reduceSub, Int.reduceMul, Int.reduceBEq, Int.reduceBNe, bm_box, bm_row, bk_box, bk_row])) ?_)
    | (simp (disch := omega) only [go_sem, Nat.reduceLT, Nat.reduceLeDiff, Nat.reduceAdd, Nat.reduceMul, Nat.reduceEqDiff, ↓reduceIte, reduceCtorEq, Nat.reduceBEq, Nat.reduceBNe, Nat.reducePow, Int.reduceLE, Int.reduceLT, Int.reduceNeg, Int.reduceToNat, Int.reduceEq, Int.reduceAdd, Int.reduceSub, Int.reduceMul, Int.reduceBEq, Int.reduceBNe, bm_box, bm_row, bk_box, bk_row])
    | (exact retS_of rfl rfl rfl)
    | (refine DW.cond_tt rfl ?_)
    | (refine DW.cond_ff rfl ?_)
    | (refine DW.cond rfl ?_ ?_ <;> intro hc <;> (try simp only [go_sem] at hc))
    | (refine g_split ?_ ?_ <;> intro hc <;> (try simp only [hc]) <;> (try simp only [go_sem] at hc)))
        rw [hrun]
        exact retS_hid (own := [_]) (.inl rfl) (hH _) rfl
    · obtain ⟨hfv, hfs⟩ := flute_at h hlt ho
      have hpe : partsAt s m i = (wholeI s m).tdiv (fluAt s (m.flutes[i / 2]?.getD 0)).pitch * (fluAt s (m.flutes[i / 2]?.getD 0)).draw := by rw [partsAt, if_pos ho]
      rw [hpe] at hyc hrun hlv4 hpb
      rw [ho] at hrem
      generalize m.flutes[i / 2]?.getD 0 = z at *
      have hzv := nL_at hfv
      have hzf := fluAt_get hfs
      have hfo := fluAt_ok hs hfs
      have h1 := hfo.pitch
      have h2 := hfo.draw
      generalize fluAt s z = f at *
      have h0 : (f.pitch = 0) = False := eq_false (by omega)
      have hq : 0 ≤ (wholeI s m).tdiv f.pitch ∧ (wholeI s m).tdiv f.pitch ≤ 100000000 := by
        rw [Int.tdiv_eq_ediv_of_nonneg (by omega)]
        exact ⟨Int.ediv_nonneg (by omega) (by omega), Int.le_trans (Int.ediv_le_self _ (by omega)) hw.2⟩
      have hl2 : (nL m.flutes).length = m.flutes.length := nL_length _
      repeat' (first
    | (with_reducible refine DW.seq ?_)
    | (with_reducible refine DW.block ?_)
    | (with_reducible refine DW.skip ?_)
    | (with_reducible refine DW.exit ?_)
    | (with_reducible refine DW.ret ?_)
    | (with_reducible refine DW.reg ?_)
    | (refine DW.dreg rfl (WF.of (by first | rfl | simp (disch := omega) only [go_sem, Nat.reduceLT, Nat.reduceLeDiff, Nat.reduceAdd, Nat.reduceMul, Nat.reduceEqDiff, ↓reduceIte, reduceCtorEq, Nat.reduceBEq, Nat.reduceBNe, Nat.reducePow, Int.reduceLE, Int.reduceLT, Int.reduceNeg, Int.reduceToNat, Int.reduceEq, Int.reduceAdd, Int.reduceSub, Int.reduceMul, Int.reduceBEq, Int.reduceBNe, bm_box, bm_row, bk_box, bk_row, hd, hv', hrem, hquo, hzv, hzf, h0, g3, g4, g5, g6, hl2, List.map_cons, List.map_nil])) ?_)
    | (simp (disch := omega) only [go_sem, Nat.reduceLT, Nat.reduceLeDiff, Nat.reduceAdd, Nat.reduceMul, Nat.reduceEqDiff, ↓reduceIte, reduceCtorEq, Nat.reduceBEq, Nat.reduceBNe, Nat.reducePow, Int.reduceLE, Int.reduceLT, Int.reduceNeg, Int.reduceToNat, Int.reduceEq, Int.reduceAdd, Int.reduceSub, Int.reduceMul, Int.reduceBEq, Int.reduceBNe, bm_box, bm_row, bk_box, bk_row, hd, hv', hrem, hquo, hzv, hzf, h0, g3, g4, g5, g6, hl2, List.map_cons, List.map_nil])
    | (exact retS_of rfl rfl rfl)
    | (refine DW.cond_tt rfl ?_)
    | (refine DW.cond_ff rfl ?_)
    | (refine DW.cond rfl ?_ ?_ <;> intro hc <;> (try simp only [go_sem] at hc))
    | (refine g_split ?_ ?_ <;> intro hc <;> (try simp only [hc]) <;> (try simp only [go_sem] at hc)))
      refine call_y (own := [_, _]) hyc rfl rfl rfl (hH _) (hH _) (by decide) ?_
      cases hs : (stp b (v, (wholeI s m).tdiv f.pitch * f.draw)).1 with
      | true =>
        rw [hs] at hrun hlv4
        simp (disch := omega) only [go_sem, Nat.reduceLT, Nat.reduceLeDiff, Nat.reduceAdd, Nat.reduceMul, Nat.reduceEqDiff, ↓reduceIte, reduceCtorEq, Nat.reduceBEq, Nat.reduceBNe, Nat.reducePow, Int.reduceLE, Int.reduceLT, Int.reduceNeg, Int.reduceToNat, Int.reduceEq, Int.reduceAdd, Int.reduceSub, Int.reduceMul, Int.reduceBEq, Int.reduceBNe, bm_box, bm_row, bk_box, bk_row]
        repeat' (first
    | (with_reducible refine DW.seq ?_)
    | (with_reducible refine DW.block ?_)
    | (with_reducible refine DW.skip ?_)
    | (with_reducible refine DW.exit ?_)
    | (with_reducible refine DW.ret ?_)
    | (with_reducible refine DW.reg ?_)
    | (refine DW.dreg rfl (WF.of (by first | rfl | simp (disch := omega) only [go_sem, Nat.reduceLT, Nat.reduceLeDiff, Nat.reduceAdd, Nat.reduceMul, Nat.reduceEqDiff, ↓reduceIte, reduceCtorEq, Nat.reduceBEq, Nat.reduceBNe, Nat.reducePow, Int.reduceLE, Int.reduceLT, Int.reduceNeg, Int.reduceToNat, Int.reduceEq, Int.reduceAdd, Int.reduceSub, Int.reduceMul, Int.reduceBEq, Int.reduceBNe, bm_box, bm_row, bk_box, bk_row])) ?_)
    | (simp (disch := omega) only [go_sem, Nat.reduceLT, Nat.reduceLeDiff, Nat.reduceAdd, Nat.reduceMul, Nat.reduceEqDiff, ↓reduceIte, reduceCtorEq, Nat.reduceBEq, Nat.reduceBNe, Nat.reducePow, Int.reduceLE, Int.reduceLT, Int.reduceNeg, Int.reduceToNat, Int.reduceEq, Int.reduceAdd, Int.reduceSub, Int.reduceMul, Int.reduceBEq, Int.reduceBNe, bm_box, bm_row, bk_box, bk_row])
    | (exact retS_of rfl rfl rfl)
    | (refine DW.cond_tt rfl ?_)
    | (refine DW.cond_ff rfl ?_)
    | (refine DW.cond rfl ?_ ?_ <;> intro hc <;> (try simp only [go_sem] at hc))
    | (refine g_split ?_ ?_ <;> intro hc <;> (try simp only [hc]) <;> (try simp only [go_sem] at hc)))
        refine ⟨⟨(i + 1, (stp b (v, (wholeI s m).tdiv f.pitch * f.draw)).2), hlt, hlv4 rfl, hrun⟩, by (show _ < _; (try simp only); omega), Ent.toH (o := [_, _]) (o' := [_]) (hH _) ?_ ?_ ?_⟩
        · rfl
        · simp (disch := omega) only [wkT_cons, wkX_cons, wkT_nil, wkX_nil, get, Nat.reduceEqDiff, ↓reduceIte, ex_some, wk_self, wk_top, wk_nil, wkB_self, and_self, dI, i64_in, and_true, true_and, Int.natCast_add, Int.natCast_one, Int.ofNat_zero, Int.natCast_zero]
        · simp (disch := omega) only [wkT_cons, wkX_cons, wkT_nil, wkX_nil, get, Nat.reduceEqDiff, ↓reduceIte, ex_some, wk_self, wk_top, wk_nil, wkB_self, and_self, dI, i64_in, and_true, true_and, Int.natCast_add, Int.natCast_one, Int.ofNat_zero, Int.natCast_zero]
      | false =>
        rw [hs] at hrun
        simp (disch := omega) only [go_sem, Nat.reduceLT, Nat.reduceLeDiff, Nat.reduceAdd, Nat.reduceMul, Nat.reduceEqDiff, ↓reduceIte, reduceCtorEq, Nat.reduceBEq, Nat.reduceBNe, Nat.reducePow, Int.reduceLE, Int.reduceLT, Int.reduceNeg, Int.reduceToNat, Int.reduceEq, Int.reduceAdd, Int.reduceSub, Int.reduceMul, Int.reduceBEq, Int.reduceBNe, bm_box, bm_row, bk_box, bk_row]
        repeat' (first
    | (with_reducible refine DW.seq ?_)
    | (with_reducible refine DW.block ?_)
    | (with_reducible refine DW.skip ?_)
    | (with_reducible refine DW.exit ?_)
    | (with_reducible refine DW.ret ?_)
    | (with_reducible refine DW.reg ?_)
    | (refine DW.dreg rfl (WF.of (by first | rfl | simp (disch := omega) only [go_sem, Nat.reduceLT, Nat.reduceLeDiff, Nat.reduceAdd, Nat.reduceMul, Nat.reduceEqDiff, ↓reduceIte, reduceCtorEq, Nat.reduceBEq, Nat.reduceBNe, Nat.reducePow, Int.reduceLE, Int.reduceLT, Int.reduceNeg, Int.reduceToNat, Int.reduceEq, Int.reduceAdd, Int.reduceSub, Int.reduceMul, Int.reduceBEq, Int.reduceBNe, bm_box, bm_row, bk_box, bk_row])) ?_)
    | (simp (disch := omega) only [go_sem, Nat.reduceLT, Nat.reduceLeDiff, Nat.reduceAdd, Nat.reduceMul, Nat.reduceEqDiff, ↓reduceIte, reduceCtorEq, Nat.reduceBEq, Nat.reduceBNe, Nat.reducePow, Int.reduceLE, Int.reduceLT, Int.reduceNeg, Int.reduceToNat, Int.reduceEq, Int.reduceAdd, Int.reduceSub, Int.reduceMul, Int.reduceBEq, Int.reduceBNe, bm_box, bm_row, bk_box, bk_row])
    | (exact retS_of rfl rfl rfl)
    | (refine DW.cond_tt rfl ?_)
    | (refine DW.cond_ff rfl ?_)
    | (refine DW.cond rfl ?_ ?_ <;> intro hc <;> (try simp only [go_sem] at hc))
    | (refine g_split ?_ ?_ <;> intro hc <;> (try simp only [hc]) <;> (try simp only [go_sem] at hc)))
        rw [hrun]
        exact retS_hid (own := [_, _]) (.inl rfl) (hH _) rfl
  · obtain rfl : i = m.papers.length := by omega
    have hd : decide ((m.papers.length : Int) < (m.papers.length : Int)) = false := by rw [decide_eq_false_iff_not]; omega
    rw [List.drop_of_length_le (by rw [layersL_len]; omega)] at hrun
    simp only [runB] at hrun
    repeat' (first
    | (with_reducible refine DW.seq ?_)
    | (with_reducible refine DW.block ?_)
    | (with_reducible refine DW.skip ?_)
    | (with_reducible refine DW.exit ?_)
    | (with_reducible refine DW.ret ?_)
    | (with_reducible refine DW.reg ?_)
    | (refine DW.dreg rfl (WF.of (by first | rfl | simp (disch := omega) only [go_sem, Nat.reduceLT, Nat.reduceLeDiff, Nat.reduceAdd, Nat.reduceMul, Nat.reduceEqDiff, ↓reduceIte, reduceCtorEq, Nat.reduceBEq, Nat.reduceBNe, Nat.reducePow, Int.reduceLE, Int.reduceLT, Int.reduceNeg, Int.reduceToNat, Int.reduceEq, Int.reduceAdd, Int.reduceSub, Int.reduceMul, Int.reduceBEq, Int.reduceBNe, bm_box, bm_row, bk_box, bk_row, hd])) ?_)
    | (simp (disch := omega) only [go_sem, Nat.reduceLT, Nat.reduceLeDiff, Nat.reduceAdd, Nat.reduceMul, Nat.reduceEqDiff, ↓reduceIte, reduceCtorEq, Nat.reduceBEq, Nat.reduceBNe, Nat.reducePow, Int.reduceLE, Int.reduceLT, Int.reduceNeg, Int.reduceToNat, Int.reduceEq, Int.reduceAdd, Int.reduceSub, Int.reduceMul, Int.reduceBEq, Int.reduceBNe, bm_box, bm_row, bk_box, bk_row, hd])
    | (exact retS_of rfl rfl rfl)
    | (refine DW.cond_tt rfl ?_)
    | (refine DW.cond_ff rfl ?_)
    | (refine DW.cond rfl ?_ ?_ <;> intro hc <;> (try simp only [go_sem] at hc))
    | (refine g_split ?_ ?_ <;> intro hc <;> (try simp only [hc]) <;> (try simp only [go_sem] at hc)))
    rw [hrun]
    exact retS_hid (own := [_]) (.inr rfl) (hH _) rfl
end Go.Dw.Seat
end
section
set_option linter.unusedSimpArgs false
set_option maxRecDepth 100000
namespace Go.Dw.Seat
open Go Go.Dw Go.Proofs Go.IntWalk
def sumS (f : Pap → Int) (s : Sto) (n : Int) (e : Nat × Int) : Option Exit × Int := (none, IntKind.i64.wrap (n + f (papAt s e.1) * e.2))
def sumF (f : Pap → Int) (s : Sto) (n : Int) (l : List (Nat × Int)) : Int := l.foldl (fun n e => n + f (papAt s e.1) * e.2) n
def sumI (f : Pap → Int) (s : Sto) (m : Mak) : Int := sumF f s 0 (layersL s m)
theorem sumS_run (f : Pap → Int) (s : Sto) (hf : ∀ p ∈ s.papers, 0 ≤ f p ∧ f p ≤ 1000000000) : ∀ (l : List (Nat × Int)) (n : Int), (∀ e ∈ l, okLay s e) → 0 ≤ n → n + 200000000000000000 * (l.length : Int) ≤ 9000000000000000000 →
    runIt (sumS f s) n l = (none, sumF f s n l) ∧ n ≤ sumF f s n l ∧ sumF f s n l ≤ n + 200000000000000000 * (l.length : Int)
  | [], n, _, _, _ => ⟨rfl, Int.le_refl _, by simp [sumF]⟩
  | e :: l, n, ho, h0, hn => by
    have he := ho e (by simp)
    have hfe := hf _ (List.mem_of_getElem? (papAt_get he.1))
    have hm := mulB0 (a := f (papAt s e.1)) (b := e.2) (A := 1000000000) (B := 200000000) hfe he.2
    rw [List.length_cons, Int.natCast_add, Int.natCast_one, Int.mul_add] at hn
    have hw : IntKind.i64.wrap (n + f (papAt s e.1) * e.2) = n + f (papAt s e.1) * e.2 := i64_in _ (by omega)
    have ih := sumS_run f s hf l (n + f (papAt s e.1) * e.2) (fun x hx => ho x (by simp [hx])) (by omega) (by omega)
    have hs : sumF f s n (e :: l) = sumF f s (n + f (papAt s e.1) * e.2) l := rfl
    rw [hs]
    simp only [runIt, sumS, hw]
    refine ⟨ih.1, by omega, ?_⟩
    rw [List.length_cons, Int.natCast_add, Int.natCast_one, Int.mul_add]
    omega
theorem layers_ok {s : Sto} {m : Mak} (hs : s.ok) (h : m.ok s) : ∀ e ∈ layersL s m, okLay s e := by
  intro e he
  obtain ⟨i, hi⟩ := List.getElem?_of_mem he
  have hlt : i < m.papers.length := by
    rcases Nat.lt_or_ge i m.papers.length with h | h
    · exact h
    · rw [List.getElem?_eq_none (by rw [layersL_len]; exact h)] at hi; cases hi
  obtain ⟨v, hv⟩ := getE (l := m.papers) (i := i) hlt
  rw [layersL_get hv] at hi
  cases hi
  exact ⟨h.papers v (List.mem_of_getElem? hv), partsAt_b hs h hlt⟩
theorem sumI_b {s : Sto} {m : Mak} (hs : s.ok) (h : m.ok s) (f : Pap → Int) (hf : ∀ p ∈ s.papers, 0 ≤ f p ∧ f p ≤ 1000000000) : runIt (sumS f s) 0 (layersL s m) = (none, sumI f s m) ∧ 0 ≤ sumI f s m ∧ sumI f s m ≤ 1000000000000000000 := by
  have hn : (layersL s m).length ≤ 5 := by rw [layersL_len]; have := h.np; have := h.nf; omega
  have := sumS_run f s hf (layersL s m) 0 (layers_ok hs h) (Int.le_refl _) (by omega)
  exact ⟨this.1, this.2.1, by have := this.2.2; unfold sumI; omega⟩
theorem closeDs_mapc {σ : St} {mv : Option Nat} {caps : List C} : closeDs σ mv (caps.map D.c) = some (caps.map D.c) := by
  have := @closeDs_fn _ σ mv [] caps []
  simpa [closeDs] using this
theorem bdSum (s : Sto) (m : Mak) (hs : s.ok) (h : m.ok s) (g : FuncId) (caps : List C) (hcn : C.nbs caps = true) (f : Pap → Int) (hf : ∀ p ∈ s.papers, 0 ≤ f p ∧ f p ≤ 1000000000)
    (hp : ∀ p ∈ s.papers, DCall Try.prog g (.agg ((eP p).map D.c) :: caps.map D.c) [] (dI (f p)) []) : DCall Try.prog 60 [dShe s m (wholeI s m), .c (.fn (.func g) [] caps)] [] (dI (sumI f s m)) [] := by
  have hit := bdLayers s m hs h
  have hsum := sumI_b hs h f hf
  have hnp := hs.np
  refine DCall.of Try.func60 sf60 hb60 (Nat.le_of_ble_eq_true rfl) (okRes_nil fun _ => rfl) ?_; simp only [s60, idxs, Nat.reduceAdd]
  repeat' (first
    | (with_reducible refine DW.seq ?_)
    | (with_reducible refine DW.block ?_)
    | (with_reducible refine DW.skip ?_)
    | (with_reducible refine DW.exit ?_)
    | (with_reducible refine DW.ret ?_)
    | (with_reducible refine DW.reg ?_)
    | (refine DW.dreg rfl (WF.of (by first | rfl | simp (disch := omega) only [go_sem, Nat.reduceLT, Nat.reduceLeDiff, Nat.reduceAdd, Nat.reduceMul, Nat.reduceEqDiff, ↓reduceIte, reduceCtorEq, Nat.reduceBEq, Nat.reduceBNe, Nat.reducePow, Int.reduceLE, Int.reduceLT, Int.reduceNeg, Int.reduceToNat, Int.reduceEq, Int.reduceAdd, Int.reduceSub, Int.reduceMul, Int.reduceBEq, Int.reduceBNe, Blk.men, Blk.keysIn])) ?_)
    | (simp (disch := omega) only [go_sem, Nat.reduceLT, Nat.reduceLeDiff, Nat.reduceAdd, Nat.reduceMul, Nat.reduceEqDiff, ↓reduceIte, reduceCtorEq, Nat.reduceBEq, Nat.reduceBNe, Nat.reducePow, Int.reduceLE, Int.reduceLT, Int.reduceNeg, Int.reduceToNat, Int.reduceEq, Int.reduceAdd, Int.reduceSub, Int.reduceMul, Int.reduceBEq, Int.reduceBNe, Blk.men, Blk.keysIn])
    | (exact retS_of rfl rfl rfl)
    | (refine DW.cond_tt rfl ?_)
    | (refine DW.cond_ff rfl ?_)
    | (refine DW.cond rfl ?_ ?_ <;> intro hc <;> (try simp only [go_sem] at hc))
    | (refine g_split ?_ ?_ <;> intro hc <;> (try simp only [hc]) <;> (try simp only [go_sem] at hc)))
  refine DW.ent (σ' := ⟨24, [(8, .fn (.func 105) [dShe s m (wholeI s m)] []), (4, .box 4 0), (3, .box 3 0), (2, .box 2 0)], [(4, .box [dI 0]), (3, .box [.c (.fn (.func g) [] caps)]), (2, .box [.c (.sl false 1 (rows eI (nL m.papers))), .c (.sl false 1 (rows eI (nL m.flutes))), .c (.sl false 8 (rows eP s.papers)), .c (.sl false 4 (rows eF s.flutes)), dI (wholeI s m)])]⟩) (Ent.to ?_ ?_) ?_
  · simp (disch := omega) only [wkT_cons, wkX_cons, wkT_nil, wkX_nil, get, Nat.reduceEqDiff, ↓reduceIte, ex_some, wk_self, wk_top, wk_nil, wkB_self, and_self, dI, i64_in, and_true, true_and, Int.natCast_add, Int.natCast_one, Int.ofNat_zero, Int.natCast_zero]
  · simp (disch := omega) only [wkT_cons, wkX_cons, wkT_nil, wkX_nil, get, Nat.reduceEqDiff, ↓reduceIte, ex_some, wk_self, wk_top, wk_nil, wkB_self, and_self, dI, i64_in, and_true, true_and, Int.natCast_add, Int.natCast_one, Int.ofNat_zero, Int.natCast_zero]
  refine DW.rngBD (fun n : Int => [(4, .box [dI n]), (3, .box [.c (.fn (.func g) [] caps)]), (2, .box [.c (.sl false 1 (rows eI (nL m.papers))), .c (.sl false 1 (rows eI (nL m.flutes))), .c (.sl false 8 (rows eP s.papers)), .c (.sl false 4 (rows eF s.flutes)), dI (wholeI s m)])]) 0 (sumS f s) enLay (okLay s) (layersL s m) hit (fun _ => True) trivial (fun _ _ _ _ _ => trivial) rfl (fun _ => ⟨rfl, rfl⟩) rfl (by decide) (fun _ _ => rfl) (fun _ _ _ => rfl) (by simp only [List.map_cons, List.map_nil]; decide) (fun _ => rfl) (fun _ => rfl) (fun _ => (by simp only [List.all_cons, List.all_nil, Blk.nb, rowC_nb, D.nb, D.nbs, C.nb, C.nbs, C.nbss, rows_nb eI_nb, rows_nb eC_nb, rows_nb eL_nb, rows_nb eR_nb, rows_nb eS_nb, rows_nb eG_nb, Bool.and_true, Bool.not_false, Bool.and_self, bD, dI, iD, rows_nb eP_nb, rows_nb eF_nb, hcn])) (by simp only [List.all_cons, List.all_nil, Blk.nb, rowC_nb, D.nb, D.nbs, C.nb, C.nbs, C.nbss, rows_nb eI_nb, rows_nb eC_nb, rows_nb eL_nb, rows_nb eR_nb, rows_nb eS_nb, rows_nb eG_nb, Bool.and_true, Bool.not_false, Bool.and_self, bD, dI, iD, rows_nb eP_nb, rows_nb eF_nb]) (fun _ _ => rfl) ?_ ?_
  · rintro n - ⟨k, parts⟩ he v
    have hk : k < s.papers.length := he.1
    have hpb : 0 ≤ parts ∧ parts ≤ 200000000 := he.2
    have hpk := papAt_get hk
    have hcall := hp _ (List.mem_of_getElem? hpk)
    have hfe := hf _ (List.mem_of_getElem? hpk)
    have hm := mulB0 (a := f (papAt s k)) (b := parts) (A := 1000000000) (B := 200000000) hfe hpb
    have hS : sumS f s n (k, parts) = (none, IntKind.i64.wrap (n + f (papAt s k) * parts)) := rfl
    rw [hS]
    generalize papAt s k = p at *
    simp (disch := omega) only [go_sem, Nat.reduceLT, Nat.reduceLeDiff, Nat.reduceAdd, Nat.reduceMul, Nat.reduceEqDiff, ↓reduceIte, reduceCtorEq, Nat.reduceBEq, Nat.reduceBNe, Nat.reducePow, Int.reduceLE, Int.reduceLT, Int.reduceNeg, Int.reduceToNat, Int.reduceEq, Int.reduceAdd, Int.reduceSub, Int.reduceMul, Int.reduceBEq, Int.reduceBNe, Blk.men, Blk.keysIn]
    repeat' (first
    | (with_reducible refine DW.seq ?_)
    | (with_reducible refine DW.block ?_)
    | (with_reducible refine DW.skip ?_)
    | (with_reducible refine DW.exit ?_)
    | (with_reducible refine DW.ret ?_)
    | (with_reducible refine DW.reg ?_)
    | (refine DW.dreg rfl (WF.of (by first | rfl | simp (disch := omega) only [go_sem, Nat.reduceLT, Nat.reduceLeDiff, Nat.reduceAdd, Nat.reduceMul, Nat.reduceEqDiff, ↓reduceIte, reduceCtorEq, Nat.reduceBEq, Nat.reduceBNe, Nat.reducePow, Int.reduceLE, Int.reduceLT, Int.reduceNeg, Int.reduceToNat, Int.reduceEq, Int.reduceAdd, Int.reduceSub, Int.reduceMul, Int.reduceBEq, Int.reduceBNe, Blk.men, Blk.keysIn, hpk, closeDs_mapc, List.map_cons, List.map_nil])) ?_)
    | (simp (disch := omega) only [go_sem, Nat.reduceLT, Nat.reduceLeDiff, Nat.reduceAdd, Nat.reduceMul, Nat.reduceEqDiff, ↓reduceIte, reduceCtorEq, Nat.reduceBEq, Nat.reduceBNe, Nat.reducePow, Int.reduceLE, Int.reduceLT, Int.reduceNeg, Int.reduceToNat, Int.reduceEq, Int.reduceAdd, Int.reduceSub, Int.reduceMul, Int.reduceBEq, Int.reduceBNe, Blk.men, Blk.keysIn, hpk, closeDs_mapc, List.map_cons, List.map_nil])
    | (exact retS_of rfl rfl rfl)
    | (refine DW.cond_tt rfl ?_)
    | (refine DW.cond_ff rfl ?_)
    | (refine DW.cond rfl ?_ ?_ <;> intro hc <;> (try simp only [go_sem] at hc))
    | (refine g_split ?_ ?_ <;> intro hc <;> (try simp only [hc]) <;> (try simp only [go_sem] at hc)))
    refine call_c hcall (by decide) ?_
    simp (disch := omega) only [go_sem, Nat.reduceLT, Nat.reduceLeDiff, Nat.reduceAdd, Nat.reduceMul, Nat.reduceEqDiff, ↓reduceIte, reduceCtorEq, Nat.reduceBEq, Nat.reduceBNe, Nat.reducePow, Int.reduceLE, Int.reduceLT, Int.reduceNeg, Int.reduceToNat, Int.reduceEq, Int.reduceAdd, Int.reduceSub, Int.reduceMul, Int.reduceBEq, Int.reduceBNe, Blk.men, Blk.keysIn]
    repeat' (first
    | (with_reducible refine DW.seq ?_)
    | (with_reducible refine DW.block ?_)
    | (with_reducible refine DW.skip ?_)
    | (with_reducible refine DW.exit ?_)
    | (with_reducible refine DW.ret ?_)
    | (with_reducible refine DW.reg ?_)
    | (refine DW.dreg rfl (WF.of (by first | rfl | simp (disch := omega) only [go_sem, Nat.reduceLT, Nat.reduceLeDiff, Nat.reduceAdd, Nat.reduceMul, Nat.reduceEqDiff, ↓reduceIte, reduceCtorEq, Nat.reduceBEq, Nat.reduceBNe, Nat.reducePow, Int.reduceLE, Int.reduceLT, Int.reduceNeg, Int.reduceToNat, Int.reduceEq, Int.reduceAdd, Int.reduceSub, Int.reduceMul, Int.reduceBEq, Int.reduceBNe, Blk.men, Blk.keysIn])) ?_)
    | (simp (disch := omega) only [go_sem, Nat.reduceLT, Nat.reduceLeDiff, Nat.reduceAdd, Nat.reduceMul, Nat.reduceEqDiff, ↓reduceIte, reduceCtorEq, Nat.reduceBEq, Nat.reduceBNe, Nat.reducePow, Int.reduceLE, Int.reduceLT, Int.reduceNeg, Int.reduceToNat, Int.reduceEq, Int.reduceAdd, Int.reduceSub, Int.reduceMul, Int.reduceBEq, Int.reduceBNe, Blk.men, Blk.keysIn])
    | (exact retS_of rfl rfl rfl)
    | (refine DW.cond_tt rfl ?_)
    | (refine DW.cond_ff rfl ?_)
    | (refine DW.cond rfl ?_ ?_ <;> intro hc <;> (try simp only [go_sem] at hc))
    | (refine g_split ?_ ?_ <;> intro hc <;> (try simp only [hc]) <;> (try simp only [go_sem] at hc)))
    refine round_end rfl rfl (Ent.to ?_ ?_) <;> simp (disch := omega) only [wkT_cons, wkX_cons, wkT_nil, wkX_nil, get, Nat.reduceEqDiff, ↓reduceIte, ex_some, wk_self, wk_top, wk_nil, wkB_self, and_self, dI, i64_in, and_true, true_and, Int.natCast_add, Int.natCast_one, Int.ofNat_zero, Int.natCast_zero, capB, List.cons_append, List.nil_append]
  · rw [hsum.1]
    simp (disch := omega) only [go_sem, Nat.reduceLT, Nat.reduceLeDiff, Nat.reduceAdd, Nat.reduceMul, Nat.reduceEqDiff, ↓reduceIte, reduceCtorEq, Nat.reduceBEq, Nat.reduceBNe, Nat.reducePow, Int.reduceLE, Int.reduceLT, Int.reduceNeg, Int.reduceToNat, Int.reduceEq, Int.reduceAdd, Int.reduceSub, Int.reduceMul, Int.reduceBEq, Int.reduceBNe, Blk.men, Blk.keysIn, Option.getD_none]
    repeat' (first
    | (with_reducible refine DW.seq ?_)
    | (with_reducible refine DW.block ?_)
    | (with_reducible refine DW.skip ?_)
    | (with_reducible refine DW.exit ?_)
    | (with_reducible refine DW.ret ?_)
    | (with_reducible refine DW.reg ?_)
    | (refine DW.dreg rfl (WF.of (by first | rfl | simp (disch := omega) only [go_sem, Nat.reduceLT, Nat.reduceLeDiff, Nat.reduceAdd, Nat.reduceMul, Nat.reduceEqDiff, ↓reduceIte, reduceCtorEq, Nat.reduceBEq, Nat.reduceBNe, Nat.reducePow, Int.reduceLE, Int.reduceLT, Int.reduceNeg, Int.reduceToNat, Int.reduceEq, Int.reduceAdd, Int.reduceSub, Int.reduceMul, Int.reduceBEq, Int.reduceBNe, Blk.men, Blk.keysIn])) ?_)
    | (simp (disch := omega) only [go_sem, Nat.reduceLT, Nat.reduceLeDiff, Nat.reduceAdd, Nat.reduceMul, Nat.reduceEqDiff, ↓reduceIte, reduceCtorEq, Nat.reduceBEq, Nat.reduceBNe, Nat.reducePow, Int.reduceLE, Int.reduceLT, Int.reduceNeg, Int.reduceToNat, Int.reduceEq, Int.reduceAdd, Int.reduceSub, Int.reduceMul, Int.reduceBEq, Int.reduceBNe, Blk.men, Blk.keysIn])
    | (exact retS_of rfl rfl rfl)
    | (refine DW.cond_tt rfl ?_)
    | (refine DW.cond_ff rfl ?_)
    | (refine DW.cond rfl ?_ ?_ <;> intro hc <;> (try simp only [go_sem] at hc))
    | (refine g_split ?_ ?_ <;> intro hc <;> (try simp only [hc]) <;> (try simp only [go_sem] at hc)))
theorem bdStrong (p : Pap) : DCall Try.prog 90 [.agg ((eP p).map D.c)] [] (dI p.strong) [] := by
  refine DCall.of Try.func90 sf90 hb90 (Nat.le_of_ble_eq_true rfl) (okRes_nil fun _ => rfl) ?_; simp only [s90, idxs, Nat.reduceAdd]
  repeat' (first
    | (with_reducible refine DW.seq ?_)
    | (with_reducible refine DW.block ?_)
    | (with_reducible refine DW.skip ?_)
    | (with_reducible refine DW.exit ?_)
    | (with_reducible refine DW.ret ?_)
    | (with_reducible refine DW.reg ?_)
    | (simp (disch := omega) only [go_sem, Nat.reduceLT, Nat.reduceLeDiff, Nat.reduceAdd, Nat.reduceMul, Nat.reduceEqDiff, ↓reduceIte, reduceCtorEq, Nat.reduceBEq, Nat.reduceBNe, Nat.reducePow, Int.reduceLE, Int.reduceLT, Int.reduceNeg, Int.reduceToNat, Int.reduceEq, Int.reduceAdd, Int.reduceSub, Int.reduceMul, Int.reduceBEq, Int.reduceBNe, Blk.men, Blk.keysIn, List.map_cons, List.map_nil])
    | (exact retS_of rfl rfl rfl)
    | (refine DW.cond_tt rfl ?_)
    | (refine DW.cond_ff rfl ?_)
    | (refine DW.cond rfl ?_ ?_ <;> intro hc <;> (try simp only [go_sem] at hc))
    | (refine g_split ?_ ?_ <;> intro hc <;> (try simp only [hc]) <;> (try simp only [go_sem] at hc)))
theorem bdLow (lo hi : Int) : DCall Try.prog 86 [.agg [dI lo, dI hi]] [] (dI lo) [] := by
  refine DCall.of Try.func86 sf86 hb86 (Nat.le_of_ble_eq_true rfl) (okRes_nil fun _ => rfl) ?_; simp only [s86, idxs, Nat.reduceAdd]
  repeat' (first
    | (with_reducible refine DW.seq ?_)
    | (with_reducible refine DW.block ?_)
    | (with_reducible refine DW.skip ?_)
    | (with_reducible refine DW.exit ?_)
    | (with_reducible refine DW.ret ?_)
    | (with_reducible refine DW.reg ?_)
    | (simp (disch := omega) only [go_sem, Nat.reduceLT, Nat.reduceLeDiff, Nat.reduceAdd, Nat.reduceMul, Nat.reduceEqDiff, ↓reduceIte, reduceCtorEq, Nat.reduceBEq, Nat.reduceBNe, Nat.reducePow, Int.reduceLE, Int.reduceLT, Int.reduceNeg, Int.reduceToNat, Int.reduceEq, Int.reduceAdd, Int.reduceSub, Int.reduceMul, Int.reduceBEq, Int.reduceBNe, Blk.men, Blk.keysIn])
    | (exact retS_of rfl rfl rfl)
    | (refine DW.cond_tt rfl ?_)
    | (refine DW.cond_ff rfl ?_)
    | (refine DW.cond rfl ?_ ?_ <;> intro hc <;> (try simp only [go_sem] at hc))
    | (refine g_split ?_ ?_ <;> intro hc <;> (try simp only [hc]) <;> (try simp only [go_sem] at hc)))
theorem bdHigh (lo hi : Int) : DCall Try.prog 87 [.agg [dI lo, dI hi]] [] (dI hi) [] := by
  refine DCall.of Try.func87 sf87 hb87 (Nat.le_of_ble_eq_true rfl) (okRes_nil fun _ => rfl) ?_; simp only [s87, idxs, Nat.reduceAdd]
  repeat' (first
    | (with_reducible refine DW.seq ?_)
    | (with_reducible refine DW.block ?_)
    | (with_reducible refine DW.skip ?_)
    | (with_reducible refine DW.exit ?_)
    | (with_reducible refine DW.ret ?_)
    | (with_reducible refine DW.reg ?_)
    | (simp (disch := omega) only [go_sem, Nat.reduceLT, Nat.reduceLeDiff, Nat.reduceAdd, Nat.reduceMul, Nat.reduceEqDiff, ↓reduceIte, reduceCtorEq, Nat.reduceBEq, Nat.reduceBNe, Nat.reducePow, Int.reduceLE, Int.reduceLT, Int.reduceNeg, Int.reduceToNat, Int.reduceEq, Int.reduceAdd, Int.reduceSub, Int.reduceMul, Int.reduceBEq, Int.reduceBNe, Blk.men, Blk.keysIn])
    | (exact retS_of rfl rfl rfl)
    | (refine DW.cond_tt rfl ?_)
    | (refine DW.cond_ff rfl ?_)
    | (refine DW.cond rfl ?_ ?_ <;> intro hc <;> (try simp only [go_sem] at hc))
    | (refine g_split ?_ ?_ <;> intro hc <;> (try simp only [hc]) <;> (try simp only [go_sem] at hc)))
structure EndOk (g : FuncId) (ef : Int → Int → Int) : Prop where
  call : ∀ lo hi, DCall Try.prog g [.agg [dI lo, dI hi]] [] (dI (ef lo hi)) []
  mem : ∀ lo hi, lo ≤ hi → lo ≤ ef lo hi ∧ ef lo hi ≤ hi
def moistF (ef : Int → Int → Int) (p : Pap) : Int := p.weight * (1000 + ef p.ml p.mh)
theorem moistF_b {g : FuncId} {ef : Int → Int → Int} (he : EndOk g ef) {p : Pap} (hp : p.ok) : 0 ≤ moistF ef p ∧ moistF ef p ≤ 1000000000 := by
  have h1 := hp.weight
  have h2 := hp.moist
  have h3 := he.mem p.ml p.mh h2.2.1
  have := mulB0 (a := p.weight) (b := 1000 + ef p.ml p.mh) (A := 1000) (B := 1200) (by omega) (by omega)
  unfold moistF
  omega
theorem bdMoist1 (b : Bool) {g : FuncId} {ef : Int → Int → Int} (he : EndOk g ef) (p : Pap) (hp : p.ok) : DCall Try.prog 128 [.agg ((eP p).map D.c), .c (.ro b [.fn (.func g) [] []] 0)] [] (dI (moistF ef p)) [] := by
  have h1 := hp.weight
  have h2 := hp.moist
  have h3 := he.mem p.ml p.mh h2.2.1
  have hm := mulB0 (a := p.weight) (b := 1000 + ef p.ml p.mh) (A := 1000) (B := 1200) (by omega) (by omega)
  have hc := he.call p.ml p.mh
  unfold moistF
  refine DCall.of Try.func128 sf128 hb128 (Nat.le_of_ble_eq_true rfl) (okRes_nil fun _ => rfl) ?_; simp only [s128, idxs, Nat.reduceAdd]
  repeat' (first
    | (with_reducible refine DW.seq ?_)
    | (with_reducible refine DW.block ?_)
    | (with_reducible refine DW.skip ?_)
    | (with_reducible refine DW.exit ?_)
    | (with_reducible refine DW.ret ?_)
    | (with_reducible refine DW.reg ?_)
    | (refine DW.dreg rfl (WF.of (by first | rfl | simp (disch := omega) only [go_sem, Nat.reduceLT, Nat.reduceLeDiff, Nat.reduceAdd, Nat.reduceMul, Nat.reduceEqDiff, ↓reduceIte, reduceCtorEq, Nat.reduceBEq, Nat.reduceBNe, Nat.reducePow, Int.reduceLE, Int.reduceLT, Int.reduceNeg, Int.reduceToNat, Int.reduceEq, Int.reduceAdd, Int.reduceSub, Int.reduceMul, Int.reduceBEq, Int.reduceBNe, Blk.men, Blk.keysIn, List.map_cons, List.map_nil])) ?_)
    | (simp (disch := omega) only [go_sem, Nat.reduceLT, Nat.reduceLeDiff, Nat.reduceAdd, Nat.reduceMul, Nat.reduceEqDiff, ↓reduceIte, reduceCtorEq, Nat.reduceBEq, Nat.reduceBNe, Nat.reducePow, Int.reduceLE, Int.reduceLT, Int.reduceNeg, Int.reduceToNat, Int.reduceEq, Int.reduceAdd, Int.reduceSub, Int.reduceMul, Int.reduceBEq, Int.reduceBNe, Blk.men, Blk.keysIn, List.map_cons, List.map_nil])
    | (exact retS_of rfl rfl rfl)
    | (refine DW.cond_tt rfl ?_)
    | (refine DW.cond_ff rfl ?_)
    | (refine DW.cond rfl ?_ ?_ <;> intro hc <;> (try simp only [go_sem] at hc))
    | (refine g_split ?_ ?_ <;> intro hc <;> (try simp only [hc]) <;> (try simp only [go_sem] at hc)))
  refine call_c hc (by decide) ?_
  simp (disch := omega) only [go_sem, Nat.reduceLT, Nat.reduceLeDiff, Nat.reduceAdd, Nat.reduceMul, Nat.reduceEqDiff, ↓reduceIte, reduceCtorEq, Nat.reduceBEq, Nat.reduceBNe, Nat.reducePow, Int.reduceLE, Int.reduceLT, Int.reduceNeg, Int.reduceToNat, Int.reduceEq, Int.reduceAdd, Int.reduceSub, Int.reduceMul, Int.reduceBEq, Int.reduceBNe, Blk.men, Blk.keysIn]
  repeat' (first
    | (with_reducible refine DW.seq ?_)
    | (with_reducible refine DW.block ?_)
    | (with_reducible refine DW.skip ?_)
    | (with_reducible refine DW.exit ?_)
    | (with_reducible refine DW.ret ?_)
    | (with_reducible refine DW.reg ?_)
    | (refine DW.dreg rfl (WF.of (by first | rfl | simp (disch := omega) only [go_sem, Nat.reduceLT, Nat.reduceLeDiff, Nat.reduceAdd, Nat.reduceMul, Nat.reduceEqDiff, ↓reduceIte, reduceCtorEq, Nat.reduceBEq, Nat.reduceBNe, Nat.reducePow, Int.reduceLE, Int.reduceLT, Int.reduceNeg, Int.reduceToNat, Int.reduceEq, Int.reduceAdd, Int.reduceSub, Int.reduceMul, Int.reduceBEq, Int.reduceBNe, Blk.men, Blk.keysIn])) ?_)
    | (simp (disch := omega) only [go_sem, Nat.reduceLT, Nat.reduceLeDiff, Nat.reduceAdd, Nat.reduceMul, Nat.reduceEqDiff, ↓reduceIte, reduceCtorEq, Nat.reduceBEq, Nat.reduceBNe, Nat.reducePow, Int.reduceLE, Int.reduceLT, Int.reduceNeg, Int.reduceToNat, Int.reduceEq, Int.reduceAdd, Int.reduceSub, Int.reduceMul, Int.reduceBEq, Int.reduceBNe, Blk.men, Blk.keysIn])
    | (exact retS_of rfl rfl rfl)
    | (refine DW.cond_tt rfl ?_)
    | (refine DW.cond_ff rfl ?_)
    | (refine DW.cond rfl ?_ ?_ <;> intro hc <;> (try simp only [go_sem] at hc))
    | (refine g_split ?_ ?_ <;> intro hc <;> (try simp only [hc]) <;> (try simp only [go_sem] at hc)))
def moistI (ef : Int → Int → Int) (s : Sto) (m : Mak) : Int := (sumI (moistF ef) s m).tdiv (1000 * wholeI s m)
theorem tdiv_b {a b : Int} {A : Int} (ha : 0 ≤ a ∧ a ≤ A) (hb : 0 ≤ b) : 0 ≤ a.tdiv b ∧ a.tdiv b ≤ A := by
  rw [Int.tdiv_eq_ediv_of_nonneg ha.1]
  exact ⟨Int.ediv_nonneg ha.1 hb, Int.le_trans (Int.ediv_le_self _ ha.1) ha.2⟩
theorem bdMoist (s : Sto) (m : Mak) (hs : s.ok) (h : m.ok s) {g : FuncId} {ef : Int → Int → Int} (he : EndOk g ef) : DCall Try.prog 88 [dShe s m (wholeI s m), .c (.fn (.func g) [] [])] [] (dI (moistI ef s m)) [] := by
  have hf : ∀ p ∈ s.papers, 0 ≤ moistF ef p ∧ moistF ef p ≤ 1000000000 := fun p hp => moistF_b he (hs.papers p hp)
  have hsum := bdSum s m hs h 128 [.ro false [.fn (.func g) [] []] 0] rfl (moistF ef) hf (fun p hp => bdMoist1 false he p (hs.papers p hp))
  have hb := (sumI_b hs h (moistF ef) hf).2
  have hw := wholeI_b hs h
  have h0 : (1000 * wholeI s m = 0) = False := eq_false (by omega)
  have hq := tdiv_b (b := 1000 * wholeI s m) hb (by omega)
  unfold moistI
  refine DCall.of Try.func88 sf88 hb88 (Nat.le_of_ble_eq_true rfl) (okRes_nil fun _ => rfl) ?_; simp only [s88, idxs, Nat.reduceAdd]
  refine DW.seq (DW.reg ?_)
  simp (disch := omega) only [go_sem, Nat.reduceLT, Nat.reduceLeDiff, Nat.reduceAdd, Nat.reduceMul, Nat.reduceEqDiff, ↓reduceIte, reduceCtorEq, Nat.reduceBEq, Nat.reduceBNe, Nat.reducePow, Int.reduceLE, Int.reduceLT, Int.reduceNeg, Int.reduceToNat, Int.reduceEq, Int.reduceAdd, Int.reduceSub, Int.reduceMul, Int.reduceBEq, Int.reduceBNe, Blk.men, Blk.keysIn]
  (refine DW.ent (Ent.rel 3 rfl) ?_; simp (disch := omega) only [go_sem, Nat.reduceLT, Nat.reduceLeDiff, Nat.reduceAdd, Nat.reduceMul, Nat.reduceEqDiff, ↓reduceIte, reduceCtorEq, Nat.reduceBEq, Nat.reduceBNe, Nat.reducePow, Int.reduceLE, Int.reduceLT, Int.reduceNeg, Int.reduceToNat, Int.reduceEq, Int.reduceAdd, Int.reduceSub, Int.reduceMul, Int.reduceBEq, Int.reduceBNe, Blk.men, Blk.keysIn])
  repeat' (first
    | (with_reducible refine DW.seq ?_)
    | (with_reducible refine DW.block ?_)
    | (with_reducible refine DW.skip ?_)
    | (with_reducible refine DW.exit ?_)
    | (with_reducible refine DW.ret ?_)
    | (with_reducible refine DW.reg ?_)
    | (refine DW.dreg rfl (WF.of (by first | rfl | simp (disch := omega) only [go_sem, Nat.reduceLT, Nat.reduceLeDiff, Nat.reduceAdd, Nat.reduceMul, Nat.reduceEqDiff, ↓reduceIte, reduceCtorEq, Nat.reduceBEq, Nat.reduceBNe, Nat.reducePow, Int.reduceLE, Int.reduceLT, Int.reduceNeg, Int.reduceToNat, Int.reduceEq, Int.reduceAdd, Int.reduceSub, Int.reduceMul, Int.reduceBEq, Int.reduceBNe, Blk.men, Blk.keysIn, h0])) ?_)
    | (simp (disch := omega) only [go_sem, Nat.reduceLT, Nat.reduceLeDiff, Nat.reduceAdd, Nat.reduceMul, Nat.reduceEqDiff, ↓reduceIte, reduceCtorEq, Nat.reduceBEq, Nat.reduceBNe, Nat.reducePow, Int.reduceLE, Int.reduceLT, Int.reduceNeg, Int.reduceToNat, Int.reduceEq, Int.reduceAdd, Int.reduceSub, Int.reduceMul, Int.reduceBEq, Int.reduceBNe, Blk.men, Blk.keysIn, h0])
    | (exact retS_of rfl rfl rfl)
    | (refine DW.cond_tt rfl ?_)
    | (refine call_c (hsum) (by decide) ?_)
    | (refine DW.cond_ff rfl ?_)
    | (refine DW.cond rfl ?_ ?_ <;> intro hc <;> (try simp only [go_sem] at hc))
    | (refine g_split ?_ ?_ <;> intro hc <;> (try simp only [hc]) <;> (try simp only [go_sem] at hc)))
def calP (ef : Int → Int → Int) (s : Sto) (m : Mak) : Nat → Int
  | 0 => 0
  | i + 1 => calP ef s m i + (if i % 2 = 0 then ef (papAt s (m.papers[i]?.getD 0)).tl (papAt s (m.papers[i]?.getD 0)).th else 0)
def calH (ef : Int → Int → Int) (s : Sto) (m : Mak) : Nat → Int
  | 0 => 0
  | i + 1 => calH ef s m i + ef (fluAt s (m.flutes[i]?.getD 0)).hl (fluAt s (m.flutes[i]?.getD 0)).hh
def calI (ef : Int → Int → Int) (s : Sto) (m : Mak) : Int := calP ef s m m.papers.length + calH ef s m m.flutes.length
theorem calP_b {g : FuncId} {ef : Int → Int → Int} (he : EndOk g ef) {s : Sto} {m : Mak} (hs : s.ok) (h : m.ok s) : ∀ i, i ≤ m.papers.length → 0 ≤ calP ef s m i ∧ calP ef s m i ≤ 1000 * (i : Int)
  | 0, _ => by simp [calP]
  | i + 1, hi => by
    have ih := calP_b he hs h i (by omega)
    obtain ⟨v, hv⟩ := getE (l := m.papers) (i := i) (by omega)
    have ho := (papAt_ok hs (h.papers v (List.mem_of_getElem? hv))).thick
    have hm := he.mem _ _ ho.2.1
    rw [calP, hv, Option.getD_some]
    split <;> omega
theorem calH_b {g : FuncId} {ef : Int → Int → Int} (he : EndOk g ef) {s : Sto} {m : Mak} (hs : s.ok) (h : m.ok s) : ∀ i, i ≤ m.flutes.length → 0 ≤ calH ef s m i ∧ calH ef s m i ≤ 10000 * (i : Int)
  | 0, _ => by simp [calH]
  | i + 1, hi => by
    have ih := calH_b he hs h i (by omega)
    obtain ⟨v, hv⟩ := getE (l := m.flutes) (i := i) (by omega)
    have ho := (fluAt_ok hs (h.flutes v (List.mem_of_getElem? hv))).high
    have hm := he.mem _ _ ho.2.1
    rw [calH, hv, Option.getD_some]
    omega
end Go.Dw.Seat
end
section
set_option linter.unusedSimpArgs false
set_option maxRecDepth 100000
namespace Go.Dw.Seat
open Go Go.Dw Go.Proofs Go.IntWalk
theorem bdCaliper (s : Sto) (m : Mak) (hs : s.ok) (h : m.ok s) {g : FuncId} {ef : Int → Int → Int} (he : EndOk g ef) : DCall Try.prog 89 [dShe s m (wholeI s m), .c (.fn (.func g) [] [])] [] (dI (calI ef s m)) [] := by
  have hf := h.nf
  have hn := h.np
  have hl1 : (nL m.papers).length = m.papers.length := nL_length _
  have hl2 : (nL m.flutes).length = m.flutes.length := nL_length _
  refine DCall.of Try.func89 sf89 hb89 (Nat.le_of_ble_eq_true rfl) (okRes_nil fun _ => rfl) ?_; simp only [s89, idxs, Nat.reduceAdd]
  repeat' (first
    | (with_reducible refine DW.seq ?_)
    | (with_reducible refine DW.block ?_)
    | (with_reducible refine DW.skip ?_)
    | (with_reducible refine DW.exit ?_)
    | (with_reducible refine DW.ret ?_)
    | (with_reducible refine DW.reg ?_)
    | (simp (disch := omega) only [go_sem, Nat.reduceLT, Nat.reduceLeDiff, Nat.reduceAdd, Nat.reduceMul, Nat.reduceEqDiff, ↓reduceIte, reduceCtorEq, Nat.reduceBEq, Nat.reduceBNe, Nat.reducePow, Int.reduceLE, Int.reduceLT, Int.reduceNeg, Int.reduceToNat, Int.reduceEq, Int.reduceAdd, Int.reduceSub, Int.reduceMul, Int.reduceBEq, Int.reduceBNe, Blk.men, Blk.keysIn, hl1])
    | (exact retS_of rfl rfl rfl)
    | (refine DW.cond_tt rfl ?_)
    | (refine DW.cond_ff rfl ?_)
    | (refine DW.cond rfl ?_ ?_ <;> intro hc <;> (try simp only [go_sem] at hc))
    | (refine g_split ?_ ?_ <;> intro hc <;> (try simp only [hc]) <;> (try simp only [go_sem] at hc)))
  refine DW.loop (ι := { i : Nat // i ≤ m.papers.length }) (fun i => ⟨54, [(13, dI i.1), (12, dI m.papers.length), (11, .c (.sl false 1 (rows eI (nL m.papers)))), (4, dI (calP ef s m i.1)), (2, .box 2 0), (1, .c (.fn (.func g) [] []))], [(2, .box [.c (.sl false 1 (rows eI (nL m.papers))), .c (.sl false 1 (rows eI (nL m.flutes))), .c (.sl false 8 (rows eP s.papers)), .c (.sl false 4 (rows eF s.flutes)), dI (wholeI s m)])]⟩) (fun i => m.papers.length - i.1) ⟨0, Nat.zero_le _⟩ ?_ ?_
  · refine Ent.to ?_ ?_ <;> simp (disch := omega) only [wkT_cons, wkX_cons, wkT_nil, wkX_nil, get, Nat.reduceEqDiff, ↓reduceIte, ex_some, wk_self, wk_top, wk_nil, wkB_self, and_self, dI, i64_in, and_true, true_and, Int.natCast_add, Int.natCast_one, Int.ofNat_zero, Int.natCast_zero, calP]
  rintro ⟨i, hi⟩
  rcases Nat.lt_or_ge i m.papers.length with hlt | hge
  · have hd : decide ((i : Int) < (m.papers.length : Int)) = true := by rw [decide_eq_true_eq]; omega
    obtain ⟨v, hv⟩ := getE (l := m.papers) (i := i) hlt
    have hv' := nL_at hv
    have hvs := h.papers v (List.mem_of_getElem? hv)
    have hp := papAt_get hvs
    have ho := (papAt_ok hs hvs).thick
    have hcb := calP_b he hs h i hi
    have hnx : calP ef s m (i + 1) = calP ef s m i + (if i % 2 = 0 then ef (papAt s v).tl (papAt s v).th else 0) := by rw [calP, hv, Option.getD_some]
    have hm := he.mem _ _ ho.2.1
    have hcall := he.call (papAt s v).tl (papAt s v).th
    generalize papAt s v = p at *
    have hrem : (i : Int).tmod 2 = ((i % 2 : Nat) : Int) := by rw [Int.tmod_eq_emod_of_nonneg (by omega)]; omega
    rcases (by omega : i % 2 = 0 ∨ i % 2 = 1) with hod | hod
    · rw [hod] at hrem
      rw [if_pos hod] at hnx
      repeat' (first
    | (with_reducible refine DW.seq ?_)
    | (with_reducible refine DW.block ?_)
    | (with_reducible refine DW.skip ?_)
    | (with_reducible refine DW.exit ?_)
    | (with_reducible refine DW.ret ?_)
    | (with_reducible refine DW.reg ?_)
    | (simp (disch := omega) only [go_sem, Nat.reduceLT, Nat.reduceLeDiff, Nat.reduceAdd, Nat.reduceMul, Nat.reduceEqDiff, ↓reduceIte, reduceCtorEq, Nat.reduceBEq, Nat.reduceBNe, Nat.reducePow, Int.reduceLE, Int.reduceLT, Int.reduceNeg, Int.reduceToNat, Int.reduceEq, Int.reduceAdd, Int.reduceSub, Int.reduceMul, Int.reduceBEq, Int.reduceBNe, Blk.men, Blk.keysIn, hd, hv', hp, hrem, List.map_cons, List.map_nil])
    | (exact retS_of rfl rfl rfl)
    | (refine DW.cond_tt rfl ?_)
    | (refine DW.cond_ff rfl ?_)
    | (refine DW.cond rfl ?_ ?_ <;> intro hc <;> (try simp only [go_sem] at hc))
    | (refine g_split ?_ ?_ <;> intro hc <;> (try simp only [hc]) <;> (try simp only [go_sem] at hc)))
      refine call_c hcall (by decide) ?_
      simp (disch := omega) only [go_sem, Nat.reduceLT, Nat.reduceLeDiff, Nat.reduceAdd, Nat.reduceMul, Nat.reduceEqDiff, ↓reduceIte, reduceCtorEq, Nat.reduceBEq, Nat.reduceBNe, Nat.reducePow, Int.reduceLE, Int.reduceLT, Int.reduceNeg, Int.reduceToNat, Int.reduceEq, Int.reduceAdd, Int.reduceSub, Int.reduceMul, Int.reduceBEq, Int.reduceBNe, Blk.men, Blk.keysIn]
      repeat' (first
    | (with_reducible refine DW.seq ?_)
    | (with_reducible refine DW.block ?_)
    | (with_reducible refine DW.skip ?_)
    | (with_reducible refine DW.exit ?_)
    | (with_reducible refine DW.ret ?_)
    | (with_reducible refine DW.reg ?_)
    | (simp (disch := omega) only [go_sem, Nat.reduceLT, Nat.reduceLeDiff, Nat.reduceAdd, Nat.reduceMul, Nat.reduceEqDiff, ↓reduceIte, reduceCtorEq, Nat.reduceBEq, Nat.reduceBNe, Nat.reducePow, Int.reduceLE, Int.reduceLT, Int.reduceNeg, Int.reduceToNat, Int.reduceEq, Int.reduceAdd, Int.reduceSub, Int.reduceMul, Int.reduceBEq, Int.reduceBNe, Blk.men, Blk.keysIn])
    | (exact retS_of rfl rfl rfl)
    | (refine DW.cond_tt rfl ?_)
    | (refine DW.cond_ff rfl ?_)
    | (refine DW.cond rfl ?_ ?_ <;> intro hc <;> (try simp only [go_sem] at hc))
    | (refine g_split ?_ ?_ <;> intro hc <;> (try simp only [hc]) <;> (try simp only [go_sem] at hc)))
      refine ⟨⟨i + 1, hlt⟩, ?_, Ent.to ?_ ?_⟩ <;> first | (show _ < _; (try simp only); omega) | (simp (disch := omega) only [wkT_cons, wkX_cons, wkT_nil, wkX_nil, get, Nat.reduceEqDiff, ↓reduceIte, ex_some, wk_self, wk_top, wk_nil, wkB_self, and_self, dI, i64_in, and_true, true_and, Int.natCast_add, Int.natCast_one, Int.ofNat_zero, Int.natCast_zero,  hnx])
    · rw [hod] at hrem
      rw [if_neg (by omega), Int.add_zero] at hnx
      repeat' (first
    | (with_reducible refine DW.seq ?_)
    | (with_reducible refine DW.block ?_)
    | (with_reducible refine DW.skip ?_)
    | (with_reducible refine DW.exit ?_)
    | (with_reducible refine DW.ret ?_)
    | (with_reducible refine DW.reg ?_)
    | (simp (disch := omega) only [go_sem, Nat.reduceLT, Nat.reduceLeDiff, Nat.reduceAdd, Nat.reduceMul, Nat.reduceEqDiff, ↓reduceIte, reduceCtorEq, Nat.reduceBEq, Nat.reduceBNe, Nat.reducePow, Int.reduceLE, Int.reduceLT, Int.reduceNeg, Int.reduceToNat, Int.reduceEq, Int.reduceAdd, Int.reduceSub, Int.reduceMul, Int.reduceBEq, Int.reduceBNe, Blk.men, Blk.keysIn, hd, hv', hp, hrem, List.map_cons, List.map_nil])
    | (exact retS_of rfl rfl rfl)
    | (refine DW.cond_tt rfl ?_)
    | (refine DW.cond_ff rfl ?_)
    | (refine DW.cond rfl ?_ ?_ <;> intro hc <;> (try simp only [go_sem] at hc))
    | (refine g_split ?_ ?_ <;> intro hc <;> (try simp only [hc]) <;> (try simp only [go_sem] at hc)))
      refine ⟨⟨i + 1, hlt⟩, ?_, Ent.to ?_ ?_⟩ <;> first | (show _ < _; (try simp only); omega) | (simp (disch := omega) only [wkT_cons, wkX_cons, wkT_nil, wkX_nil, get, Nat.reduceEqDiff, ↓reduceIte, ex_some, wk_self, wk_top, wk_nil, wkB_self, and_self, dI, i64_in, and_true, true_and, Int.natCast_add, Int.natCast_one, Int.ofNat_zero, Int.natCast_zero,  hnx])
  · obtain rfl : i = m.papers.length := by omega
    have hd : decide ((m.papers.length : Int) < (m.papers.length : Int)) = false := by rw [decide_eq_false_iff_not]; omega
    have hcb := calP_b he hs h m.papers.length (Nat.le_refl _)
    unfold calI
    generalize calP ef s m m.papers.length = cp at *
    repeat' (first
    | (with_reducible refine DW.seq ?_)
    | (with_reducible refine DW.block ?_)
    | (with_reducible refine DW.skip ?_)
    | (with_reducible refine DW.exit ?_)
    | (with_reducible refine DW.ret ?_)
    | (with_reducible refine DW.reg ?_)
    | (simp (disch := omega) only [go_sem, Nat.reduceLT, Nat.reduceLeDiff, Nat.reduceAdd, Nat.reduceMul, Nat.reduceEqDiff, ↓reduceIte, reduceCtorEq, Nat.reduceBEq, Nat.reduceBNe, Nat.reducePow, Int.reduceLE, Int.reduceLT, Int.reduceNeg, Int.reduceToNat, Int.reduceEq, Int.reduceAdd, Int.reduceSub, Int.reduceMul, Int.reduceBEq, Int.reduceBNe, Blk.men, Blk.keysIn, hd, hl2])
    | (exact retS_of rfl rfl rfl)
    | (refine DW.cond_tt rfl ?_)
    | (refine DW.cond_ff rfl ?_)
    | (refine DW.cond rfl ?_ ?_ <;> intro hc <;> (try simp only [go_sem] at hc))
    | (refine g_split ?_ ?_ <;> intro hc <;> (try simp only [hc]) <;> (try simp only [go_sem] at hc)))
    refine DW.loop (ι := { i : Nat // i ≤ m.flutes.length }) (fun i => ⟨54, [(37, dI i.1), (36, dI m.flutes.length), (35, .c (.sl false 1 (rows eI (nL m.flutes)))), (4, dI (cp + calH ef s m i.1)), (2, .box 2 0), (1, .c (.fn (.func g) [] []))], [(2, .box [.c (.sl false 1 (rows eI (nL m.papers))), .c (.sl false 1 (rows eI (nL m.flutes))), .c (.sl false 8 (rows eP s.papers)), .c (.sl false 4 (rows eF s.flutes)), dI (wholeI s m)])]⟩) (fun i => m.flutes.length - i.1) ⟨0, Nat.zero_le _⟩ ?_ ?_
    · refine Ent.to ?_ ?_ <;> simp (disch := omega) only [wkT_cons, wkX_cons, wkT_nil, wkX_nil, get, Nat.reduceEqDiff, ↓reduceIte, ex_some, wk_self, wk_top, wk_nil, wkB_self, and_self, dI, i64_in, and_true, true_and, Int.natCast_add, Int.natCast_one, Int.ofNat_zero, Int.natCast_zero, calH, Int.add_zero]
    rintro ⟨i, hi⟩
    rcases Nat.lt_or_ge i m.flutes.length with hlt | hge
    · have hd : decide ((i : Int) < (m.flutes.length : Int)) = true := by rw [decide_eq_true_eq]; omega
      obtain ⟨v, hv⟩ := getE (l := m.flutes) (i := i) hlt
      have hv' := nL_at hv
      have hvs := h.flutes v (List.mem_of_getElem? hv)
      have hp := fluAt_get hvs
      have ho := (fluAt_ok hs hvs).high
      have hhb := calH_b he hs h i hi
      have hnx : cp + calH ef s m (i + 1) = cp + calH ef s m i + ef (fluAt s v).hl (fluAt s v).hh := by rw [calH, hv, Option.getD_some]; omega
      have hm := he.mem _ _ ho.2.1
      have hcall := he.call (fluAt s v).hl (fluAt s v).hh
      generalize fluAt s v = p at *
      repeat' (first
    | (with_reducible refine DW.seq ?_)
    | (with_reducible refine DW.block ?_)
    | (with_reducible refine DW.skip ?_)
    | (with_reducible refine DW.exit ?_)
    | (with_reducible refine DW.ret ?_)
    | (with_reducible refine DW.reg ?_)
    | (simp (disch := omega) only [go_sem, Nat.reduceLT, Nat.reduceLeDiff, Nat.reduceAdd, Nat.reduceMul, Nat.reduceEqDiff, ↓reduceIte, reduceCtorEq, Nat.reduceBEq, Nat.reduceBNe, Nat.reducePow, Int.reduceLE, Int.reduceLT, Int.reduceNeg, Int.reduceToNat, Int.reduceEq, Int.reduceAdd, Int.reduceSub, Int.reduceMul, Int.reduceBEq, Int.reduceBNe, Blk.men, Blk.keysIn, hd, hv', hp, List.map_cons, List.map_nil])
    | (exact retS_of rfl rfl rfl)
    | (refine DW.cond_tt rfl ?_)
    | (refine DW.cond_ff rfl ?_)
    | (refine DW.cond rfl ?_ ?_ <;> intro hc <;> (try simp only [go_sem] at hc))
    | (refine g_split ?_ ?_ <;> intro hc <;> (try simp only [hc]) <;> (try simp only [go_sem] at hc)))
      refine call_c hcall (by decide) ?_
      simp (disch := omega) only [go_sem, Nat.reduceLT, Nat.reduceLeDiff, Nat.reduceAdd, Nat.reduceMul, Nat.reduceEqDiff, ↓reduceIte, reduceCtorEq, Nat.reduceBEq, Nat.reduceBNe, Nat.reducePow, Int.reduceLE, Int.reduceLT, Int.reduceNeg, Int.reduceToNat, Int.reduceEq, Int.reduceAdd, Int.reduceSub, Int.reduceMul, Int.reduceBEq, Int.reduceBNe, Blk.men, Blk.keysIn]
      repeat' (first
    | (with_reducible refine DW.seq ?_)
    | (with_reducible refine DW.block ?_)
    | (with_reducible refine DW.skip ?_)
    | (with_reducible refine DW.exit ?_)
    | (with_reducible refine DW.ret ?_)
    | (with_reducible refine DW.reg ?_)
    | (simp (disch := omega) only [go_sem, Nat.reduceLT, Nat.reduceLeDiff, Nat.reduceAdd, Nat.reduceMul, Nat.reduceEqDiff, ↓reduceIte, reduceCtorEq, Nat.reduceBEq, Nat.reduceBNe, Nat.reducePow, Int.reduceLE, Int.reduceLT, Int.reduceNeg, Int.reduceToNat, Int.reduceEq, Int.reduceAdd, Int.reduceSub, Int.reduceMul, Int.reduceBEq, Int.reduceBNe, Blk.men, Blk.keysIn])
    | (exact retS_of rfl rfl rfl)
    | (refine DW.cond_tt rfl ?_)
    | (refine DW.cond_ff rfl ?_)
    | (refine DW.cond rfl ?_ ?_ <;> intro hc <;> (try simp only [go_sem] at hc))
    | (refine g_split ?_ ?_ <;> intro hc <;> (try simp only [hc]) <;> (try simp only [go_sem] at hc)))
      refine ⟨⟨i + 1, hlt⟩, ?_, Ent.to ?_ ?_⟩ <;> first | (show _ < _; (try simp only); omega) | (simp (disch := omega) only [wkT_cons, wkX_cons, wkT_nil, wkX_nil, get, Nat.reduceEqDiff, ↓reduceIte, ex_some, wk_self, wk_top, wk_nil, wkB_self, and_self, dI, i64_in, and_true, true_and, Int.natCast_add, Int.natCast_one, Int.ofNat_zero, Int.natCast_zero,  hnx])
    · obtain rfl : i = m.flutes.length := by omega
      have hd : decide ((m.flutes.length : Int) < (m.flutes.length : Int)) = false := by rw [decide_eq_false_iff_not]; omega
      repeat' (first
    | (with_reducible refine DW.seq ?_)
    | (with_reducible refine DW.block ?_)
    | (with_reducible refine DW.skip ?_)
    | (with_reducible refine DW.exit ?_)
    | (with_reducible refine DW.ret ?_)
    | (with_reducible refine DW.reg ?_)
    | (simp (disch := omega) only [go_sem, Nat.reduceLT, Nat.reduceLeDiff, Nat.reduceAdd, Nat.reduceMul, Nat.reduceEqDiff, ↓reduceIte, reduceCtorEq, Nat.reduceBEq, Nat.reduceBNe, Nat.reducePow, Int.reduceLE, Int.reduceLT, Int.reduceNeg, Int.reduceToNat, Int.reduceEq, Int.reduceAdd, Int.reduceSub, Int.reduceMul, Int.reduceBEq, Int.reduceBNe, Blk.men, Blk.keysIn, hd])
    | (exact retS_of rfl rfl rfl)
    | (refine DW.cond_tt rfl ?_)
    | (refine DW.cond_ff rfl ?_)
    | (refine DW.cond rfl ?_ ?_ <;> intro hc <;> (try simp only [go_sem] at hc))
    | (refine g_split ?_ ?_ <;> intro hc <;> (try simp only [hc]) <;> (try simp only [go_sem] at hc)))
def loE (lo _ : Int) : Int := lo
def hiE (_ hi : Int) : Int := hi
theorem loE_ok : EndOk 86 loE := ⟨bdLow, fun _ _ h => ⟨Int.le_refl _, h⟩⟩
theorem hiE_ok : EndOk 87 hiE := ⟨bdHigh, fun _ _ h => ⟨h, Int.le_refl _⟩⟩
theorem bdMeas (s : Sto) (m : Mak) (hs : s.ok) (h : m.ok s) : DCall Try.prog 49 [dShe s m (wholeI s m)] [] (.tup [.agg [dI (moistI loE s m), dI (moistI hiE s m)], .agg [dI (calI loE s m), dI (calI hiE s m)]]) [] := by
  have h1 := bdMoist s m hs h loE_ok
  have h2 := bdMoist s m hs h hiE_ok
  have h3 := bdCaliper s m hs h loE_ok
  have h4 := bdCaliper s m hs h hiE_ok
  refine DCall.of Try.func49 sf49 hb49 (Nat.le_of_ble_eq_true rfl) (okRes_nil fun _ => rfl) ?_; simp only [s49, idxs, Nat.reduceAdd]
  repeat' (first
    | (with_reducible refine DW.seq ?_)
    | (with_reducible refine DW.block ?_)
    | (with_reducible refine DW.skip ?_)
    | (with_reducible refine DW.exit ?_)
    | (with_reducible refine DW.ret ?_)
    | (with_reducible refine DW.reg ?_)
    | (refine DW.ord rfl (WF.of (by first | rfl | simp (disch := omega) only [go_sem, Nat.reduceLT, Nat.reduceLeDiff, Nat.reduceAdd, Nat.reduceMul, Nat.reduceEqDiff, ↓reduceIte, reduceCtorEq, Nat.reduceBEq, Nat.reduceBNe, Nat.reducePow, Int.reduceLE, Int.reduceLT, Int.reduceNeg, Int.reduceToNat, Int.reduceEq, Int.reduceAdd, Int.reduceSub, Int.reduceMul, Int.reduceBEq, Int.reduceBNe, Blk.men, Blk.keysIn])) ?_ ?_ ?_; rotate_left)
    | rfl
    | (with_reducible refine And.intro ?_ ?_)
    | (simp (disch := omega) only [go_sem, Nat.reduceLT, Nat.reduceLeDiff, Nat.reduceAdd, Nat.reduceMul, Nat.reduceEqDiff, ↓reduceIte, reduceCtorEq, Nat.reduceBEq, Nat.reduceBNe, Nat.reducePow, Int.reduceLE, Int.reduceLT, Int.reduceNeg, Int.reduceToNat, Int.reduceEq, Int.reduceAdd, Int.reduceSub, Int.reduceMul, Int.reduceBEq, Int.reduceBNe, Blk.men, Blk.keysIn])
    | (exact retS_of rfl rfl rfl)
    | (refine DW.cond_tt rfl ?_)
    | (refine call_c (h1) (by decide) ?_)
    | (refine call_c (h2) (by decide) ?_)
    | (refine call_c (h3) (by decide) ?_)
    | (refine call_c (h4) (by decide) ?_)
    | (refine DW.cond_ff rfl ?_)
    | (refine DW.cond rfl ?_ ?_ <;> intro hc <;> (try simp only [go_sem] at hc))
    | (refine g_split ?_ ?_ <;> intro hc <;> (try simp only [hc]) <;> (try simp only [go_sem] at hc)))
theorem bdMeasure (s : Sto) (m : Mak) (hs : s.ok) (h : m.ok s) : DCall Try.prog 17 [dSto s, dMak m] [] (.tup [.agg [dI (moistI loE s m), dI (moistI hiE s m)], .agg [dI (calI loE s m), dI (calI hiE s m)], dI 0]) [] := by
  have h1 := bdNew s m hs h
  have h2 := bdMeas s m hs h
  refine DCall.of Try.func17 sf17 hb17 (Nat.le_of_ble_eq_true rfl) (okRes_nil fun _ => rfl) ?_; simp only [s17, idxs, Nat.reduceAdd]
  repeat' (first
    | (with_reducible refine DW.seq ?_)
    | (with_reducible refine DW.block ?_)
    | (with_reducible refine DW.skip ?_)
    | (with_reducible refine DW.exit ?_)
    | (with_reducible refine DW.ret ?_)
    | (with_reducible refine DW.reg ?_)
    | (refine DW.ord rfl (WF.of (by first | rfl | simp (disch := omega) only [go_sem, Nat.reduceLT, Nat.reduceLeDiff, Nat.reduceAdd, Nat.reduceMul, Nat.reduceEqDiff, ↓reduceIte, reduceCtorEq, Nat.reduceBEq, Nat.reduceBNe, Nat.reducePow, Int.reduceLE, Int.reduceLT, Int.reduceNeg, Int.reduceToNat, Int.reduceEq, Int.reduceAdd, Int.reduceSub, Int.reduceMul, Int.reduceBEq, Int.reduceBNe, Blk.men, Blk.keysIn])) ?_ ?_ ?_; rotate_left)
    | rfl
    | (with_reducible refine And.intro ?_ ?_)
    | (simp (disch := omega) only [go_sem, Nat.reduceLT, Nat.reduceLeDiff, Nat.reduceAdd, Nat.reduceMul, Nat.reduceEqDiff, ↓reduceIte, reduceCtorEq, Nat.reduceBEq, Nat.reduceBNe, Nat.reducePow, Int.reduceLE, Int.reduceLT, Int.reduceNeg, Int.reduceToNat, Int.reduceEq, Int.reduceAdd, Int.reduceSub, Int.reduceMul, Int.reduceBEq, Int.reduceBNe, Blk.men, Blk.keysIn])
    | (exact retS_of rfl rfl rfl)
    | (refine DW.cond_tt rfl ?_)
    | (refine call_c (h1) (by decide) ?_)
    | (refine call_c (h2) (by decide) ?_)
    | (refine DW.cond_ff rfl ?_)
    | (refine DW.cond rfl ?_ ?_ <;> intro hc <;> (try simp only [go_sem] at hc))
    | (refine g_split ?_ ?_ <;> intro hc <;> (try simp only [hc]) <;> (try simp only [go_sem] at hc)))
def strongI (s : Sto) (m : Mak) : Int := (sumI Pap.strong s m).tdiv (wholeI s m)
theorem strong_b {s : Sto} (hs : s.ok) : ∀ p ∈ s.papers, 0 ≤ p.strong ∧ p.strong ≤ 1000000000 := fun p hp => by have := (hs.papers p hp).strong; omega
theorem bdStren (s : Sto) (m : Mak) (hs : s.ok) (h : m.ok s) : DCall Try.prog 50 [dShe s m (wholeI s m)] [] (dI (strongI s m)) [] := by
  have hsum := bdSum s m hs h 90 [] rfl Pap.strong (strong_b hs) (fun p _ => bdStrong p)
  have hb := (sumI_b hs h Pap.strong (strong_b hs)).2
  have hw := wholeI_b hs h
  have h0 : (wholeI s m = 0) = False := eq_false (by omega)
  have hq := tdiv_b (b := wholeI s m) hb (by omega)
  unfold strongI
  refine DCall.of Try.func50 sf50 hb50 (Nat.le_of_ble_eq_true rfl) (okRes_nil fun _ => rfl) ?_; simp only [s50, idxs, Nat.reduceAdd]
  repeat' (first
    | (with_reducible refine DW.seq ?_)
    | (with_reducible refine DW.block ?_)
    | (with_reducible refine DW.skip ?_)
    | (with_reducible refine DW.exit ?_)
    | (with_reducible refine DW.ret ?_)
    | (with_reducible refine DW.reg ?_)
    | (refine DW.dreg rfl (WF.of (by first | rfl | simp (disch := omega) only [go_sem, Nat.reduceLT, Nat.reduceLeDiff, Nat.reduceAdd, Nat.reduceMul, Nat.reduceEqDiff, ↓reduceIte, reduceCtorEq, Nat.reduceBEq, Nat.reduceBNe, Nat.reducePow, Int.reduceLE, Int.reduceLT, Int.reduceNeg, Int.reduceToNat, Int.reduceEq, Int.reduceAdd, Int.reduceSub, Int.reduceMul, Int.reduceBEq, Int.reduceBNe, Blk.men, Blk.keysIn, h0])) ?_)
    | (simp (disch := omega) only [go_sem, Nat.reduceLT, Nat.reduceLeDiff, Nat.reduceAdd, Nat.reduceMul, Nat.reduceEqDiff, ↓reduceIte, reduceCtorEq, Nat.reduceBEq, Nat.reduceBNe, Nat.reducePow, Int.reduceLE, Int.reduceLT, Int.reduceNeg, Int.reduceToNat, Int.reduceEq, Int.reduceAdd, Int.reduceSub, Int.reduceMul, Int.reduceBEq, Int.reduceBNe, Blk.men, Blk.keysIn, h0])
    | (exact retS_of rfl rfl rfl)
    | (refine DW.cond_tt rfl ?_)
    | (refine call_c (hsum) (by decide) ?_)
    | (refine DW.cond_ff rfl ?_)
    | (refine DW.cond rfl ?_ ?_ <;> intro hc <;> (try simp only [go_sem] at hc))
    | (refine g_split ?_ ?_ <;> intro hc <;> (try simp only [hc]) <;> (try simp only [go_sem] at hc)))
theorem bdStrength (s : Sto) (m : Mak) (hs : s.ok) (h : m.ok s) : DCall Try.prog 20 [dSto s, dMak m] [] (.tup [dI (strongI s m), dI 0]) [] := by
  have h1 := bdNew s m hs h
  have h2 := bdStren s m hs h
  refine DCall.of Try.func20 sf20 hb20 (Nat.le_of_ble_eq_true rfl) (okRes_nil fun _ => rfl) ?_; simp only [s20, idxs, Nat.reduceAdd]
  repeat' (first
    | (with_reducible refine DW.seq ?_)
    | (with_reducible refine DW.block ?_)
    | (with_reducible refine DW.skip ?_)
    | (with_reducible refine DW.exit ?_)
    | (with_reducible refine DW.ret ?_)
    | (with_reducible refine DW.reg ?_)
    | (simp (disch := omega) only [go_sem, Nat.reduceLT, Nat.reduceLeDiff, Nat.reduceAdd, Nat.reduceMul, Nat.reduceEqDiff, ↓reduceIte, reduceCtorEq, Nat.reduceBEq, Nat.reduceBNe, Nat.reducePow, Int.reduceLE, Int.reduceLT, Int.reduceNeg, Int.reduceToNat, Int.reduceEq, Int.reduceAdd, Int.reduceSub, Int.reduceMul, Int.reduceBEq, Int.reduceBNe, Blk.men, Blk.keysIn])
    | (exact retS_of rfl rfl rfl)
    | (refine DW.cond_tt rfl ?_)
    | (refine call_c (h1) (by decide) ?_)
    | (refine call_c (h2) (by decide) ?_)
    | (refine DW.cond_ff rfl ?_)
    | (refine DW.cond rfl ?_ ?_ <;> intro hc <;> (try simp only [go_sem] at hc))
    | (refine g_split ?_ ?_ <;> intro hc <;> (try simp only [hc]) <;> (try simp only [go_sem] at hc)))
end Go.Dw.Seat
end
