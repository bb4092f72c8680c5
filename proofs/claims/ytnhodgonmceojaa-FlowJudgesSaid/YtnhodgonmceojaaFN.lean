/- The functions of the program in the form that the abstract memory's laws speak of: printed by program, each checked by the kernel. -/
import Derived.Test.YtnhodgonmceojaaShNb
import Derived.Test.YtnhodgonmceojaaProg
set_option linter.unusedVariables false
namespace Go.Proofs.Ytnhodgonmceojaa.Sh
open Go.RowKit
/-! ### 3: minikin/minikinlaw03.FlowSums: 3 arguments -/
def S3_0 : S := .reg [
    ⟨(some 3), .box 24 2 (.tmp 0), none⟩,
    ⟨(some 6), .mov (.const (.bool false)), none⟩]
def S3_1 : S := .reg [
    ⟨(some 19), .ldN 2 (.tmp 3), none⟩,
    ⟨(some 20), .call (.func 8) [(.tmp 19), (.const (.int .i64 20)), (.const (.int .i64 60))], none⟩,
    ⟨(some 7), .new 24 2, none⟩,
    ⟨none, .st 2 (.tmp 7) (.tmp 20), none⟩]
def S3_2 : S := .reg [
    ⟨(some 21), .off (.tmp 7) 0, none⟩,
    ⟨(some 22), .ld1 (.tmp 21), none⟩,
    ⟨(some 23), .conv .u64 (.tmp 22), none⟩,
    ⟨(some 24), .bin .shl (.const (.int .i64 1)) (.tmp 23), none⟩,
    ⟨(some 25), .bin .sub (.tmp 24) (.const (.int .i64 1)), none⟩,
    ⟨(some 8), .mov (.tmp 25), none⟩]
def S3_3 : S := .reg [
    ⟨(some 26), .mov (.tmp 1), none⟩,
    ⟨(some 27), .mov (.tmp 8), none⟩,
    ⟨(some 28), .bin .and (.tmp 26) (.tmp 27), none⟩,
    ⟨(some 29), .mov (.tmp 2), none⟩,
    ⟨(some 30), .mov (.tmp 8), none⟩,
    ⟨(some 31), .bin .and (.tmp 29) (.tmp 30), none⟩,
    ⟨(some 9), .mov (.tmp 28), none⟩,
    ⟨(some 10), .mov (.tmp 31), none⟩]
def S3_4 : S := .regD <|
    .q 0 false ⟨(some 33), .ldN 2 (.tmp 7), none⟩ <|
    .q 2 false ⟨(some 35), .off (.tmp 7) 0, none⟩ <|
    .q 3 true ⟨(some 36), .ld1 (.tmp 35), none⟩ <|
    .q 4 false ⟨(some 37), .mov (.tmp 9), none⟩ <|
    .m 1 [3] ⟨(some 34), .call (.func 10) [(.tmp 33)], none⟩ <|
    .m 5 [] ⟨(some 38), .call (.func 11) [(.tmp 36), (.tmp 37)], none⟩ <|
    .m 6 [] ⟨(some 39), .call (.func 9) [(.tmp 34), (.tmp 38)], none⟩ <|
    .q 7 false ⟨(some 32), .mov (.tmp 39), none⟩ <|
    .q 8 false ⟨(some 40), .ext (.tmp 32) 0, none⟩ <|
    .q 9 false ⟨(some 41), .ext (.tmp 32) 1, none⟩ <|
    .q 10 false ⟨(some 11), .mov (.tmp 40), none⟩ <|
    .q 11 false ⟨(some 12), .mov (.tmp 41), none⟩ <|
    .fin
def S3_5 : S := .regD <|
    .q 0 false ⟨(some 43), .ldN 2 (.tmp 7), none⟩ <|
    .q 2 false ⟨(some 45), .off (.tmp 7) 0, none⟩ <|
    .q 3 true ⟨(some 46), .ld1 (.tmp 45), none⟩ <|
    .q 4 false ⟨(some 47), .mov (.tmp 10), none⟩ <|
    .m 1 [3] ⟨(some 44), .call (.func 10) [(.tmp 43)], none⟩ <|
    .m 5 [] ⟨(some 48), .call (.func 11) [(.tmp 46), (.tmp 47)], none⟩ <|
    .m 6 [] ⟨(some 49), .call (.func 9) [(.tmp 44), (.tmp 48)], none⟩ <|
    .q 7 false ⟨(some 42), .mov (.tmp 49), none⟩ <|
    .q 8 false ⟨(some 50), .ext (.tmp 42) 0, none⟩ <|
    .q 9 false ⟨(some 51), .ext (.tmp 42) 1, none⟩ <|
    .q 10 false ⟨(some 13), .mov (.tmp 50), none⟩ <|
    .q 11 false ⟨(some 14), .mov (.tmp 51), none⟩ <|
    .fin
def S3_6 : S := .regD <|
    .q 0 false ⟨(some 53), .ldN 2 (.tmp 7), none⟩ <|
    .q 2 false ⟨(some 55), .off (.tmp 7) 0, none⟩ <|
    .q 3 true ⟨(some 56), .ld1 (.tmp 55), none⟩ <|
    .q 4 false ⟨(some 57), .mov (.tmp 9), none⟩ <|
    .q 5 false ⟨(some 58), .mov (.tmp 10), none⟩ <|
    .q 6 false ⟨(some 59), .bin .or (.tmp 57) (.tmp 58), none⟩ <|
    .m 1 [3] ⟨(some 54), .call (.func 10) [(.tmp 53)], none⟩ <|
    .m 7 [] ⟨(some 60), .call (.func 11) [(.tmp 56), (.tmp 59)], none⟩ <|
    .m 8 [] ⟨(some 61), .call (.func 9) [(.tmp 54), (.tmp 60)], none⟩ <|
    .q 9 false ⟨(some 52), .mov (.tmp 61), none⟩ <|
    .q 10 false ⟨(some 62), .ext (.tmp 52) 0, none⟩ <|
    .q 11 false ⟨(some 63), .ext (.tmp 52) 1, none⟩ <|
    .q 12 false ⟨(some 15), .mov (.tmp 62), none⟩ <|
    .q 13 false ⟨(some 16), .mov (.tmp 63), none⟩ <|
    .fin
def S3_7 : S := .regD <|
    .q 0 false ⟨(some 65), .ldN 2 (.tmp 7), none⟩ <|
    .q 2 false ⟨(some 67), .off (.tmp 7) 0, none⟩ <|
    .q 3 true ⟨(some 68), .ld1 (.tmp 67), none⟩ <|
    .q 4 false ⟨(some 69), .mov (.tmp 9), none⟩ <|
    .q 5 false ⟨(some 70), .mov (.tmp 10), none⟩ <|
    .q 6 false ⟨(some 71), .bin .and (.tmp 69) (.tmp 70), none⟩ <|
    .m 1 [3] ⟨(some 66), .call (.func 10) [(.tmp 65)], none⟩ <|
    .m 7 [] ⟨(some 72), .call (.func 11) [(.tmp 68), (.tmp 71)], none⟩ <|
    .m 8 [] ⟨(some 73), .call (.func 9) [(.tmp 66), (.tmp 72)], none⟩ <|
    .q 9 false ⟨(some 64), .mov (.tmp 73), none⟩ <|
    .q 10 false ⟨(some 74), .ext (.tmp 64) 0, none⟩ <|
    .q 11 false ⟨(some 75), .ext (.tmp 64) 1, none⟩ <|
    .q 12 false ⟨(some 17), .mov (.tmp 74), none⟩ <|
    .q 13 false ⟨(some 18), .mov (.tmp 75), none⟩ <|
    .fin
def S3_8 : S := .reg [
    ⟨(some 76), .mov (.tmp 12), none⟩,
    ⟨(some 77), .bin .eql (.tmp 76) (.const (.int .i64 0)), none⟩,
    ⟨(some 78), .mov (.tmp 77), none⟩,
    ⟨(some 79), .mov (.tmp 14), some (78, true)⟩,
    ⟨(some 80), .bin .eql (.tmp 79) (.const (.int .i64 0)), some (78, true)⟩,
    ⟨(some 81), .pick (.tmp 78) (.tmp 80) (.const (.bool false)), none⟩,
    ⟨(some 82), .mov (.tmp 81), none⟩,
    ⟨(some 83), .mov (.tmp 16), some (82, true)⟩,
    ⟨(some 84), .bin .eql (.tmp 83) (.const (.int .i64 0)), some (82, true)⟩,
    ⟨(some 85), .pick (.tmp 82) (.tmp 84) (.const (.bool false)), none⟩,
    ⟨(some 86), .mov (.tmp 85), none⟩,
    ⟨(some 87), .mov (.tmp 18), some (86, true)⟩,
    ⟨(some 88), .bin .eql (.tmp 87) (.const (.int .i64 0)), some (86, true)⟩,
    ⟨(some 89), .pick (.tmp 86) (.tmp 88) (.const (.bool false)), none⟩,
    ⟨(some 90), .mov (.tmp 89), none⟩,
    ⟨(some 91), .mov (.tmp 15), some (90, true)⟩,
    ⟨(some 92), .mov (.tmp 17), some (90, true)⟩,
    ⟨(some 93), .bin .add (.tmp 91) (.tmp 92), some (90, true)⟩,
    ⟨(some 94), .mov (.tmp 11), some (90, true)⟩,
    ⟨(some 95), .mov (.tmp 13), some (90, true)⟩,
    ⟨(some 96), .bin .add (.tmp 94) (.tmp 95), some (90, true)⟩,
    ⟨(some 97), .bin .leq (.tmp 93) (.tmp 96), some (90, true)⟩,
    ⟨(some 98), .pick (.tmp 90) (.tmp 97) (.const (.bool false)), none⟩,
    ⟨(some 99), .mov (.tmp 98), none⟩,
    ⟨(some 100), .call (.func 12) [], some (99, true)⟩,
    ⟨(some 101), .pick (.tmp 99) (.tmp 100) (.const (.bool false)), none⟩,
    ⟨(some 6), .mov (.tmp 101), none⟩]
def S3_9 : S := .seq S3_8 .ret
def S3_10 : S := .seq S3_7 S3_9
def S3_11 : S := .seq S3_6 S3_10
def S3_12 : S := .seq S3_5 S3_11
def S3_13 : S := .seq S3_4 S3_12
def S3_14 : S := .seq S3_3 S3_13
def S3_15 : S := .seq S3_2 S3_14
def S3_16 : S := .seq S3_1 S3_15
def S3_17 : S := .seq S3_0 S3_16
def S3 : S := S3_17
def G3 : List Tmp := [0, 1, 2, 3, 6, 7, 8, 9, 10, 11, 12, 13, 14, 15, 16, 17, 18]
def R3 : List RV := [.tmp 6]
def X3 : XF := ⟨S3, G3, R3, 102⟩
theorem fok3 : FOk Try.prog 3 X3 := ⟨Try.f3, Try.func3, by kernel_rfl, by kernel_rfl, by kernel_rfl, by kernel_rfl⟩

end Go.Proofs.Ytnhodgonmceojaa.Sh
