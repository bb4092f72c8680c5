/- The functions of the program in the form that the abstract memory's laws speak of: printed by program, each checked by the kernel. -/
import Derived.Test.YtnhodgonmceojaaShNb
import Derived.Test.YtnhodgonmceojaaProg
set_option linter.unusedVariables false
namespace Go.Proofs.Ytnhodgonmceojaa.Sh
open Go.RowKit
/-! ### 12: minikin/minikinlaw03.awake: 0 arguments -/
def S12_0 : S := .reg [
    ⟨(some 0), .mov (.const (.bool false)), none⟩]
def S12_1 : S := .reg [
    ⟨(some 8), .build 73 [(0, 1, (.const (.int .i64 0))), (1, 1, (.const (.int .i64 1))), (2, 1, (.const (.int .i64 3)))], none⟩,
    ⟨(some 9), .build 73 [(0, 1, (.const (.int .i64 0))), (1, 1, (.const (.int .i64 2))), (2, 1, (.const (.int .i64 2)))], none⟩,
    ⟨(some 10), .build 73 [(0, 1, (.const (.int .i64 1))), (1, 1, (.const (.int .i64 2))), (2, 1, (.const (.int .i64 1)))], none⟩,
    ⟨(some 11), .build 73 [(0, 1, (.const (.int .i64 1))), (1, 1, (.const (.int .i64 3))), (2, 1, (.const (.int .i64 2)))], none⟩,
    ⟨(some 12), .build 73 [(0, 1, (.const (.int .i64 2))), (1, 1, (.const (.int .i64 3))), (2, 1, (.const (.int .i64 3)))], none⟩,
    ⟨(some 13), .bslice 73 3 5 [(0, 3, (.tmp 8)), (3, 3, (.tmp 9)), (6, 3, (.tmp 10)), (9, 3, (.tmp 11)), (12, 3, (.tmp 12))], none⟩,
    ⟨(some 14), .build 32 [(0, 1, (.const (.int .i64 4))), (1, 1, (.tmp 13))], none⟩,
    ⟨(some 1), .new 32 2, none⟩,
    ⟨none, .st 2 (.tmp 1) (.tmp 14), none⟩]
def S12_2 : S := .reg [
    ⟨(some 16), .ldN 2 (.tmp 1), none⟩,
    ⟨(some 17), .call (.func 14) [(.tmp 16), (.const (.int .i64 0)), (.const (.int .i64 3))], none⟩,
    ⟨(some 15), .mov (.tmp 17), none⟩,
    ⟨(some 18), .ext (.tmp 15) 0, none⟩,
    ⟨(some 19), .ext (.tmp 15) 1, none⟩,
    ⟨(some 20), .ext (.tmp 15) 2, none⟩,
    ⟨(some 2), .mov (.tmp 18), none⟩,
    ⟨(some 3), .mov (.tmp 19), none⟩,
    ⟨(some 4), .mov (.tmp 20), none⟩]
def S12_3 : S := .reg [
    ⟨(some 22), .build 77 [(0, 1, (.const (.int .i64 0))), (1, 1, (.const (.int .i64 1))), (2, 1, (.const (.int .i64 2)))], none⟩,
    ⟨(some 23), .build 77 [(0, 1, (.const (.int .i64 1))), (1, 1, (.const (.int .i64 2))), (2, 1, (.const (.int .i64 3)))], none⟩,
    ⟨(some 24), .build 77 [(0, 1, (.const (.int .i64 2))), (1, 1, (.const (.int .i64 0))), (2, 1, (.const (.int .i64 4)))], none⟩,
    ⟨(some 25), .bslice 77 3 3 [(0, 3, (.tmp 22)), (3, 3, (.tmp 23)), (6, 3, (.tmp 24))], none⟩,
    ⟨(some 26), .build 80 [(0, 1, (.const (.int .i64 3))), (1, 1, (.tmp 25))], none⟩,
    ⟨(some 27), .call (.func 32) [(.tmp 26)], none⟩,
    ⟨(some 21), .mov (.tmp 27), none⟩,
    ⟨(some 28), .ext (.tmp 21) 0, none⟩,
    ⟨(some 29), .ext (.tmp 21) 1, none⟩,
    ⟨(some 30), .ext (.tmp 21) 2, none⟩,
    ⟨(some 5), .mov (.tmp 28), none⟩,
    ⟨(some 6), .mov (.tmp 29), none⟩,
    ⟨(some 7), .mov (.tmp 30), none⟩]
def S12_4 : S := .reg [
    ⟨(some 31), .mov (.tmp 4), none⟩,
    ⟨(some 32), .bin .eql (.tmp 31) (.const (.int .i64 0)), none⟩,
    ⟨(some 33), .mov (.tmp 32), none⟩,
    ⟨(some 34), .mov (.tmp 7), some (33, true)⟩,
    ⟨(some 35), .bin .eql (.tmp 34) (.const (.int .i64 0)), some (33, true)⟩,
    ⟨(some 36), .pick (.tmp 33) (.tmp 35) (.const (.bool false)), none⟩,
    ⟨(some 37), .mov (.tmp 36), none⟩,
    ⟨(some 38), .mov (.tmp 2), some (37, true)⟩,
    ⟨(some 39), .bin .eql (.tmp 38) (.const (.int .i64 5)), some (37, true)⟩,
    ⟨(some 40), .pick (.tmp 37) (.tmp 39) (.const (.bool false)), none⟩,
    ⟨(some 41), .mov (.tmp 40), none⟩,
    ⟨(some 42), .mov (.tmp 3), some (41, true)⟩,
    ⟨(some 43), .len 0 (.tmp 42), some (41, true)⟩,
    ⟨(some 44), .bin .eql (.tmp 43) (.const (.int .i64 5)), some (41, true)⟩,
    ⟨(some 45), .pick (.tmp 41) (.tmp 44) (.const (.bool false)), none⟩,
    ⟨(some 46), .mov (.tmp 45), none⟩,
    ⟨(some 47), .mov (.tmp 5), some (46, true)⟩,
    ⟨(some 48), .bin .eql (.tmp 47) (.const (.int .i64 5)), some (46, true)⟩,
    ⟨(some 49), .pick (.tmp 46) (.tmp 48) (.const (.bool false)), none⟩,
    ⟨(some 50), .mov (.tmp 49), none⟩,
    ⟨(some 51), .mov (.tmp 6), some (50, true)⟩,
    ⟨(some 52), .len 0 (.tmp 51), some (50, true)⟩,
    ⟨(some 53), .bin .eql (.tmp 52) (.const (.int .i64 2)), some (50, true)⟩,
    ⟨(some 54), .pick (.tmp 50) (.tmp 53) (.const (.bool false)), none⟩,
    ⟨(some 55), .mov (.tmp 54), none⟩,
    ⟨(some 56), .mov (.tmp 6), some (55, true)⟩,
    ⟨(some 57), .ixSl 1 (.tmp 56) (.const (.int .i64 1)), some (55, true)⟩,
    ⟨(some 58), .ld1 (.tmp 57), some (55, true)⟩,
    ⟨(some 59), .bin .eql (.tmp 58) (.const (.int .i64 2)), some (55, true)⟩,
    ⟨(some 60), .pick (.tmp 55) (.tmp 59) (.const (.bool false)), none⟩,
    ⟨(some 0), .mov (.tmp 60), none⟩]
def S12_5 : S := .seq S12_4 .ret
def S12_6 : S := .seq S12_3 S12_5
def S12_7 : S := .seq S12_2 S12_6
def S12_8 : S := .seq S12_1 S12_7
def S12_9 : S := .seq S12_0 S12_8
def S12 : S := S12_9
def G12 : List Tmp := [0, 1, 2, 3, 4, 5, 6, 7]
def R12 : List RV := [.tmp 0]
def X12 : XF := ⟨S12, G12, R12, 61⟩
theorem fok12 : FOk Try.prog 12 X12 := ⟨Try.f12, Try.func12, by kernel_rfl, by kernel_rfl, by kernel_rfl, by kernel_rfl⟩

/-! ### 14: minikin/flow.Most: 3 arguments -/
def S14_0 : S := .reg [
    ⟨(some 3), .box 32 2 (.tmp 0), none⟩,
    ⟨(some 6), .mov (.const (.int .i64 0)), none⟩,
    ⟨(some 7), .mov (.const (.slice none 0 0)), none⟩,
    ⟨(some 8), .mov (.const (.int .i64 0)), none⟩]
def S14_1 : S := .reg [
    ⟨(some 13), .ldN 2 (.tmp 3), none⟩,
    ⟨(some 14), .call (.func 29) [(.tmp 13)], none⟩,
    ⟨(some 9), .mov (.tmp 14), none⟩]
def S14_2 : S := .reg [
    ⟨(some 15), .mov (.tmp 9), none⟩,
    ⟨(some 16), .bin .neq (.tmp 15) (.const (.int .i64 0)), none⟩]
def S14_3 : S := .reg [
    ⟨(some 17), .mov (.tmp 9), none⟩,
    ⟨(some 6), .mov (.const (.int .i64 0)), none⟩,
    ⟨(some 7), .mov (.const (.slice none 0 0)), none⟩,
    ⟨(some 8), .mov (.tmp 17), none⟩]
def S14_4 : S := .seq S14_3 .ret
def S14_5 : S := .cond (.tmp 16) S14_4 .skip
def S14_6 : S := .seq S14_2 S14_5
def S14_7 : S := .seq S14_1 S14_6
def S14_8 : S := .reg [
    ⟨(some 18), .off (.tmp 3) 0, none⟩,
    ⟨(some 19), .ld1 (.tmp 18), none⟩,
    ⟨(some 20), .mov (.tmp 1), none⟩,
    ⟨(some 21), .mov (.tmp 2), none⟩,
    ⟨(some 22), .call (.func 33) [(.tmp 19), (.tmp 20), (.tmp 21)], none⟩,
    ⟨(some 23), .not (.tmp 22), none⟩]
def S14_9 : S := .reg [
    ⟨(some 6), .mov (.const (.int .i64 0)), none⟩,
    ⟨(some 7), .mov (.const (.slice none 0 0)), none⟩,
    ⟨(some 8), .mov (.const (.int .i64 1)), none⟩]
def S14_10 : S := .seq S14_9 .ret
def S14_11 : S := .cond (.tmp 23) S14_10 .skip
def S14_12 : S := .seq S14_8 S14_11
def S14_13 : S := .reg [
    ⟨(some 24), .iface 72 (.tmp 3), none⟩,
    ⟨(some 25), .call (.func 34) [(.tmp 24)], none⟩,
    ⟨(some 10), .mov (.tmp 25), none⟩]
def S14_14 : S := .reg [
    ⟨(some 26), .mov (.tmp 10), none⟩,
    ⟨(some 27), .mov (.tmp 1), none⟩,
    ⟨(some 28), .mov (.tmp 2), none⟩,
    ⟨(some 29), .call (.func 35) [(.tmp 26), (.tmp 27), (.tmp 28)], none⟩,
    ⟨(some 6), .mov (.tmp 29), none⟩]
def S14_15 : S := .reg [
    ⟨(some 30), .off (.tmp 3) 1, none⟩,
    ⟨(some 31), .ld1 (.tmp 30), none⟩,
    ⟨(some 32), .len 0 (.tmp 31), none⟩,
    ⟨(some 33), .mov (.const (.int .i64 0)), none⟩]
def S14_16 : S := .reg [
    ⟨(some 34), .bin .lss (.tmp 33) (.tmp 32), none⟩]
def S14_17 : S := .cond (.tmp 34) .skip (.exit 0)
def S14_18 : S := .reg [
    ⟨(some 35), .mov (.tmp 33), none⟩,
    ⟨(some 36), .ixSl 3 (.tmp 31) (.tmp 33), none⟩,
    ⟨(some 37), .ldN 3 (.tmp 36), none⟩,
    ⟨(some 12), .new 73 3, none⟩,
    ⟨(some 11), .mov (.tmp 35), none⟩,
    ⟨none, .st 3 (.tmp 12) (.tmp 37), none⟩]
def S14_19 : S := .regD <|
    .q 0 false ⟨(some 38), .mov (.tmp 7), none⟩ <|
    .q 1 false ⟨(some 39), .off (.tmp 12) 2, none⟩ <|
    .q 2 false ⟨(some 40), .ld1 (.tmp 39), none⟩ <|
    .q 3 false ⟨(some 41), .mov (.tmp 10), none⟩ <|
    .q 4 false ⟨(some 42), .mov (.tmp 11), none⟩ <|
    .q 5 false ⟨(some 43), .bin .mul (.const (.int .i64 2)) (.tmp 42), none⟩ <|
    .q 6 false ⟨(some 44), .nilck (.tmp 41), none⟩ <|
    .q 7 false ⟨(some 45), .off (.tmp 44) 401, none⟩ <|
    .q 8 false ⟨(some 46), .ixArr 400 1 (.tmp 45) (.tmp 43), none⟩ <|
    .q 9 false ⟨(some 47), .ld1 (.tmp 46), none⟩ <|
    .q 10 false ⟨(some 48), .bin .sub (.tmp 40) (.tmp 47), none⟩ <|
    .q 11 false ⟨(some 49), .lit 2 1 1 [(0, 1, (.tmp 48))], none⟩ <|
    .m 12 [] ⟨(some 50), .app1 2 1 8 (.tmp 38) 49, none⟩ <|
    .q 13 false ⟨(some 7), .mov (.tmp 50), none⟩ <|
    .fin
def S14_20 : S := .seq S14_18 S14_19
def S14_21 : S := .block 1 S14_20
def S14_22 : S := .reg [
    ⟨(some 51), .bin .add (.tmp 33) (.const (.int .i64 1)), none⟩,
    ⟨(some 33), .mov (.tmp 51), none⟩]
def S14_23 : S := .seq S14_21 S14_22
def S14_24 : S := .seq S14_17 S14_23
def S14_25 : S := .seq S14_16 S14_24
def S14_26 : S := .loop S14_25
def S14_27 : S := .block 0 S14_26
def S14_28 : S := .seq S14_15 S14_27
def S14_29 : S := .reg [
    ⟨(some 52), .mov (.tmp 6), none⟩,
    ⟨(some 53), .mov (.tmp 7), none⟩,
    ⟨(some 6), .mov (.tmp 52), none⟩,
    ⟨(some 7), .mov (.tmp 53), none⟩,
    ⟨(some 8), .mov (.const (.int .i64 0)), none⟩]
def S14_30 : S := .seq S14_29 .ret
def S14_31 : S := .seq S14_28 S14_30
def S14_32 : S := .seq S14_14 S14_31
def S14_33 : S := .seq S14_13 S14_32
def S14_34 : S := .seq S14_12 S14_33
def S14_35 : S := .seq S14_7 S14_34
def S14_36 : S := .seq S14_0 S14_35
def S14 : S := S14_36
def G14 : List Tmp := [0, 1, 2, 3, 6, 7, 8, 9, 10, 11, 12, 16, 23, 31, 32, 33, 34]
def R14 : List RV := [.tmp 6, .tmp 7, .tmp 8]
def X14 : XF := ⟨S14, G14, R14, 54⟩
theorem fok14 : FOk Try.prog 14 X14 := ⟨Try.f14, Try.func14, by kernel_rfl, by kernel_rfl, by kernel_rfl, by kernel_rfl⟩

/-! ### 32: minikin/flow.Weakest: 1 arguments -/
def S32_0 : S := .reg [
    ⟨(some 1), .box 80 2 (.tmp 0), none⟩,
    ⟨(some 2), .mov (.const (.int .i64 0)), none⟩,
    ⟨(some 3), .mov (.const (.slice none 0 0)), none⟩,
    ⟨(some 4), .mov (.const (.int .i64 0)), none⟩]
def S32_1 : S := .reg [
    ⟨(some 10), .ldN 2 (.tmp 1), none⟩,
    ⟨(some 11), .call (.func 46) [(.tmp 10)], none⟩,
    ⟨(some 5), .mov (.tmp 11), none⟩]
def S32_2 : S := .reg [
    ⟨(some 12), .mov (.tmp 5), none⟩,
    ⟨(some 13), .bin .neq (.tmp 12) (.const (.int .i64 0)), none⟩]
def S32_3 : S := .reg [
    ⟨(some 14), .mov (.tmp 5), none⟩,
    ⟨(some 2), .mov (.const (.int .i64 0)), none⟩,
    ⟨(some 3), .mov (.const (.slice none 0 0)), none⟩,
    ⟨(some 4), .mov (.tmp 14), none⟩]
def S32_4 : S := .seq S32_3 .ret
def S32_5 : S := .cond (.tmp 13) S32_4 .skip
def S32_6 : S := .seq S32_2 S32_5
def S32_7 : S := .seq S32_1 S32_6
def S32_8 : S := .reg [
    ⟨(some 15), .ldN 2 (.tmp 1), none⟩,
    ⟨(some 16), .call (.func 47) [(.tmp 15)], none⟩,
    ⟨(some 6), .mov (.tmp 16), none⟩]
def S32_9 : S := .reg [
    ⟨(some 17), .mov (.tmp 6), none⟩,
    ⟨(some 18), .call (.func 48) [(.tmp 17), (.func 49)], none⟩,
    ⟨(some 19), .fld1 2 (.tmp 18), none⟩,
    ⟨(some 7), .mov (.tmp 19), none⟩]
def S32_10 : S := .reg [
    ⟨(some 20), .bslice 3 1 1 [(0, 1, (.const (.int .i64 0)))], none⟩,
    ⟨(some 8), .mov (.tmp 20), none⟩]
def S32_11 : S := .reg [
    ⟨(some 21), .ldN 2 (.tmp 1), none⟩,
    ⟨(some 22), .iface 80 (.tmp 21), none⟩,
    ⟨(some 23), .mov (.tmp 8), none⟩,
    ⟨(some 24), .call (.func 31) [(.tmp 22), (.tmp 23)], none⟩,
    ⟨(some 25), .mov (.tmp 7), none⟩,
    ⟨(some 26), .bin .eql (.tmp 24) (.tmp 25), none⟩,
    ⟨(some 27), .mov (.tmp 26), none⟩,
    ⟨(some 28), .mov (.tmp 8), some (27, true)⟩,
    ⟨(some 29), .len 0 (.tmp 28), some (27, true)⟩,
    ⟨(some 30), .off (.tmp 1) 0, some (27, true)⟩,
    ⟨(some 31), .ld1 (.tmp 30), some (27, true)⟩,
    ⟨(some 32), .bin .lss (.tmp 29) (.tmp 31), some (27, true)⟩,
    ⟨(some 33), .pick (.tmp 27) (.tmp 32) (.const (.bool false)), none⟩,
    ⟨(some 34), .not (.tmp 33), none⟩]
def S32_12 : S := .cond (.tmp 34) .skip (.exit 0)
def S32_13 : S := .seq S32_11 S32_12
def S32_14 : S := .reg [
    ⟨(some 35), .mov (.tmp 8), none⟩,
    ⟨(some 36), .mov (.tmp 8), none⟩,
    ⟨(some 37), .len 0 (.tmp 36), none⟩,
    ⟨(some 38), .bin .sub (.tmp 37) (.const (.int .i64 1)), none⟩,
    ⟨(some 39), .ixSl 1 (.tmp 35) (.tmp 38), none⟩,
    ⟨(some 40), .ld1 (.tmp 39), none⟩,
    ⟨(some 41), .bin .add (.tmp 40) (.const (.int .i64 1)), none⟩,
    ⟨(some 9), .mov (.tmp 41), none⟩]
def S32_15 : S := .regD <|
    .q 0 true ⟨(some 42), .ldN 2 (.tmp 1), none⟩ <|
    .q 1 false ⟨(some 43), .mov (.tmp 8), none⟩ <|
    .q 3 false ⟨(some 45), .mov (.tmp 9), none⟩ <|
    .q 4 false ⟨(some 46), .lit 3 1 1 [(0, 1, (.tmp 45))], none⟩ <|
    .q 6 false ⟨(some 48), .mov (.tmp 7), none⟩ <|
    .m 2 [0] ⟨(some 44), .call (.func 51) [(.tmp 43)], none⟩ <|
    .m 5 [0] ⟨(some 47), .app1 3 1 8 (.tmp 44) 46, none⟩ <|
    .m 7 [] ⟨(some 49), .call (.func 50) [(.tmp 42), (.tmp 47), (.tmp 48)], none⟩ <|
    .q 8 false ⟨(some 50), .not (.tmp 49), none⟩ <|
    .fin
def S32_16 : S := .cond (.tmp 50) .skip (.exit 2)
def S32_17 : S := .seq S32_15 S32_16
def S32_18 : S := .reg [
    ⟨(some 51), .mov (.tmp 9), none⟩,
    ⟨(some 52), .bin .add (.tmp 51) (.const (.int .i64 1)), none⟩,
    ⟨(some 9), .mov (.tmp 52), none⟩]
def S32_19 : S := .block 3 S32_18
def S32_20 : S := .seq S32_17 S32_19
def S32_21 : S := .loop S32_20
def S32_22 : S := .block 2 S32_21
def S32_23 : S := .reg [
    ⟨(some 53), .mov (.tmp 8), none⟩,
    ⟨(some 54), .mov (.tmp 9), none⟩,
    ⟨(some 55), .lit 3 1 1 [(0, 1, (.tmp 54))], none⟩,
    ⟨(some 56), .app1 3 1 8 (.tmp 53) 55, none⟩,
    ⟨(some 8), .mov (.tmp 56), none⟩]
def S32_24 : S := .seq S32_22 S32_23
def S32_25 : S := .seq S32_14 S32_24
def S32_26 : S := .block 1 S32_25
def S32_27 : S := .seq S32_13 S32_26
def S32_28 : S := .loop S32_27
def S32_29 : S := .block 0 S32_28
def S32_30 : S := .reg [
    ⟨(some 57), .mov (.tmp 7), none⟩,
    ⟨(some 58), .mov (.tmp 8), none⟩,
    ⟨(some 2), .mov (.tmp 57), none⟩,
    ⟨(some 3), .mov (.tmp 58), none⟩,
    ⟨(some 4), .mov (.const (.int .i64 0)), none⟩]
def S32_31 : S := .seq S32_30 .ret
def S32_32 : S := .seq S32_29 S32_31
def S32_33 : S := .seq S32_10 S32_32
def S32_34 : S := .seq S32_9 S32_33
def S32_35 : S := .seq S32_8 S32_34
def S32_36 : S := .seq S32_7 S32_35
def S32_37 : S := .seq S32_0 S32_36
def S32 : S := S32_37
def G32 : List Tmp := [0, 1, 2, 3, 4, 5, 6, 7, 8, 9, 13, 34, 50]
def R32 : List RV := [.tmp 2, .tmp 3, .tmp 4]
def X32 : XF := ⟨S32, G32, R32, 59⟩
theorem fok32 : FOk Try.prog 32 X32 := ⟨Try.f32, Try.func32, by kernel_rfl, by kernel_rfl, by kernel_rfl, by kernel_rfl⟩

/-! ### 33: minikin/flow.areEnds: 3 arguments -/
def S33_0 : S := .reg [
    ⟨(some 6), .mov (.const (.bool false)), none⟩]
def S33_1 : S := .reg [
    ⟨(some 7), .mov (.tmp 1), none⟩,
    ⟨(some 8), .mov (.tmp 2), none⟩,
    ⟨(some 9), .minmax true [(.tmp 7), (.tmp 8)], none⟩,
    ⟨(some 10), .bin .geq (.tmp 9) (.const (.int .i64 0)), none⟩,
    ⟨(some 11), .mov (.tmp 10), none⟩,
    ⟨(some 12), .mov (.tmp 1), some (11, true)⟩,
    ⟨(some 13), .mov (.tmp 2), some (11, true)⟩,
    ⟨(some 14), .minmax false [(.tmp 12), (.tmp 13)], some (11, true)⟩,
    ⟨(some 15), .mov (.tmp 0), some (11, true)⟩,
    ⟨(some 16), .bin .lss (.tmp 14) (.tmp 15), some (11, true)⟩,
    ⟨(some 17), .pick (.tmp 11) (.tmp 16) (.const (.bool false)), none⟩,
    ⟨(some 18), .mov (.tmp 17), none⟩,
    ⟨(some 19), .mov (.tmp 1), some (18, true)⟩,
    ⟨(some 20), .mov (.tmp 2), some (18, true)⟩,
    ⟨(some 21), .bin .neq (.tmp 19) (.tmp 20), some (18, true)⟩,
    ⟨(some 22), .pick (.tmp 18) (.tmp 21) (.const (.bool false)), none⟩,
    ⟨(some 6), .mov (.tmp 22), none⟩]
def S33_2 : S := .seq S33_1 .ret
def S33_3 : S := .seq S33_0 S33_2
def S33 : S := S33_3
def G33 : List Tmp := [0, 1, 2, 6]
def R33 : List RV := [.tmp 6]
def X33 : XF := ⟨S33, G33, R33, 23⟩
theorem fok33 : FOk Try.prog 33 X33 := ⟨Try.f33, Try.func33, by kernel_rfl, by kernel_rfl, by kernel_rfl, by kernel_rfl⟩

/-! ### 34: minikin/flow.newWork: 1 arguments -/
def S34_0 : S := .reg [
    ⟨(some 2), .mov (.const (.pointer none)), none⟩]
def S34_1 : S := .reg [
    ⟨(some 7), .mov (.tmp 0), none⟩,
    ⟨(some 8), .invoke (.tmp 7) "minikin/flow.size" [], none⟩,
    ⟨(some 9), .build 89 [(0, 1, (.tmp 8))], none⟩,
    ⟨(some 10), .box 89 825 (.tmp 9), none⟩,
    ⟨(some 3), .new 82 1, none⟩,
    ⟨none, .st 1 (.tmp 3) (.tmp 10), none⟩]
def S34_2 : S := .reg [
    ⟨(some 4), .new 3 1, none⟩,
    ⟨none, .st 1 (.tmp 4) (.const (.int .i64 0)), none⟩]
def S34_3 : S := .reg [
    ⟨(some 11), .mov (.tmp 0), none⟩,
    ⟨(some 12), .invoke (.tmp 11) "minikin/flow.arcs" [], none⟩]
def S34_4 : S := .reg [
    ⟨(some 5), .new 73 3, none⟩,
    ⟨none, .st 3 (.tmp 5) (.tmp 13), none⟩]
def S34_5 : S := .reg [
    ⟨(some 6), .mov (.tmp 14), none⟩]
def S34_6 : S := .seq S34_4 S34_5
def S34_7 : S := .regD <|
    .q 0 false ⟨(some 15), .ld1 (.tmp 3), none⟩ <|
    .q 1 false ⟨(some 16), .ld1 (.tmp 4), none⟩ <|
    .q 2 true ⟨(some 17), .ld1 (.tmp 3), none⟩ <|
    .q 3 true ⟨(some 18), .ld1 (.tmp 4), none⟩ <|
    .q 4 false ⟨(some 19), .off (.tmp 5) 1, none⟩ <|
    .q 5 false ⟨(some 20), .ld1 (.tmp 19), none⟩ <|
    .q 6 false ⟨(some 21), .off (.tmp 5) 2, none⟩ <|
    .q 7 true ⟨(some 22), .ld1 (.tmp 21), none⟩ <|
    .q 8 false ⟨(some 23), .nilck (.tmp 15), none⟩ <|
    .q 9 false ⟨(some 24), .off (.tmp 23) 1, none⟩ <|
    .q 10 false ⟨(some 25), .ixArr 400 1 (.tmp 24) (.tmp 16), none⟩ <|
    .q 12 false ⟨(some 26), .nilck (.tmp 17), none⟩ <|
    .q 13 false ⟨(some 27), .off (.tmp 26) 401, none⟩ <|
    .m 11 [2, 3, 7] ⟨none, .st 1 (.tmp 25) (.tmp 20), none⟩ <|
    .q 14 false ⟨(some 28), .ixArr 400 1 (.tmp 27) (.tmp 18), none⟩ <|
    .m 15 [] ⟨none, .st 1 (.tmp 28) (.tmp 22), none⟩ <|
    .fin
def S34_8 : S := .regD <|
    .q 0 false ⟨(some 29), .ld1 (.tmp 3), none⟩ <|
    .q 1 false ⟨(some 30), .ld1 (.tmp 4), none⟩ <|
    .q 2 false ⟨(some 31), .bin .add (.tmp 30) (.const (.int .i64 1)), none⟩ <|
    .q 3 true ⟨(some 32), .ld1 (.tmp 3), none⟩ <|
    .q 4 true ⟨(some 33), .ld1 (.tmp 4), none⟩ <|
    .q 5 false ⟨(some 34), .bin .add (.tmp 33) (.const (.int .i64 1)), none⟩ <|
    .q 6 false ⟨(some 35), .off (.tmp 5) 0, none⟩ <|
    .q 7 false ⟨(some 36), .ld1 (.tmp 35), none⟩ <|
    .q 8 false ⟨(some 37), .mov (.tmp 6), none⟩ <|
    .q 9 false ⟨(some 38), .nilck (.tmp 29), none⟩ <|
    .q 10 false ⟨(some 39), .off (.tmp 38) 1, none⟩ <|
    .q 11 false ⟨(some 40), .ixArr 400 1 (.tmp 39) (.tmp 31), none⟩ <|
    .q 13 false ⟨(some 41), .nilck (.tmp 32), none⟩ <|
    .q 14 false ⟨(some 42), .off (.tmp 41) 401, none⟩ <|
    .m 12 [3, 4] ⟨none, .st 1 (.tmp 40) (.tmp 36), none⟩ <|
    .q 15 false ⟨(some 43), .ixArr 400 1 (.tmp 42) (.tmp 34), none⟩ <|
    .m 16 [] ⟨none, .st 1 (.tmp 43) (.tmp 37), none⟩ <|
    .fin
def S34_9 : S := .regD <|
    .q 0 true ⟨(some 44), .ld1 (.tmp 3), none⟩ <|
    .q 1 false ⟨(some 45), .off (.tmp 5) 0, none⟩ <|
    .q 2 true ⟨(some 46), .ld1 (.tmp 45), none⟩ <|
    .q 3 true ⟨(some 47), .ld1 (.tmp 3), none⟩ <|
    .q 4 false ⟨(some 48), .off (.tmp 5) 1, none⟩ <|
    .q 5 true ⟨(some 49), .ld1 (.tmp 48), none⟩ <|
    .q 6 false ⟨(some 50), .ld1 (.tmp 3), none⟩ <|
    .q 7 false ⟨(some 51), .off (.tmp 5) 0, none⟩ <|
    .q 8 false ⟨(some 52), .ld1 (.tmp 51), none⟩ <|
    .q 9 false ⟨(some 53), .nilck (.tmp 50), none⟩ <|
    .q 10 false ⟨(some 54), .off (.tmp 53) 801, none⟩ <|
    .q 11 false ⟨(some 55), .ixArr 24 1 (.tmp 54) (.tmp 52), none⟩ <|
    .q 12 false ⟨(some 56), .ld1 (.tmp 55), none⟩ <|
    .q 13 false ⟨(some 57), .ld1 (.tmp 4), none⟩ <|
    .q 14 false ⟨(some 58), .lit 3 1 1 [(0, 1, (.tmp 57))], none⟩ <|
    .q 16 true ⟨(some 60), .ld1 (.tmp 3), none⟩ <|
    .q 17 false ⟨(some 61), .off (.tmp 5) 1, none⟩ <|
    .q 18 true ⟨(some 62), .ld1 (.tmp 61), none⟩ <|
    .q 19 false ⟨(some 63), .nilck (.tmp 60), none⟩ <|
    .q 20 false ⟨(some 64), .off (.tmp 63) 801, none⟩ <|
    .q 21 false ⟨(some 65), .ixArr 24 1 (.tmp 64) (.tmp 62), none⟩ <|
    .q 22 true ⟨(some 66), .ld1 (.tmp 65), none⟩ <|
    .q 23 true ⟨(some 67), .ld1 (.tmp 4), none⟩ <|
    .q 24 false ⟨(some 68), .bin .add (.tmp 67) (.const (.int .i64 1)), none⟩ <|
    .q 25 false ⟨(some 69), .lit 3 1 1 [(0, 1, (.tmp 68))], none⟩ <|
    .q 27 false ⟨(some 71), .nilck (.tmp 44), none⟩ <|
    .q 28 false ⟨(some 72), .off (.tmp 71) 801, none⟩ <|
    .q 31 false ⟨(some 74), .nilck (.tmp 47), none⟩ <|
    .q 32 false ⟨(some 75), .off (.tmp 74) 801, none⟩ <|
    .m 15 [0, 2, 3, 5, 16, 18, 22, 23] ⟨(some 59), .app1 3 1 8 (.tmp 56) 58, none⟩ <|
    .m 26 [0, 2, 3, 5] ⟨(some 70), .app1 3 1 8 (.tmp 66) 69, none⟩ <|
    .q 29 false ⟨(some 73), .ixArr 24 1 (.tmp 72) (.tmp 46), none⟩ <|
    .m 30 [3, 5] ⟨none, .st 1 (.tmp 73) (.tmp 59), none⟩ <|
    .q 33 false ⟨(some 76), .ixArr 24 1 (.tmp 75) (.tmp 49), none⟩ <|
    .m 34 [] ⟨none, .st 1 (.tmp 76) (.tmp 70), none⟩ <|
    .fin
def S34_10 : S := .reg [
    ⟨(some 77), .ld1 (.tmp 4), none⟩,
    ⟨(some 78), .bin .add (.tmp 77) (.const (.int .i64 2)), none⟩,
    ⟨none, .st 1 (.tmp 4) (.tmp 78), none⟩]
def S34_11 : S := .seq S34_9 S34_10
def S34_12 : S := .seq S34_8 S34_11
def S34_13 : S := .seq S34_7 S34_12
def S34_14 : S := .block 1 S34_13
def S34_15 : S := .rfunc (.tmp 12) [13, 14] S34_6 S34_14
def S34_16 : S := .block 0 S34_15
def S34_17 : S := .seq S34_3 S34_16
def S34_18 : S := .reg [
    ⟨(some 79), .ld1 (.tmp 3), none⟩,
    ⟨(some 2), .mov (.tmp 79), none⟩]
def S34_19 : S := .seq S34_18 .ret
def S34_20 : S := .seq S34_17 S34_19
def S34_21 : S := .seq S34_2 S34_20
def S34_22 : S := .seq S34_1 S34_21
def S34_23 : S := .seq S34_0 S34_22
def S34 : S := S34_23
def G34 : List Tmp := [0, 2, 3, 4, 5, 6, 12, 13, 14]
def R34 : List RV := [.tmp 2]
def X34 : XF := ⟨S34, G34, R34, 80⟩
theorem fok34 : FOk Try.prog 34 X34 := ⟨Try.f34, Try.func34, by kernel_rfl, by kernel_rfl, by kernel_rfl, by kernel_rfl⟩

/-! ### 35: (*minikin/flow.work).push: 3 arguments -/
def S35_0 : S := .reg [
    ⟨(some 3), .box 82 1 (.tmp 0), none⟩,
    ⟨(some 5), .box 3 1 (.tmp 2), none⟩,
    ⟨(some 6), .mov (.const (.int .i64 0)), none⟩]
def S35_1 : S := .reg [
    ⟨(some 7), .mov (.const (.int .i64 0)), none⟩]
def S35_2 : S := .reg [
    ⟨(some 12), .ld1 (.tmp 3), none⟩,
    ⟨(some 13), .mov (.tmp 1), none⟩,
    ⟨(some 14), .call (.func 52) [(.tmp 12), (.tmp 13)], none⟩,
    ⟨(some 8), .new 117 24, none⟩,
    ⟨none, .st 24 (.tmp 8) (.tmp 14), none⟩]
def S35_3 : S := .reg [
    ⟨(some 15), .ld1 (.tmp 5), none⟩,
    ⟨(some 16), .ixArr 24 1 (.tmp 8) (.tmp 15), none⟩,
    ⟨(some 17), .ld1 (.tmp 16), none⟩,
    ⟨(some 18), .bin .lss (.tmp 17) (.const (.int .i64 0)), none⟩]
def S35_4 : S := .reg [
    ⟨(some 19), .mov (.tmp 7), none⟩,
    ⟨(some 6), .mov (.tmp 19), none⟩]
def S35_5 : S := .seq S35_4 .ret
def S35_6 : S := .cond (.tmp 18) S35_5 .skip
def S35_7 : S := .seq S35_3 S35_6
def S35_8 : S := .reg [
    ⟨(some 9), .new 117 24, none⟩]
def S35_9 : S := .reg [
    ⟨(some 10), .new 119 1, none⟩]
def S35_10 : S := .reg [
    ⟨(some 20), .mkfunc 53 [] [(.tmp 5), (.tmp 9), (.tmp 3), (.tmp 8), (.tmp 10)], none⟩,
    ⟨none, .st 1 (.tmp 10) (.tmp 20), none⟩]
def S35_11 : S := .reg [
    ⟨(some 21), .ld1 (.tmp 10), none⟩,
    ⟨(some 22), .mov (.tmp 1), none⟩,
    ⟨(some 23), .call (.tmp 21) [(.tmp 22), (.const (.int .i64 200000000000))], none⟩,
    ⟨(some 11), .mov (.tmp 23), none⟩]
def S35_12 : S := .reg [
    ⟨(some 24), .mov (.tmp 11), none⟩,
    ⟨(some 25), .bin .gtr (.tmp 24) (.const (.int .i64 0)), none⟩]
def S35_13 : S := .cond (.tmp 25) .skip (.exit 2)
def S35_14 : S := .seq S35_12 S35_13
def S35_15 : S := .reg [
    ⟨(some 29), .mov (.tmp 7), none⟩,
    ⟨(some 30), .mov (.tmp 11), none⟩,
    ⟨(some 31), .bin .add (.tmp 29) (.tmp 30), none⟩,
    ⟨(some 7), .mov (.tmp 31), none⟩]
def S35_16 : S := .block 3 S35_15
def S35_17 : S := .reg [
    ⟨(some 26), .ld1 (.tmp 10), none⟩,
    ⟨(some 27), .mov (.tmp 1), none⟩,
    ⟨(some 28), .call (.tmp 26) [(.tmp 27), (.const (.int .i64 200000000000))], none⟩,
    ⟨(some 11), .mov (.tmp 28), none⟩]
def S35_18 : S := .seq S35_16 S35_17
def S35_19 : S := .seq S35_14 S35_18
def S35_20 : S := .loop S35_19
def S35_21 : S := .block 2 S35_20
def S35_22 : S := .seq S35_11 S35_21
def S35_23 : S := .seq S35_10 S35_22
def S35_24 : S := .seq S35_9 S35_23
def S35_25 : S := .seq S35_8 S35_24
def S35_26 : S := .seq S35_7 S35_25
def S35_27 : S := .seq S35_2 S35_26
def S35_28 : S := .block 1 S35_27
def S35_29 : S := .loop S35_28
def S35_30 : S := .block 0 S35_29
def S35_31 : S := .seq S35_1 S35_30
def S35_32 : S := .seq S35_0 S35_31
def S35 : S := S35_32
def G35 : List Tmp := [0, 1, 2, 3, 5, 6, 7, 8, 9, 10, 11, 18, 25]
def R35 : List RV := [.tmp 6]
def X35 : XF := ⟨S35, G35, R35, 32⟩
theorem fok35 : FOk Try.prog 35 X35 := ⟨Try.f35, Try.func35, by kernel_rfl, by kernel_rfl, by kernel_rfl, by kernel_rfl⟩

/-! ### 36: (*minikin/flow.work).reached: 2 arguments -/
def S36_0 : S := .reg [
    ⟨(some 4), .mov (.const (.slice none 0 0)), none⟩]
def S36_1 : S := .reg [
    ⟨(some 5), .mov (.const (.slice none 0 0)), none⟩]
def S36_2 : S := .reg [
    ⟨(some 8), .mov (.tmp 0), none⟩,
    ⟨(some 9), .mov (.tmp 1), none⟩,
    ⟨(some 10), .call (.func 52) [(.tmp 8), (.tmp 9)], none⟩,
    ⟨(some 11), .mov (.const (.int .i64 0)), none⟩]
def S36_3 : S := .reg [
    ⟨(some 12), .bin .lss (.tmp 11) (.const (.int .i64 24)), none⟩]
def S36_4 : S := .cond (.tmp 12) .skip (.exit 0)
def S36_5 : S := .reg [
    ⟨(some 13), .mov (.tmp 11), none⟩,
    ⟨(some 14), .ixVal1 24 (.tmp 10) (.tmp 11), none⟩,
    ⟨(some 6), .mov (.tmp 13), none⟩,
    ⟨(some 7), .mov (.tmp 14), none⟩]
def S36_6 : S := .reg [
    ⟨(some 15), .mov (.tmp 7), none⟩,
    ⟨(some 16), .bin .geq (.tmp 15) (.const (.int .i64 0)), none⟩]
def S36_7 : S := .reg [
    ⟨(some 17), .mov (.tmp 5), none⟩,
    ⟨(some 18), .mov (.tmp 6), none⟩,
    ⟨(some 19), .lit 3 1 1 [(0, 1, (.tmp 18))], none⟩,
    ⟨(some 20), .app1 3 1 8 (.tmp 17) 19, none⟩,
    ⟨(some 5), .mov (.tmp 20), none⟩]
def S36_8 : S := .cond (.tmp 16) S36_7 .skip
def S36_9 : S := .seq S36_6 S36_8
def S36_10 : S := .seq S36_5 S36_9
def S36_11 : S := .block 1 S36_10
def S36_12 : S := .reg [
    ⟨(some 21), .bin .add (.tmp 11) (.const (.int .i64 1)), none⟩,
    ⟨(some 11), .mov (.tmp 21), none⟩]
def S36_13 : S := .seq S36_11 S36_12
def S36_14 : S := .seq S36_4 S36_13
def S36_15 : S := .seq S36_3 S36_14
def S36_16 : S := .loop S36_15
def S36_17 : S := .block 0 S36_16
def S36_18 : S := .seq S36_2 S36_17
def S36_19 : S := .reg [
    ⟨(some 22), .mov (.tmp 5), none⟩,
    ⟨(some 4), .mov (.tmp 22), none⟩]
def S36_20 : S := .seq S36_19 .ret
def S36_21 : S := .seq S36_18 S36_20
def S36_22 : S := .seq S36_1 S36_21
def S36_23 : S := .seq S36_0 S36_22
def S36 : S := S36_23
def G36 : List Tmp := [0, 1, 4, 5, 6, 7, 10, 11, 12, 16]
def R36 : List RV := [.tmp 4]
def X36 : XF := ⟨S36, G36, R36, 23⟩
theorem fok36 : FOk Try.prog 36 X36 := ⟨Try.f36, Try.func36, by kernel_rfl, by kernel_rfl, by kernel_rfl, by kernel_rfl⟩

/-! ### 46: minikin/flow.CheckBoard: 1 arguments -/
def S46_0 : S := .reg [
    ⟨(some 1), .box 80 2 (.tmp 0), none⟩,
    ⟨(some 2), .mov (.const (.int .i64 0)), none⟩]
def S46_1 : S := .reg [
    ⟨(some 3), .off (.tmp 1) 0, none⟩,
    ⟨(some 4), .ld1 (.tmp 3), none⟩,
    ⟨(some 5), .bin .lss (.tmp 4) (.const (.int .i64 2)), none⟩,
    ⟨(some 6), .mov (.tmp 5), none⟩,
    ⟨(some 7), .off (.tmp 1) 0, some (6, false)⟩,
    ⟨(some 8), .ld1 (.tmp 7), some (6, false)⟩,
    ⟨(some 9), .bin .gtr (.tmp 8) (.const (.int .i64 24)), some (6, false)⟩,
    ⟨(some 10), .pick (.tmp 6) (.const (.bool true)) (.tmp 9), none⟩,
    ⟨(some 11), .mov (.tmp 10), none⟩,
    ⟨(some 12), .off (.tmp 1) 1, some (11, false)⟩,
    ⟨(some 13), .ld1 (.tmp 12), some (11, false)⟩,
    ⟨(some 14), .len 0 (.tmp 13), some (11, false)⟩,
    ⟨(some 15), .bin .gtr (.tmp 14) (.const (.int .i64 200)), some (11, false)⟩,
    ⟨(some 16), .pick (.tmp 11) (.const (.bool true)) (.tmp 15), none⟩,
    ⟨(some 17), .mov (.tmp 16), none⟩,
    ⟨(some 18), .off (.tmp 1) 1, some (17, false)⟩,
    ⟨(some 19), .ld1 (.tmp 18), some (17, false)⟩,
    ⟨(some 20), .mkfunc 57 [] [(.tmp 1)], some (17, false)⟩,
    ⟨(some 21), .call (.func 56) [(.tmp 19), (.tmp 20)], some (17, false)⟩,
    ⟨(some 22), .pick (.tmp 17) (.const (.bool true)) (.tmp 21), none⟩]
def S46_2 : S := .reg [
    ⟨(some 2), .mov (.const (.int .i64 30)), none⟩]
def S46_3 : S := .seq S46_2 .ret
def S46_4 : S := .cond (.tmp 22) S46_3 .skip
def S46_5 : S := .seq S46_1 S46_4
def S46_6 : S := .reg [
    ⟨(some 2), .mov (.const (.int .i64 0)), none⟩]
def S46_7 : S := .seq S46_6 .ret
def S46_8 : S := .seq S46_5 S46_7
def S46_9 : S := .seq S46_0 S46_8
def S46 : S := S46_9
def G46 : List Tmp := [0, 1, 2, 22]
def R46 : List RV := [.tmp 2]
def X46 : XF := ⟨S46, G46, R46, 23⟩
theorem fok46 : FOk Try.prog 46 X46 := ⟨Try.f46, Try.func46, by kernel_rfl, by kernel_rfl, by kernel_rfl, by kernel_rfl⟩

/-! ### 47: minikin/flow.tree: 1 arguments -/
def S47_0 : S := .reg [
    ⟨(some 1), .box 80 2 (.tmp 0), none⟩,
    ⟨(some 2), .mov (.const (.slice none 0 0)), none⟩]
def S47_1 : S := .reg [
    ⟨(some 12), .off (.tmp 1) 0, none⟩,
    ⟨(some 13), .ld1 (.tmp 12), none⟩,
    ⟨(some 14), .mkslice 3 1 8 (.tmp 13) (.tmp 13), none⟩,
    ⟨(some 3), .mov (.tmp 14), none⟩]
def S47_2 : S := .reg [
    ⟨(some 15), .off (.tmp 1) 0, none⟩,
    ⟨(some 16), .ld1 (.tmp 15), none⟩,
    ⟨(some 17), .mkslice 2 1 8 (.tmp 16) (.tmp 16), none⟩,
    ⟨(some 4), .mov (.tmp 17), none⟩]
def S47_3 : S := .reg [
    ⟨(some 5), .mov (.const (.int .i64 1)), none⟩]
def S47_4 : S := .reg [
    ⟨(some 18), .mov (.tmp 5), none⟩,
    ⟨(some 19), .off (.tmp 1) 0, none⟩,
    ⟨(some 20), .ld1 (.tmp 19), none⟩,
    ⟨(some 21), .bin .lss (.tmp 18) (.tmp 20), none⟩]
def S47_5 : S := .cond (.tmp 21) .skip (.exit 0)
def S47_6 : S := .seq S47_4 S47_5
def S47_7 : S := .reg [
    ⟨(some 24), .mov (.tmp 3), none⟩,
    ⟨(some 25), .mov (.tmp 5), none⟩,
    ⟨(some 26), .ixSl 1 (.tmp 24) (.tmp 25), none⟩,
    ⟨(some 27), .ld1 (.tmp 26), none⟩,
    ⟨(some 6), .mov (.tmp 27), none⟩]
def S47_8 : S := .reg [
    ⟨(some 28), .ldN 2 (.tmp 1), none⟩,
    ⟨(some 29), .iface 80 (.tmp 28), none⟩,
    ⟨(some 30), .call (.func 34) [(.tmp 29)], none⟩,
    ⟨(some 7), .mov (.tmp 30), none⟩]
def S47_9 : S := .reg [
    ⟨(some 31), .mov (.tmp 4), none⟩,
    ⟨(some 32), .mov (.tmp 5), none⟩,
    ⟨(some 33), .mov (.tmp 7), none⟩,
    ⟨(some 34), .mov (.tmp 5), none⟩,
    ⟨(some 35), .mov (.tmp 6), none⟩,
    ⟨(some 36), .call (.func 35) [(.tmp 33), (.tmp 34), (.tmp 35)], none⟩,
    ⟨(some 37), .ixSl 1 (.tmp 31) (.tmp 32), none⟩,
    ⟨none, .st 1 (.tmp 37) (.tmp 36), none⟩]
def S47_10 : S := .reg [
    ⟨(some 38), .mov (.tmp 7), none⟩,
    ⟨(some 39), .mov (.tmp 5), none⟩,
    ⟨(some 40), .call (.func 36) [(.tmp 38), (.tmp 39)], none⟩,
    ⟨(some 8), .mov (.tmp 40), none⟩]
def S47_11 : S := .reg [
    ⟨(some 41), .off (.tmp 1) 0, none⟩,
    ⟨(some 42), .ld1 (.tmp 41), none⟩,
    ⟨(some 43), .mov (.const (.int .i64 0)), none⟩]
def S47_12 : S := .reg [
    ⟨(some 44), .bin .lss (.tmp 43) (.tmp 42), none⟩]
def S47_13 : S := .cond (.tmp 44) .skip (.exit 2)
def S47_14 : S := .reg [
    ⟨(some 45), .mov (.tmp 43), none⟩,
    ⟨(some 9), .mov (.tmp 45), none⟩]
def S47_15 : S := .reg [
    ⟨(some 46), .mov (.tmp 9), none⟩,
    ⟨(some 47), .mov (.tmp 5), none⟩,
    ⟨(some 48), .bin .neq (.tmp 46) (.tmp 47), none⟩,
    ⟨(some 49), .mov (.tmp 48), none⟩,
    ⟨(some 50), .mov (.tmp 3), some (49, true)⟩,
    ⟨(some 51), .mov (.tmp 9), some (49, true)⟩,
    ⟨(some 52), .ixSl 1 (.tmp 50) (.tmp 51), some (49, true)⟩,
    ⟨(some 53), .ld1 (.tmp 52), some (49, true)⟩,
    ⟨(some 54), .mov (.tmp 6), some (49, true)⟩,
    ⟨(some 55), .bin .eql (.tmp 53) (.tmp 54), some (49, true)⟩,
    ⟨(some 56), .pick (.tmp 49) (.tmp 55) (.const (.bool false)), none⟩,
    ⟨(some 57), .mov (.tmp 56), none⟩,
    ⟨(some 58), .mov (.tmp 8), some (57, true)⟩,
    ⟨(some 59), .mov (.tmp 9), some (57, true)⟩,
    ⟨(some 60), .call (.func 42) [(.tmp 58), (.tmp 59)], some (57, true)⟩,
    ⟨(some 61), .pick (.tmp 57) (.tmp 60) (.const (.bool false)), none⟩]
def S47_16 : S := .reg [
    ⟨(some 62), .mov (.tmp 3), none⟩,
    ⟨(some 63), .mov (.tmp 9), none⟩,
    ⟨(some 64), .mov (.tmp 5), none⟩,
    ⟨(some 65), .ixSl 1 (.tmp 62) (.tmp 63), none⟩,
    ⟨none, .st 1 (.tmp 65) (.tmp 64), none⟩]
def S47_17 : S := .cond (.tmp 61) S47_16 .skip
def S47_18 : S := .seq S47_15 S47_17
def S47_19 : S := .seq S47_14 S47_18
def S47_20 : S := .block 3 S47_19
def S47_21 : S := .reg [
    ⟨(some 66), .bin .add (.tmp 43) (.const (.int .i64 1)), none⟩,
    ⟨(some 43), .mov (.tmp 66), none⟩]
def S47_22 : S := .seq S47_20 S47_21
def S47_23 : S := .seq S47_13 S47_22
def S47_24 : S := .seq S47_12 S47_23
def S47_25 : S := .loop S47_24
def S47_26 : S := .block 2 S47_25
def S47_27 : S := .seq S47_11 S47_26
def S47_28 : S := .reg [
    ⟨(some 67), .mov (.tmp 8), none⟩,
    ⟨(some 68), .mov (.tmp 3), none⟩,
    ⟨(some 69), .mov (.tmp 6), none⟩,
    ⟨(some 70), .ixSl 1 (.tmp 68) (.tmp 69), none⟩,
    ⟨(some 71), .ld1 (.tmp 70), none⟩,
    ⟨(some 72), .call (.func 42) [(.tmp 67), (.tmp 71)], none⟩]
def S47_29 : S := .reg [
    ⟨(some 73), .mov (.tmp 3), none⟩,
    ⟨(some 74), .mov (.tmp 5), none⟩,
    ⟨(some 75), .mov (.tmp 3), none⟩,
    ⟨(some 76), .mov (.tmp 6), none⟩,
    ⟨(some 77), .mov (.tmp 3), none⟩,
    ⟨(some 78), .mov (.tmp 6), none⟩,
    ⟨(some 79), .ixSl 1 (.tmp 77) (.tmp 78), none⟩,
    ⟨(some 80), .ld1 (.tmp 79), none⟩,
    ⟨(some 81), .mov (.tmp 5), none⟩,
    ⟨(some 82), .ixSl 1 (.tmp 73) (.tmp 74), none⟩,
    ⟨none, .st 1 (.tmp 82) (.tmp 80), none⟩,
    ⟨(some 83), .ixSl 1 (.tmp 75) (.tmp 76), none⟩,
    ⟨none, .st 1 (.tmp 83) (.tmp 81), none⟩]
def S47_30 : S := .regD <|
    .q 0 false ⟨(some 84), .mov (.tmp 4), none⟩ <|
    .q 1 false ⟨(some 85), .mov (.tmp 5), none⟩ <|
    .q 2 false ⟨(some 86), .mov (.tmp 4), none⟩ <|
    .q 3 false ⟨(some 87), .mov (.tmp 6), none⟩ <|
    .q 4 false ⟨(some 88), .mov (.tmp 4), none⟩ <|
    .q 5 false ⟨(some 89), .mov (.tmp 6), none⟩ <|
    .q 6 false ⟨(some 90), .ixSl 1 (.tmp 88) (.tmp 89), none⟩ <|
    .q 7 false ⟨(some 91), .ld1 (.tmp 90), none⟩ <|
    .q 8 false ⟨(some 92), .mov (.tmp 4), none⟩ <|
    .q 9 false ⟨(some 93), .mov (.tmp 5), none⟩ <|
    .q 10 false ⟨(some 94), .ixSl 1 (.tmp 92) (.tmp 93), none⟩ <|
    .q 11 false ⟨(some 95), .ld1 (.tmp 94), none⟩ <|
    .q 12 false ⟨(some 96), .ixSl 1 (.tmp 84) (.tmp 85), none⟩ <|
    .m 13 [] ⟨none, .st 1 (.tmp 96) (.tmp 91), none⟩ <|
    .q 14 false ⟨(some 97), .ixSl 1 (.tmp 86) (.tmp 87), none⟩ <|
    .m 15 [] ⟨none, .st 1 (.tmp 97) (.tmp 95), none⟩ <|
    .fin
def S47_31 : S := .seq S47_29 S47_30
def S47_32 : S := .cond (.tmp 72) S47_31 .skip
def S47_33 : S := .seq S47_28 S47_32
def S47_34 : S := .seq S47_27 S47_33
def S47_35 : S := .seq S47_10 S47_34
def S47_36 : S := .seq S47_9 S47_35
def S47_37 : S := .seq S47_8 S47_36
def S47_38 : S := .seq S47_7 S47_37
def S47_39 : S := .block 1 S47_38
def S47_40 : S := .reg [
    ⟨(some 22), .mov (.tmp 5), none⟩,
    ⟨(some 23), .bin .add (.tmp 22) (.const (.int .i64 1)), none⟩,
    ⟨(some 5), .mov (.tmp 23), none⟩]
def S47_41 : S := .seq S47_39 S47_40
def S47_42 : S := .seq S47_6 S47_41
def S47_43 : S := .loop S47_42
def S47_44 : S := .block 0 S47_43
def S47_45 : S := .seq S47_3 S47_44
def S47_46 : S := .reg [
    ⟨(some 10), .mov (.const (.slice none 0 0)), none⟩]
def S47_47 : S := .reg [
    ⟨(some 11), .mov (.const (.int .i64 1)), none⟩]
def S47_48 : S := .reg [
    ⟨(some 98), .mov (.tmp 11), none⟩,
    ⟨(some 99), .off (.tmp 1) 0, none⟩,
    ⟨(some 100), .ld1 (.tmp 99), none⟩,
    ⟨(some 101), .bin .lss (.tmp 98) (.tmp 100), none⟩]
def S47_49 : S := .cond (.tmp 101) .skip (.exit 4)
def S47_50 : S := .seq S47_48 S47_49
def S47_51 : S := .regD <|
    .q 0 false ⟨(some 104), .mov (.tmp 10), none⟩ <|
    .q 1 false ⟨(some 105), .mov (.tmp 11), none⟩ <|
    .q 2 false ⟨(some 106), .mov (.tmp 3), none⟩ <|
    .q 3 false ⟨(some 107), .mov (.tmp 11), none⟩ <|
    .q 4 false ⟨(some 108), .ixSl 1 (.tmp 106) (.tmp 107), none⟩ <|
    .q 5 false ⟨(some 109), .ld1 (.tmp 108), none⟩ <|
    .q 6 false ⟨(some 110), .mov (.tmp 4), none⟩ <|
    .q 7 false ⟨(some 111), .mov (.tmp 11), none⟩ <|
    .q 8 false ⟨(some 112), .ixSl 1 (.tmp 110) (.tmp 111), none⟩ <|
    .q 9 false ⟨(some 113), .ld1 (.tmp 112), none⟩ <|
    .q 10 false ⟨(some 114), .build 111 [(0, 1, (.tmp 105)), (1, 1, (.tmp 109)), (2, 1, (.tmp 113))], none⟩ <|
    .q 11 false ⟨(some 115), .lit 111 3 1 [(0, 3, (.tmp 114))], none⟩ <|
    .m 12 [] ⟨(some 116), .app1 111 3 24 (.tmp 104) 115, none⟩ <|
    .q 13 false ⟨(some 10), .mov (.tmp 116), none⟩ <|
    .fin
def S47_52 : S := .block 5 S47_51
def S47_53 : S := .reg [
    ⟨(some 102), .mov (.tmp 11), none⟩,
    ⟨(some 103), .bin .add (.tmp 102) (.const (.int .i64 1)), none⟩,
    ⟨(some 11), .mov (.tmp 103), none⟩]
def S47_54 : S := .seq S47_52 S47_53
def S47_55 : S := .seq S47_50 S47_54
def S47_56 : S := .loop S47_55
def S47_57 : S := .block 4 S47_56
def S47_58 : S := .seq S47_47 S47_57
def S47_59 : S := .reg [
    ⟨(some 117), .mov (.tmp 10), none⟩,
    ⟨(some 2), .mov (.tmp 117), none⟩]
def S47_60 : S := .seq S47_59 .ret
def S47_61 : S := .seq S47_58 S47_60
def S47_62 : S := .seq S47_46 S47_61
def S47_63 : S := .seq S47_45 S47_62
def S47_64 : S := .seq S47_2 S47_63
def S47_65 : S := .seq S47_1 S47_64
def S47_66 : S := .seq S47_0 S47_65
def S47 : S := S47_66
def G47 : List Tmp := [0, 1, 2, 3, 4, 5, 6, 7, 8, 9, 10, 11, 21, 42, 43, 44, 61, 72, 101]
def R47 : List RV := [.tmp 2]
def X47 : XF := ⟨S47, G47, R47, 118⟩
theorem fok47 : FOk Try.prog 47 X47 := ⟨Try.f47, Try.func47, by kernel_rfl, by kernel_rfl, by kernel_rfl, by kernel_rfl⟩

/-! ### 48: slices.MinFunc[[]minikin/flow.Branch,minikin/flow.Branch]: 2 arguments -/
def S48_0 : S := .reg [
    ⟨(some 4), .new 111 3, none⟩]
def S48_1 : S := .reg [
    ⟨(some 7), .mov (.tmp 0), none⟩,
    ⟨(some 8), .len 0 (.tmp 7), none⟩,
    ⟨(some 9), .bin .lss (.tmp 8) (.const (.int .i64 1)), none⟩]
def S48_2 : S := .reg [
    ⟨(some 10), .iface 9 (.const (.string (ByteArray.mk #[115, 108, 105, 99, 101, 115, 46, 77, 105, 110, 70, 117, 110, 99, 58, 32, 101, 109, 112, 116, 121, 32, 108, 105, 115, 116]))), none⟩,
    ⟨none, .bad, none⟩]
def S48_3 : S := .cond (.tmp 9) S48_2 .skip
def S48_4 : S := .seq S48_1 S48_3
def S48_5 : S := .reg [
    ⟨(some 11), .mov (.tmp 0), none⟩,
    ⟨(some 12), .ixSl 3 (.tmp 11) (.const (.int .i64 0)), none⟩,
    ⟨(some 13), .ldN 3 (.tmp 12), none⟩,
    ⟨(some 5), .new 111 3, none⟩,
    ⟨none, .st 3 (.tmp 5) (.tmp 13), none⟩]
def S48_6 : S := .reg [
    ⟨(some 6), .mov (.const (.int .i64 1)), none⟩]
def S48_7 : S := .reg [
    ⟨(some 14), .mov (.tmp 6), none⟩,
    ⟨(some 15), .mov (.tmp 0), none⟩,
    ⟨(some 16), .len 0 (.tmp 15), none⟩,
    ⟨(some 17), .bin .lss (.tmp 14) (.tmp 16), none⟩]
def S48_8 : S := .cond (.tmp 17) .skip (.exit 0)
def S48_9 : S := .seq S48_7 S48_8
def S48_10 : S := .regD <|
    .q 0 false ⟨(some 20), .mov (.tmp 1), none⟩ <|
    .q 1 false ⟨(some 21), .mov (.tmp 0), none⟩ <|
    .q 2 false ⟨(some 22), .mov (.tmp 6), none⟩ <|
    .q 3 false ⟨(some 23), .ixSl 3 (.tmp 21) (.tmp 22), none⟩ <|
    .q 4 false ⟨(some 24), .ldN 3 (.tmp 23), none⟩ <|
    .q 5 false ⟨(some 25), .ldN 3 (.tmp 5), none⟩ <|
    .m 6 [] ⟨(some 26), .call (.tmp 20) [(.tmp 24), (.tmp 25)], none⟩ <|
    .q 7 false ⟨(some 27), .bin .lss (.tmp 26) (.const (.int .i64 0)), none⟩ <|
    .fin
def S48_11 : S := .reg [
    ⟨(some 28), .mov (.tmp 0), none⟩,
    ⟨(some 29), .mov (.tmp 6), none⟩,
    ⟨(some 30), .ixSl 3 (.tmp 28) (.tmp 29), none⟩,
    ⟨(some 31), .ldN 3 (.tmp 30), none⟩,
    ⟨none, .st 3 (.tmp 5) (.tmp 31), none⟩]
def S48_12 : S := .cond (.tmp 27) S48_11 .skip
def S48_13 : S := .seq S48_10 S48_12
def S48_14 : S := .block 1 S48_13
def S48_15 : S := .reg [
    ⟨(some 18), .mov (.tmp 6), none⟩,
    ⟨(some 19), .bin .add (.tmp 18) (.const (.int .i64 1)), none⟩,
    ⟨(some 6), .mov (.tmp 19), none⟩]
def S48_16 : S := .seq S48_14 S48_15
def S48_17 : S := .seq S48_9 S48_16
def S48_18 : S := .loop S48_17
def S48_19 : S := .block 0 S48_18
def S48_20 : S := .seq S48_6 S48_19
def S48_21 : S := .reg [
    ⟨(some 32), .ldN 3 (.tmp 5), none⟩,
    ⟨none, .st 3 (.tmp 4) (.tmp 32), none⟩]
def S48_22 : S := .seq S48_21 .ret
def S48_23 : S := .seq S48_20 S48_22
def S48_24 : S := .seq S48_5 S48_23
def S48_25 : S := .seq S48_4 S48_24
def S48_26 : S := .seq S48_0 S48_25
def S48 : S := S48_26
def G48 : List Tmp := [0, 1, 4, 5, 6, 9, 17, 27]
def R48 : List RV := [.cellN 4 3]
def X48 : XF := ⟨S48, G48, R48, 33⟩
theorem fok48 : FOk Try.prog 48 X48 := ⟨Try.f48, Try.func48, by kernel_rfl, by kernel_rfl, by kernel_rfl, by kernel_rfl⟩

/-! ### 49: minikin/flow.Weakest$1: 2 arguments -/
def S49_0 : S := .reg [
    ⟨(some 2), .box 111 3 (.tmp 0), none⟩,
    ⟨(some 3), .box 111 3 (.tmp 1), none⟩,
    ⟨(some 4), .mov (.const (.int .i64 0)), none⟩]
def S49_1 : S := .reg [
    ⟨(some 6), .off (.tmp 2) 2, none⟩,
    ⟨(some 7), .ld1 (.tmp 6), none⟩,
    ⟨(some 8), .off (.tmp 3) 2, none⟩,
    ⟨(some 9), .ld1 (.tmp 8), none⟩,
    ⟨(some 10), .bin .lss (.tmp 7) (.tmp 9), none⟩,
    ⟨(some 5), .mov (.tmp 10), none⟩]
def S49_2 : S := .reg [
    ⟨(some 4), .mov (.const (.int .i64 (-1))), none⟩]
def S49_3 : S := .seq S49_2 .ret
def S49_4 : S := .reg [
    ⟨(some 12), .off (.tmp 2) 2, none⟩,
    ⟨(some 13), .ld1 (.tmp 12), none⟩,
    ⟨(some 14), .off (.tmp 3) 2, none⟩,
    ⟨(some 15), .ld1 (.tmp 14), none⟩,
    ⟨(some 16), .bin .gtr (.tmp 13) (.tmp 15), none⟩,
    ⟨(some 11), .mov (.tmp 16), none⟩]
def S49_5 : S := .reg [
    ⟨(some 4), .mov (.const (.int .i64 1)), none⟩]
def S49_6 : S := .seq S49_5 .ret
def S49_7 : S := .cond (.tmp 11) S49_6 .skip
def S49_8 : S := .seq S49_4 S49_7
def S49_9 : S := .cond (.tmp 5) S49_3 S49_8
def S49_10 : S := .seq S49_1 S49_9
def S49_11 : S := .block 0 S49_10
def S49_12 : S := .reg [
    ⟨(some 4), .mov (.const (.int .i64 0)), none⟩]
def S49_13 : S := .seq S49_12 .ret
def S49_14 : S := .seq S49_11 S49_13
def S49_15 : S := .seq S49_0 S49_14
def S49 : S := S49_15
def G49 : List Tmp := [0, 1, 2, 3, 4, 5, 11]
def R49 : List RV := [.tmp 4]
def X49 : XF := ⟨S49, G49, R49, 17⟩
theorem fok49 : FOk Try.prog 49 X49 := ⟨Try.f49, Try.func49, by kernel_rfl, by kernel_rfl, by kernel_rfl, by kernel_rfl⟩

/-! ### 50: (minikin/flow.Board).extends: 3 arguments -/
def S50_0 : S := .reg [
    ⟨(some 3), .box 80 2 (.tmp 0), none⟩,
    ⟨(some 6), .mov (.const (.bool false)), none⟩]
def S50_1 : S := .reg [
    ⟨(some 12), .mov (.tmp 1), none⟩,
    ⟨(some 13), .mov (.tmp 1), none⟩,
    ⟨(some 14), .len 0 (.tmp 13), none⟩,
    ⟨(some 15), .bin .sub (.tmp 14) (.const (.int .i64 1)), none⟩,
    ⟨(some 16), .ixSl 1 (.tmp 12) (.tmp 15), none⟩,
    ⟨(some 17), .ld1 (.tmp 16), none⟩,
    ⟨(some 7), .mov (.tmp 17), none⟩]
def S50_2 : S := .reg [
    ⟨(some 18), .mov (.tmp 1), none⟩,
    ⟨(some 19), .bslice 3 1 0 [], none⟩,
    ⟨(some 8), .mov (.tmp 18), none⟩,
    ⟨(some 9), .mov (.tmp 19), none⟩]
def S50_3 : S := .reg [
    ⟨(some 20), .mov (.tmp 7), none⟩,
    ⟨(some 21), .mov (.const (.int .i64 0)), none⟩]
def S50_4 : S := .reg [
    ⟨(some 22), .bin .lss (.tmp 21) (.tmp 20), none⟩]
def S50_5 : S := .cond (.tmp 22) .skip (.exit 0)
def S50_6 : S := .reg [
    ⟨(some 23), .mov (.tmp 21), none⟩,
    ⟨(some 10), .mov (.tmp 23), none⟩]
def S50_7 : S := .reg [
    ⟨(some 24), .mov (.tmp 1), none⟩,
    ⟨(some 25), .mov (.tmp 10), none⟩,
    ⟨(some 26), .call (.func 42) [(.tmp 24), (.tmp 25)], none⟩,
    ⟨(some 27), .not (.tmp 26), none⟩]
def S50_8 : S := .reg [
    ⟨(some 28), .mov (.tmp 9), none⟩,
    ⟨(some 29), .mov (.tmp 10), none⟩,
    ⟨(some 30), .lit 3 1 1 [(0, 1, (.tmp 29))], none⟩,
    ⟨(some 31), .app1 3 1 8 (.tmp 28) 30, none⟩,
    ⟨(some 9), .mov (.tmp 31), none⟩]
def S50_9 : S := .cond (.tmp 27) S50_8 .skip
def S50_10 : S := .seq S50_7 S50_9
def S50_11 : S := .seq S50_6 S50_10
def S50_12 : S := .block 1 S50_11
def S50_13 : S := .reg [
    ⟨(some 32), .bin .add (.tmp 21) (.const (.int .i64 1)), none⟩,
    ⟨(some 21), .mov (.tmp 32), none⟩]
def S50_14 : S := .seq S50_12 S50_13
def S50_15 : S := .seq S50_5 S50_14
def S50_16 : S := .seq S50_4 S50_15
def S50_17 : S := .loop S50_16
def S50_18 : S := .block 0 S50_17
def S50_19 : S := .seq S50_3 S50_18
def S50_20 : S := .reg [
    ⟨(some 33), .mov (.tmp 9), none⟩,
    ⟨(some 34), .len 0 (.tmp 33), none⟩,
    ⟨(some 35), .bin .gtr (.tmp 34) (.const (.int .i64 0)), none⟩]
def S50_21 : S := .reg [
    ⟨(some 36), .ldN 2 (.tmp 3), none⟩,
    ⟨(some 37), .mov (.tmp 8), none⟩,
    ⟨(some 38), .mov (.tmp 9), none⟩,
    ⟨(some 39), .call (.func 58) [(.tmp 36), (.tmp 37), (.tmp 38)], none⟩,
    ⟨(some 40), .mov (.tmp 2), none⟩,
    ⟨(some 41), .bin .eql (.tmp 39) (.tmp 40), none⟩,
    ⟨(some 6), .mov (.tmp 41), none⟩]
def S50_22 : S := .seq S50_21 .ret
def S50_23 : S := .cond (.tmp 35) S50_22 .skip
def S50_24 : S := .seq S50_20 S50_23
def S50_25 : S := .reg [
    ⟨(some 42), .mov (.tmp 7), none⟩,
    ⟨(some 43), .bin .add (.tmp 42) (.const (.int .i64 1)), none⟩,
    ⟨(some 11), .mov (.tmp 43), none⟩]
def S50_26 : S := .reg [
    ⟨(some 44), .mov (.tmp 11), none⟩,
    ⟨(some 45), .off (.tmp 3) 0, none⟩,
    ⟨(some 46), .ld1 (.tmp 45), none⟩,
    ⟨(some 47), .bin .lss (.tmp 44) (.tmp 46), none⟩]
def S50_27 : S := .cond (.tmp 47) .skip (.exit 2)
def S50_28 : S := .seq S50_26 S50_27
def S50_29 : S := .reg [
    ⟨(some 50), .ldN 2 (.tmp 3), none⟩,
    ⟨(some 51), .mov (.tmp 8), none⟩,
    ⟨(some 52), .mov (.tmp 11), none⟩,
    ⟨(some 53), .bslice 3 1 1 [(0, 1, (.tmp 52))], none⟩,
    ⟨(some 54), .call (.func 58) [(.tmp 50), (.tmp 51), (.tmp 53)], none⟩,
    ⟨(some 55), .mov (.tmp 2), none⟩,
    ⟨(some 56), .bin .eql (.tmp 54) (.tmp 55), none⟩]
def S50_30 : S := .reg [
    ⟨(some 6), .mov (.const (.bool true)), none⟩]
def S50_31 : S := .seq S50_30 .ret
def S50_32 : S := .cond (.tmp 56) S50_31 .skip
def S50_33 : S := .seq S50_29 S50_32
def S50_34 : S := .block 3 S50_33
def S50_35 : S := .reg [
    ⟨(some 48), .mov (.tmp 11), none⟩,
    ⟨(some 49), .bin .add (.tmp 48) (.const (.int .i64 1)), none⟩,
    ⟨(some 11), .mov (.tmp 49), none⟩]
def S50_36 : S := .seq S50_34 S50_35
def S50_37 : S := .seq S50_28 S50_36
def S50_38 : S := .loop S50_37
def S50_39 : S := .block 2 S50_38
def S50_40 : S := .seq S50_25 S50_39
def S50_41 : S := .reg [
    ⟨(some 6), .mov (.const (.bool false)), none⟩]
def S50_42 : S := .seq S50_41 .ret
def S50_43 : S := .seq S50_40 S50_42
def S50_44 : S := .seq S50_24 S50_43
def S50_45 : S := .seq S50_19 S50_44
def S50_46 : S := .seq S50_2 S50_45
def S50_47 : S := .seq S50_1 S50_46
def S50_48 : S := .seq S50_0 S50_47
def S50 : S := S50_48
def G50 : List Tmp := [0, 1, 2, 3, 6, 7, 8, 9, 10, 11, 20, 21, 22, 27, 35, 47, 56]
def R50 : List RV := [.tmp 6]
def X50 : XF := ⟨S50, G50, R50, 57⟩
theorem fok50 : FOk Try.prog 50 X50 := ⟨Try.f50, Try.func50, by kernel_rfl, by kernel_rfl, by kernel_rfl, by kernel_rfl⟩

/-! ### 51: slices.Clone[[]int,int]: 1 arguments -/
def S51_0 : S := .reg [
    ⟨(some 2), .mov (.const (.slice none 0 0)), none⟩]
def S51_1 : S := .reg [
    ⟨(some 3), .mov (.tmp 0), none⟩,
    ⟨(some 4), .isnil false 1 (.tmp 3), none⟩]
def S51_2 : S := .reg [
    ⟨(some 2), .mov (.const (.slice none 0 0)), none⟩]
def S51_3 : S := .seq S51_2 .ret
def S51_4 : S := .cond (.tmp 4) S51_3 .skip
def S51_5 : S := .seq S51_1 S51_4
def S51_6 : S := .reg [
    ⟨(some 5), .bslice 3 1 0 [], none⟩,
    ⟨(some 6), .mov (.tmp 0), none⟩,
    ⟨(some 7), .app 3 1 8 (.tmp 5) (.tmp 6), none⟩,
    ⟨(some 2), .mov (.tmp 7), none⟩]
def S51_7 : S := .seq S51_6 .ret
def S51_8 : S := .seq S51_5 S51_7
def S51_9 : S := .seq S51_0 S51_8
def S51 : S := S51_9
def G51 : List Tmp := [0, 2, 4]
def R51 : List RV := [.tmp 2]
def X51 : XF := ⟨S51, G51, R51, 8⟩
theorem fok51 : FOk Try.prog 51 X51 := ⟨Try.f51, Try.func51, by kernel_rfl, by kernel_rfl, by kernel_rfl, by kernel_rfl⟩

/-! ### 52: (*minikin/flow.work).levels: 2 arguments -/
def S52_0 : S := .reg [
    ⟨(some 4), .new 117 24, none⟩]
def S52_1 : S := .reg [
    ⟨(some 5), .new 117 24, none⟩]
def S52_2 : S := .reg [
    ⟨(some 12), .mov (.const (.int .i64 0)), none⟩]
def S52_3 : S := .reg [
    ⟨(some 13), .bin .lss (.tmp 12) (.const (.int .i64 24)), none⟩]
def S52_4 : S := .cond (.tmp 13) .skip (.exit 0)
def S52_5 : S := .reg [
    ⟨(some 14), .mov (.tmp 12), none⟩,
    ⟨(some 6), .mov (.tmp 14), none⟩]
def S52_6 : S := .reg [
    ⟨(some 15), .mov (.tmp 6), none⟩,
    ⟨(some 16), .ixArr 24 1 (.tmp 5) (.tmp 15), none⟩,
    ⟨none, .st 1 (.tmp 16) (.const (.int .i64 (-1))), none⟩]
def S52_7 : S := .seq S52_5 S52_6
def S52_8 : S := .block 1 S52_7
def S52_9 : S := .reg [
    ⟨(some 17), .bin .add (.tmp 12) (.const (.int .i64 1)), none⟩,
    ⟨(some 12), .mov (.tmp 17), none⟩]
def S52_10 : S := .seq S52_8 S52_9
def S52_11 : S := .seq S52_4 S52_10
def S52_12 : S := .seq S52_3 S52_11
def S52_13 : S := .loop S52_12
def S52_14 : S := .block 0 S52_13
def S52_15 : S := .seq S52_2 S52_14
def S52_16 : S := .reg [
    ⟨(some 18), .mov (.tmp 1), none⟩,
    ⟨(some 19), .ixArr 24 1 (.tmp 5) (.tmp 18), none⟩,
    ⟨none, .st 1 (.tmp 19) (.const (.int .i64 0)), none⟩]
def S52_17 : S := .reg [
    ⟨(some 20), .mov (.tmp 1), none⟩,
    ⟨(some 21), .bslice 3 1 1 [(0, 1, (.tmp 20))], none⟩,
    ⟨(some 7), .mov (.tmp 21), none⟩]
def S52_18 : S := .reg [
    ⟨(some 8), .mov (.const (.int .i64 0)), none⟩]
def S52_19 : S := .reg [
    ⟨(some 22), .mov (.tmp 8), none⟩,
    ⟨(some 23), .mov (.tmp 7), none⟩,
    ⟨(some 24), .len 0 (.tmp 23), none⟩,
    ⟨(some 25), .bin .lss (.tmp 22) (.tmp 24), none⟩]
def S52_20 : S := .cond (.tmp 25) .skip (.exit 2)
def S52_21 : S := .seq S52_19 S52_20
def S52_22 : S := .regD <|
    .q 0 false ⟨(some 28), .mov (.tmp 0), none⟩ <|
    .q 1 false ⟨(some 29), .mov (.tmp 7), none⟩ <|
    .q 2 false ⟨(some 30), .mov (.tmp 8), none⟩ <|
    .q 3 false ⟨(some 31), .ixSl 1 (.tmp 29) (.tmp 30), none⟩ <|
    .q 4 false ⟨(some 32), .ld1 (.tmp 31), none⟩ <|
    .q 5 false ⟨(some 33), .nilck (.tmp 28), none⟩ <|
    .q 6 false ⟨(some 34), .off (.tmp 33) 801, none⟩ <|
    .q 7 false ⟨(some 35), .ixArr 24 1 (.tmp 34) (.tmp 32), none⟩ <|
    .q 8 false ⟨(some 36), .ld1 (.tmp 35), none⟩ <|
    .q 9 false ⟨(some 37), .len 0 (.tmp 36), none⟩ <|
    .q 10 false ⟨(some 38), .mov (.const (.int .i64 0)), none⟩ <|
    .fin
def S52_23 : S := .reg [
    ⟨(some 39), .bin .lss (.tmp 38) (.tmp 37), none⟩]
def S52_24 : S := .cond (.tmp 39) .skip (.exit 4)
def S52_25 : S := .reg [
    ⟨(some 40), .ixSl 1 (.tmp 36) (.tmp 38), none⟩,
    ⟨(some 41), .ld1 (.tmp 40), none⟩,
    ⟨(some 10), .mov (.tmp 41), none⟩]
def S52_26 : S := .reg [
    ⟨(some 42), .mov (.tmp 0), none⟩,
    ⟨(some 43), .mov (.tmp 10), none⟩,
    ⟨(some 44), .nilck (.tmp 42), none⟩,
    ⟨(some 45), .off (.tmp 44) 1, none⟩,
    ⟨(some 46), .ixArr 400 1 (.tmp 45) (.tmp 43), none⟩,
    ⟨(some 47), .ld1 (.tmp 46), none⟩,
    ⟨(some 11), .mov (.tmp 47), none⟩]
def S52_27 : S := .reg [
    ⟨(some 48), .mov (.tmp 0), none⟩,
    ⟨(some 49), .mov (.tmp 10), none⟩,
    ⟨(some 50), .nilck (.tmp 48), none⟩,
    ⟨(some 51), .off (.tmp 50) 401, none⟩,
    ⟨(some 52), .ixArr 400 1 (.tmp 51) (.tmp 49), none⟩,
    ⟨(some 53), .ld1 (.tmp 52), none⟩,
    ⟨(some 54), .bin .gtr (.tmp 53) (.const (.int .i64 0)), none⟩,
    ⟨(some 55), .mov (.tmp 54), none⟩,
    ⟨(some 56), .mov (.tmp 11), some (55, true)⟩,
    ⟨(some 57), .ixArr 24 1 (.tmp 5) (.tmp 56), some (55, true)⟩,
    ⟨(some 58), .ld1 (.tmp 57), some (55, true)⟩,
    ⟨(some 59), .bin .lss (.tmp 58) (.const (.int .i64 0)), some (55, true)⟩,
    ⟨(some 60), .pick (.tmp 55) (.tmp 59) (.const (.bool false)), none⟩]
def S52_28 : S := .reg [
    ⟨(some 61), .mov (.tmp 11), none⟩,
    ⟨(some 62), .mov (.tmp 7), none⟩,
    ⟨(some 63), .mov (.tmp 8), none⟩,
    ⟨(some 64), .ixSl 1 (.tmp 62) (.tmp 63), none⟩,
    ⟨(some 65), .ld1 (.tmp 64), none⟩,
    ⟨(some 66), .ixArr 24 1 (.tmp 5) (.tmp 65), none⟩,
    ⟨(some 67), .ld1 (.tmp 66), none⟩,
    ⟨(some 68), .bin .add (.tmp 67) (.const (.int .i64 1)), none⟩,
    ⟨(some 69), .ixArr 24 1 (.tmp 5) (.tmp 61), none⟩,
    ⟨none, .st 1 (.tmp 69) (.tmp 68), none⟩]
def S52_29 : S := .reg [
    ⟨(some 70), .mov (.tmp 7), none⟩,
    ⟨(some 71), .mov (.tmp 11), none⟩,
    ⟨(some 72), .lit 3 1 1 [(0, 1, (.tmp 71))], none⟩,
    ⟨(some 73), .app1 3 1 8 (.tmp 70) 72, none⟩,
    ⟨(some 7), .mov (.tmp 73), none⟩]
def S52_30 : S := .seq S52_28 S52_29
def S52_31 : S := .cond (.tmp 60) S52_30 .skip
def S52_32 : S := .seq S52_27 S52_31
def S52_33 : S := .seq S52_26 S52_32
def S52_34 : S := .seq S52_25 S52_33
def S52_35 : S := .block 5 S52_34
def S52_36 : S := .reg [
    ⟨(some 74), .bin .add (.tmp 38) (.const (.int .i64 1)), none⟩,
    ⟨(some 38), .mov (.tmp 74), none⟩]
def S52_37 : S := .seq S52_35 S52_36
def S52_38 : S := .seq S52_24 S52_37
def S52_39 : S := .seq S52_23 S52_38
def S52_40 : S := .loop S52_39
def S52_41 : S := .block 4 S52_40
def S52_42 : S := .seq S52_22 S52_41
def S52_43 : S := .block 3 S52_42
def S52_44 : S := .reg [
    ⟨(some 26), .mov (.tmp 8), none⟩,
    ⟨(some 27), .bin .add (.tmp 26) (.const (.int .i64 1)), none⟩,
    ⟨(some 8), .mov (.tmp 27), none⟩]
def S52_45 : S := .seq S52_43 S52_44
def S52_46 : S := .seq S52_21 S52_45
def S52_47 : S := .loop S52_46
def S52_48 : S := .block 2 S52_47
def S52_49 : S := .seq S52_18 S52_48
def S52_50 : S := .reg [
    ⟨(some 75), .ldN 24 (.tmp 5), none⟩,
    ⟨none, .st 24 (.tmp 4) (.tmp 75), none⟩]
def S52_51 : S := .seq S52_50 .ret
def S52_52 : S := .seq S52_49 S52_51
def S52_53 : S := .seq S52_17 S52_52
def S52_54 : S := .seq S52_16 S52_53
def S52_55 : S := .seq S52_15 S52_54
def S52_56 : S := .seq S52_1 S52_55
def S52_57 : S := .seq S52_0 S52_56
def S52 : S := S52_57
def G52 : List Tmp := [0, 1, 4, 5, 6, 7, 8, 10, 11, 12, 13, 25, 36, 37, 38, 39, 60]
def R52 : List RV := [.cellN 4 24]
def X52 : XF := ⟨S52, G52, R52, 76⟩
theorem fok52 : FOk Try.prog 52 X52 := ⟨Try.f52, Try.func52, by kernel_rfl, by kernel_rfl, by kernel_rfl, by kernel_rfl⟩

/-! ### 53: (*minikin/flow.work).push$1: 7 arguments -/
def S53_0 : S := .reg [
    ⟨(some 9), .mov (.const (.int .i64 0)), none⟩]
def S53_1 : S := .reg [
    ⟨(some 12), .mov (.tmp 0), none⟩,
    ⟨(some 13), .ld1 (.tmp 2), none⟩,
    ⟨(some 14), .bin .eql (.tmp 12) (.tmp 13), none⟩]
def S53_2 : S := .reg [
    ⟨(some 15), .mov (.tmp 1), none⟩,
    ⟨(some 9), .mov (.tmp 15), none⟩]
def S53_3 : S := .seq S53_2 .ret
def S53_4 : S := .cond (.tmp 14) S53_3 .skip
def S53_5 : S := .seq S53_1 S53_4
def S53_6 : S := .regD <|
    .q 0 false ⟨(some 16), .mov (.tmp 0), none⟩ <|
    .q 1 false ⟨(some 17), .ixArr 24 1 (.tmp 3) (.tmp 16), none⟩ <|
    .q 2 false ⟨(some 18), .ld1 (.tmp 17), none⟩ <|
    .q 3 false ⟨(some 19), .ld1 (.tmp 4), none⟩ <|
    .q 4 false ⟨(some 20), .mov (.tmp 0), none⟩ <|
    .q 5 false ⟨(some 21), .nilck (.tmp 19), none⟩ <|
    .q 6 false ⟨(some 22), .off (.tmp 21) 801, none⟩ <|
    .q 7 false ⟨(some 23), .ixArr 24 1 (.tmp 22) (.tmp 20), none⟩ <|
    .q 8 false ⟨(some 24), .ld1 (.tmp 23), none⟩ <|
    .q 9 false ⟨(some 25), .len 0 (.tmp 24), none⟩ <|
    .q 10 false ⟨(some 26), .bin .lss (.tmp 18) (.tmp 25), none⟩ <|
    .fin
def S53_7 : S := .cond (.tmp 26) .skip (.exit 0)
def S53_8 : S := .seq S53_6 S53_7
def S53_9 : S := .regD <|
    .q 0 false ⟨(some 32), .ld1 (.tmp 4), none⟩ <|
    .q 1 false ⟨(some 33), .mov (.tmp 0), none⟩ <|
    .q 2 false ⟨(some 34), .nilck (.tmp 32), none⟩ <|
    .q 3 false ⟨(some 35), .off (.tmp 34) 801, none⟩ <|
    .q 4 false ⟨(some 36), .ixArr 24 1 (.tmp 35) (.tmp 33), none⟩ <|
    .q 5 false ⟨(some 37), .ld1 (.tmp 36), none⟩ <|
    .q 6 false ⟨(some 38), .mov (.tmp 0), none⟩ <|
    .q 7 false ⟨(some 39), .ixArr 24 1 (.tmp 3) (.tmp 38), none⟩ <|
    .q 8 false ⟨(some 40), .ld1 (.tmp 39), none⟩ <|
    .q 9 false ⟨(some 41), .ixSl 1 (.tmp 37) (.tmp 40), none⟩ <|
    .q 10 false ⟨(some 42), .ld1 (.tmp 41), none⟩ <|
    .q 11 false ⟨(some 10), .mov (.tmp 42), none⟩ <|
    .fin
def S53_10 : S := .regD <|
    .q 0 false ⟨(some 43), .ld1 (.tmp 4), none⟩ <|
    .q 1 false ⟨(some 44), .mov (.tmp 10), none⟩ <|
    .q 2 false ⟨(some 45), .nilck (.tmp 43), none⟩ <|
    .q 3 false ⟨(some 46), .off (.tmp 45) 401, none⟩ <|
    .q 4 false ⟨(some 47), .ixArr 400 1 (.tmp 46) (.tmp 44), none⟩ <|
    .q 5 false ⟨(some 48), .ld1 (.tmp 47), none⟩ <|
    .q 6 false ⟨(some 49), .bin .eql (.tmp 48) (.const (.int .i64 0)), none⟩ <|
    .q 7 false ⟨(some 50), .mov (.tmp 49), none⟩ <|
    .q 8 false ⟨(some 51), .ld1 (.tmp 4), some (50, false)⟩ <|
    .q 9 false ⟨(some 52), .mov (.tmp 10), some (50, false)⟩ <|
    .q 10 false ⟨(some 53), .nilck (.tmp 51), some (50, false)⟩ <|
    .q 11 false ⟨(some 54), .off (.tmp 53) 1, some (50, false)⟩ <|
    .q 12 false ⟨(some 55), .ixArr 400 1 (.tmp 54) (.tmp 52), some (50, false)⟩ <|
    .q 13 false ⟨(some 56), .ld1 (.tmp 55), some (50, false)⟩ <|
    .q 14 false ⟨(some 57), .ixArr 24 1 (.tmp 5) (.tmp 56), some (50, false)⟩ <|
    .q 15 false ⟨(some 58), .ld1 (.tmp 57), some (50, false)⟩ <|
    .q 16 false ⟨(some 59), .mov (.tmp 0), some (50, false)⟩ <|
    .q 17 false ⟨(some 60), .ixArr 24 1 (.tmp 5) (.tmp 59), some (50, false)⟩ <|
    .q 18 false ⟨(some 61), .ld1 (.tmp 60), some (50, false)⟩ <|
    .q 19 false ⟨(some 62), .bin .add (.tmp 61) (.const (.int .i64 1)), some (50, false)⟩ <|
    .q 20 false ⟨(some 63), .bin .neq (.tmp 58) (.tmp 62), some (50, false)⟩ <|
    .q 21 false ⟨(some 64), .pick (.tmp 50) (.const (.bool true)) (.tmp 63), none⟩ <|
    .fin
def S53_11 : S := .cond (.tmp 64) (.exit 1) .skip
def S53_12 : S := .seq S53_10 S53_11
def S53_13 : S := .regD <|
    .q 0 false ⟨(some 65), .ld1 (.tmp 6), none⟩ <|
    .q 1 false ⟨(some 66), .ld1 (.tmp 4), none⟩ <|
    .q 2 false ⟨(some 67), .mov (.tmp 10), none⟩ <|
    .q 3 false ⟨(some 68), .nilck (.tmp 66), none⟩ <|
    .q 4 false ⟨(some 69), .off (.tmp 68) 1, none⟩ <|
    .q 5 false ⟨(some 70), .ixArr 400 1 (.tmp 69) (.tmp 67), none⟩ <|
    .q 6 false ⟨(some 71), .ld1 (.tmp 70), none⟩ <|
    .q 7 false ⟨(some 72), .mov (.tmp 1), none⟩ <|
    .q 8 false ⟨(some 73), .ld1 (.tmp 4), none⟩ <|
    .q 9 false ⟨(some 74), .mov (.tmp 10), none⟩ <|
    .q 10 false ⟨(some 75), .nilck (.tmp 73), none⟩ <|
    .q 11 false ⟨(some 76), .off (.tmp 75) 401, none⟩ <|
    .q 12 false ⟨(some 77), .ixArr 400 1 (.tmp 76) (.tmp 74), none⟩ <|
    .q 13 false ⟨(some 78), .ld1 (.tmp 77), none⟩ <|
    .q 14 false ⟨(some 79), .minmax true [(.tmp 72), (.tmp 78)], none⟩ <|
    .m 15 [] ⟨(some 80), .call (.tmp 65) [(.tmp 71), (.tmp 79)], none⟩ <|
    .q 16 false ⟨(some 11), .mov (.tmp 80), none⟩ <|
    .fin
def S53_14 : S := .reg [
    ⟨(some 81), .mov (.tmp 11), none⟩,
    ⟨(some 82), .bin .gtr (.tmp 81) (.const (.int .i64 0)), none⟩]
def S53_15 : S := .regD <|
    .q 0 false ⟨(some 83), .ld1 (.tmp 4), none⟩ <|
    .q 1 false ⟨(some 84), .mov (.tmp 10), none⟩ <|
    .q 2 false ⟨(some 85), .nilck (.tmp 83), none⟩ <|
    .q 3 false ⟨(some 86), .off (.tmp 85) 401, none⟩ <|
    .q 4 false ⟨(some 87), .ixArr 400 1 (.tmp 86) (.tmp 84), none⟩ <|
    .q 5 false ⟨(some 88), .ld1 (.tmp 87), none⟩ <|
    .q 6 false ⟨(some 89), .mov (.tmp 11), none⟩ <|
    .q 7 false ⟨(some 90), .bin .sub (.tmp 88) (.tmp 89), none⟩ <|
    .q 8 false ⟨(some 91), .nilck (.tmp 83), none⟩ <|
    .q 9 false ⟨(some 92), .off (.tmp 91) 401, none⟩ <|
    .q 10 false ⟨(some 93), .ixArr 400 1 (.tmp 92) (.tmp 84), none⟩ <|
    .m 11 [] ⟨none, .st 1 (.tmp 93) (.tmp 90), none⟩ <|
    .fin
def S53_16 : S := .regD <|
    .q 0 false ⟨(some 94), .ld1 (.tmp 4), none⟩ <|
    .q 1 false ⟨(some 95), .mov (.tmp 10), none⟩ <|
    .q 2 false ⟨(some 96), .bin .xor (.tmp 95) (.const (.int .i64 1)), none⟩ <|
    .q 3 false ⟨(some 97), .nilck (.tmp 94), none⟩ <|
    .q 4 false ⟨(some 98), .off (.tmp 97) 401, none⟩ <|
    .q 5 false ⟨(some 99), .ixArr 400 1 (.tmp 98) (.tmp 96), none⟩ <|
    .q 6 false ⟨(some 100), .ld1 (.tmp 99), none⟩ <|
    .q 7 false ⟨(some 101), .mov (.tmp 11), none⟩ <|
    .q 8 false ⟨(some 102), .bin .add (.tmp 100) (.tmp 101), none⟩ <|
    .q 9 false ⟨(some 103), .nilck (.tmp 94), none⟩ <|
    .q 10 false ⟨(some 104), .off (.tmp 103) 401, none⟩ <|
    .q 11 false ⟨(some 105), .ixArr 400 1 (.tmp 104) (.tmp 96), none⟩ <|
    .m 12 [] ⟨none, .st 1 (.tmp 105) (.tmp 102), none⟩ <|
    .fin
def S53_17 : S := .reg [
    ⟨(some 106), .mov (.tmp 11), none⟩,
    ⟨(some 9), .mov (.tmp 106), none⟩]
def S53_18 : S := .seq S53_17 .ret
def S53_19 : S := .seq S53_16 S53_18
def S53_20 : S := .seq S53_15 S53_19
def S53_21 : S := .cond (.tmp 82) S53_20 .skip
def S53_22 : S := .seq S53_14 S53_21
def S53_23 : S := .seq S53_13 S53_22
def S53_24 : S := .seq S53_12 S53_23
def S53_25 : S := .seq S53_9 S53_24
def S53_26 : S := .block 1 S53_25
def S53_27 : S := .reg [
    ⟨(some 27), .mov (.tmp 0), none⟩,
    ⟨(some 28), .ixArr 24 1 (.tmp 3) (.tmp 27), none⟩,
    ⟨(some 29), .ld1 (.tmp 28), none⟩,
    ⟨(some 30), .bin .add (.tmp 29) (.const (.int .i64 1)), none⟩,
    ⟨(some 31), .ixArr 24 1 (.tmp 3) (.tmp 27), none⟩,
    ⟨none, .st 1 (.tmp 31) (.tmp 30), none⟩]
def S53_28 : S := .seq S53_26 S53_27
def S53_29 : S := .seq S53_8 S53_28
def S53_30 : S := .loop S53_29
def S53_31 : S := .block 0 S53_30
def S53_32 : S := .reg [
    ⟨(some 9), .mov (.const (.int .i64 0)), none⟩]
def S53_33 : S := .seq S53_32 .ret
def S53_34 : S := .seq S53_31 S53_33
def S53_35 : S := .seq S53_5 S53_34
def S53_36 : S := .seq S53_0 S53_35
def S53 : S := S53_36
def G53 : List Tmp := [0, 1, 2, 3, 4, 5, 6, 9, 10, 11, 14, 26, 64, 82]
def R53 : List RV := [.tmp 9]
def X53 : XF := ⟨S53, G53, R53, 107⟩
theorem fok53 : FOk Try.prog 53 X53 := ⟨Try.f53, Try.func53, by kernel_rfl, by kernel_rfl, by kernel_rfl, by kernel_rfl⟩

/-! ### 56: slices.ContainsFunc[[]minikin/flow.Link,minikin/flow.Link]: 2 arguments -/
def S56_0 : S := .reg [
    ⟨(some 4), .mov (.const (.bool false)), none⟩]
def S56_1 : S := .reg [
    ⟨(some 5), .mov (.tmp 0), none⟩,
    ⟨(some 6), .mov (.tmp 1), none⟩,
    ⟨(some 7), .call (.func 59) [(.tmp 5), (.tmp 6)], none⟩,
    ⟨(some 8), .bin .geq (.tmp 7) (.const (.int .i64 0)), none⟩,
    ⟨(some 4), .mov (.tmp 8), none⟩]
def S56_2 : S := .seq S56_1 .ret
def S56_3 : S := .seq S56_0 S56_2
def S56 : S := S56_3
def G56 : List Tmp := [0, 1, 4]
def R56 : List RV := [.tmp 4]
def X56 : XF := ⟨S56, G56, R56, 9⟩
theorem fok56 : FOk Try.prog 56 X56 := ⟨Try.f56, Try.func56, by kernel_rfl, by kernel_rfl, by kernel_rfl, by kernel_rfl⟩

/-! ### 57: minikin/flow.CheckBoard$1: 2 arguments -/
def S57_0 : S := .reg [
    ⟨(some 2), .box 77 3 (.tmp 0), none⟩,
    ⟨(some 3), .mov (.const (.bool false)), none⟩]
def S57_1 : S := .reg [
    ⟨(some 4), .off (.tmp 1) 0, none⟩,
    ⟨(some 5), .ld1 (.tmp 4), none⟩,
    ⟨(some 6), .off (.tmp 2) 0, none⟩,
    ⟨(some 7), .ld1 (.tmp 6), none⟩,
    ⟨(some 8), .off (.tmp 2) 1, none⟩,
    ⟨(some 9), .ld1 (.tmp 8), none⟩,
    ⟨(some 10), .off (.tmp 2) 2, none⟩,
    ⟨(some 11), .ld1 (.tmp 10), none⟩,
    ⟨(some 12), .build 73 [(0, 1, (.tmp 7)), (1, 1, (.tmp 9)), (2, 1, (.tmp 11))], none⟩,
    ⟨(some 13), .call (.func 45) [(.tmp 5), (.tmp 12)], none⟩,
    ⟨(some 14), .not (.tmp 13), none⟩,
    ⟨(some 3), .mov (.tmp 14), none⟩]
def S57_2 : S := .seq S57_1 .ret
def S57_3 : S := .seq S57_0 S57_2
def S57 : S := S57_3
def G57 : List Tmp := [0, 1, 2, 3]
def R57 : List RV := [.tmp 3]
def X57 : XF := ⟨S57, G57, R57, 15⟩
theorem fok57 : FOk Try.prog 57 X57 := ⟨Try.f57, Try.func57, by kernel_rfl, by kernel_rfl, by kernel_rfl, by kernel_rfl⟩

/-! ### 58: (minikin/flow.Board).joined: 3 arguments -/
def S58_0 : S := .reg [
    ⟨(some 3), .box 80 2 (.tmp 0), none⟩,
    ⟨(some 6), .mov (.const (.int .i64 0)), none⟩]
def S58_1 : S := .reg [
    ⟨(some 10), .off (.tmp 3) 0, none⟩,
    ⟨(some 11), .ld1 (.tmp 10), none⟩,
    ⟨(some 12), .build 80 [(0, 1, (.tmp 11))], none⟩,
    ⟨(some 7), .new 80 2, none⟩,
    ⟨none, .st 2 (.tmp 7) (.tmp 12), none⟩]
def S58_2 : S := .reg [
    ⟨(some 13), .off (.tmp 3) 1, none⟩,
    ⟨(some 14), .ld1 (.tmp 13), none⟩,
    ⟨(some 15), .len 0 (.tmp 14), none⟩,
    ⟨(some 16), .mov (.const (.int .i64 0)), none⟩]
def S58_3 : S := .reg [
    ⟨(some 17), .bin .lss (.tmp 16) (.tmp 15), none⟩]
def S58_4 : S := .cond (.tmp 17) .skip (.exit 0)
def S58_5 : S := .reg [
    ⟨(some 18), .ixSl 3 (.tmp 14) (.tmp 16), none⟩,
    ⟨(some 19), .ldN 3 (.tmp 18), none⟩,
    ⟨(some 9), .new 77 3, none⟩,
    ⟨none, .st 3 (.tmp 9) (.tmp 19), none⟩]
def S58_6 : S := .regD <|
    .q 0 false ⟨(some 20), .off (.tmp 7) 1, none⟩ <|
    .q 1 true ⟨(some 21), .ld1 (.tmp 20), none⟩ <|
    .q 2 false ⟨(some 22), .off (.tmp 9) 0, none⟩ <|
    .q 3 true ⟨(some 23), .ld1 (.tmp 22), none⟩ <|
    .q 4 false ⟨(some 24), .mov (.tmp 1), none⟩ <|
    .q 5 false ⟨(some 25), .mov (.tmp 2), none⟩ <|
    .q 8 false ⟨(some 28), .off (.tmp 9) 1, none⟩ <|
    .q 9 true ⟨(some 29), .ld1 (.tmp 28), none⟩ <|
    .q 10 false ⟨(some 30), .mov (.tmp 1), none⟩ <|
    .q 11 false ⟨(some 31), .mov (.tmp 2), none⟩ <|
    .q 14 false ⟨(some 34), .off (.tmp 9) 2, none⟩ <|
    .q 15 true ⟨(some 35), .ld1 (.tmp 34), none⟩ <|
    .alt (.m 6 [1, 3, 9, 15] ⟨(some 26), .bslice 34 1 2 [(0, 1, (.tmp 24)), (1, 1, (.tmp 25))], none⟩ <|
    .alt (.m 7 [1, 9, 15] ⟨(some 27), .call (.func 60) [(.tmp 23), (.tmp 26)], none⟩ <|
    .m 12 [1, 3, 9, 15] ⟨(some 32), .bslice 34 1 2 [(0, 1, (.tmp 30)), (1, 1, (.tmp 31))], none⟩ <|
    .m 13 [1, 15] ⟨(some 33), .call (.func 60) [(.tmp 29), (.tmp 32)], none⟩ <|
    .q 16 false ⟨(some 36), .build 77 [(0, 1, (.tmp 27)), (1, 1, (.tmp 33)), (2, 1, (.tmp 35))], none⟩ <|
    .q 17 false ⟨(some 37), .lit 77 3 1 [(0, 3, (.tmp 36))], none⟩ <|
    .m 18 [] ⟨(some 38), .app1 77 3 24 (.tmp 21) 37, none⟩ <|
    .q 19 false ⟨(some 39), .off (.tmp 7) 1, none⟩ <|
    .m 20 [] ⟨none, .st 1 (.tmp 39) (.tmp 38), none⟩ <|
    .fin) (.m 12 [1, 3, 9, 15] ⟨(some 32), .bslice 34 1 2 [(0, 1, (.tmp 30)), (1, 1, (.tmp 31))], none⟩ <|
    .m 7 [1, 9, 15] ⟨(some 27), .call (.func 60) [(.tmp 23), (.tmp 26)], none⟩ <|
    .m 13 [1, 15] ⟨(some 33), .call (.func 60) [(.tmp 29), (.tmp 32)], none⟩ <|
    .q 16 false ⟨(some 36), .build 77 [(0, 1, (.tmp 27)), (1, 1, (.tmp 33)), (2, 1, (.tmp 35))], none⟩ <|
    .q 17 false ⟨(some 37), .lit 77 3 1 [(0, 3, (.tmp 36))], none⟩ <|
    .m 18 [] ⟨(some 38), .app1 77 3 24 (.tmp 21) 37, none⟩ <|
    .q 19 false ⟨(some 39), .off (.tmp 7) 1, none⟩ <|
    .m 20 [] ⟨none, .st 1 (.tmp 39) (.tmp 38), none⟩ <|
    .fin)) (.m 12 [1, 3, 9, 15] ⟨(some 32), .bslice 34 1 2 [(0, 1, (.tmp 30)), (1, 1, (.tmp 31))], none⟩ <|
    .m 6 [1, 3, 9, 15] ⟨(some 26), .bslice 34 1 2 [(0, 1, (.tmp 24)), (1, 1, (.tmp 25))], none⟩ <|
    .m 7 [1, 9, 15] ⟨(some 27), .call (.func 60) [(.tmp 23), (.tmp 26)], none⟩ <|
    .m 13 [1, 15] ⟨(some 33), .call (.func 60) [(.tmp 29), (.tmp 32)], none⟩ <|
    .q 16 false ⟨(some 36), .build 77 [(0, 1, (.tmp 27)), (1, 1, (.tmp 33)), (2, 1, (.tmp 35))], none⟩ <|
    .q 17 false ⟨(some 37), .lit 77 3 1 [(0, 3, (.tmp 36))], none⟩ <|
    .m 18 [] ⟨(some 38), .app1 77 3 24 (.tmp 21) 37, none⟩ <|
    .q 19 false ⟨(some 39), .off (.tmp 7) 1, none⟩ <|
    .m 20 [] ⟨none, .st 1 (.tmp 39) (.tmp 38), none⟩ <|
    .fin)
def S58_7 : S := .seq S58_5 S58_6
def S58_8 : S := .block 1 S58_7
def S58_9 : S := .reg [
    ⟨(some 40), .bin .add (.tmp 16) (.const (.int .i64 1)), none⟩,
    ⟨(some 16), .mov (.tmp 40), none⟩]
def S58_10 : S := .seq S58_8 S58_9
def S58_11 : S := .seq S58_4 S58_10
def S58_12 : S := .seq S58_3 S58_11
def S58_13 : S := .loop S58_12
def S58_14 : S := .block 0 S58_13
def S58_15 : S := .seq S58_2 S58_14
def S58_16 : S := .regD <|
    .q 0 false ⟨(some 41), .ldN 2 (.tmp 7), none⟩ <|
    .q 1 false ⟨(some 42), .iface 80 (.tmp 41), none⟩ <|
    .q 3 false ⟨(some 44), .mov (.tmp 1), none⟩ <|
    .q 4 false ⟨(some 45), .ixSl 1 (.tmp 44) (.const (.int .i64 0)), none⟩ <|
    .q 5 true ⟨(some 46), .ld1 (.tmp 45), none⟩ <|
    .q 6 false ⟨(some 47), .mov (.tmp 2), none⟩ <|
    .q 7 false ⟨(some 48), .ixSl 1 (.tmp 47) (.const (.int .i64 0)), none⟩ <|
    .q 8 true ⟨(some 49), .ld1 (.tmp 48), none⟩ <|
    .m 2 [5, 8] ⟨(some 43), .call (.func 34) [(.tmp 42)], none⟩ <|
    .m 9 [] ⟨(some 50), .call (.func 35) [(.tmp 43), (.tmp 46), (.tmp 49)], none⟩ <|
    .q 10 false ⟨(some 6), .mov (.tmp 50), none⟩ <|
    .fin
def S58_17 : S := .seq S58_16 .ret
def S58_18 : S := .seq S58_15 S58_17
def S58_19 : S := .seq S58_1 S58_18
def S58_20 : S := .seq S58_0 S58_19
def S58 : S := S58_20
def G58 : List Tmp := [0, 1, 2, 3, 6, 7, 9, 14, 15, 16, 17]
def R58 : List RV := [.tmp 6]
def X58 : XF := ⟨S58, G58, R58, 51⟩
theorem fok58 : FOk Try.prog 58 X58 := ⟨Try.f58, Try.func58, by kernel_rfl, by kernel_rfl, by kernel_rfl, by kernel_rfl⟩

/-! ### 59: slices.IndexFunc[[]minikin/flow.Link,minikin/flow.Link]: 2 arguments -/
def S59_0 : S := .reg [
    ⟨(some 4), .mov (.const (.int .i64 0)), none⟩]
def S59_1 : S := .reg [
    ⟨(some 6), .mov (.tmp 0), none⟩,
    ⟨(some 7), .len 0 (.tmp 6), none⟩,
    ⟨(some 8), .mov (.const (.int .i64 0)), none⟩]
def S59_2 : S := .reg [
    ⟨(some 9), .bin .lss (.tmp 8) (.tmp 7), none⟩]
def S59_3 : S := .cond (.tmp 9) .skip (.exit 0)
def S59_4 : S := .reg [
    ⟨(some 10), .mov (.tmp 8), none⟩,
    ⟨(some 5), .mov (.tmp 10), none⟩]
def S59_5 : S := .reg [
    ⟨(some 11), .mov (.tmp 1), none⟩,
    ⟨(some 12), .mov (.tmp 0), none⟩,
    ⟨(some 13), .mov (.tmp 5), none⟩,
    ⟨(some 14), .ixSl 3 (.tmp 12) (.tmp 13), none⟩,
    ⟨(some 15), .ldN 3 (.tmp 14), none⟩,
    ⟨(some 16), .call (.tmp 11) [(.tmp 15)], none⟩]
def S59_6 : S := .reg [
    ⟨(some 17), .mov (.tmp 5), none⟩,
    ⟨(some 4), .mov (.tmp 17), none⟩]
def S59_7 : S := .seq S59_6 .ret
def S59_8 : S := .cond (.tmp 16) S59_7 .skip
def S59_9 : S := .seq S59_5 S59_8
def S59_10 : S := .seq S59_4 S59_9
def S59_11 : S := .block 1 S59_10
def S59_12 : S := .reg [
    ⟨(some 18), .bin .add (.tmp 8) (.const (.int .i64 1)), none⟩,
    ⟨(some 8), .mov (.tmp 18), none⟩]
def S59_13 : S := .seq S59_11 S59_12
def S59_14 : S := .seq S59_3 S59_13
def S59_15 : S := .seq S59_2 S59_14
def S59_16 : S := .loop S59_15
def S59_17 : S := .block 0 S59_16
def S59_18 : S := .seq S59_1 S59_17
def S59_19 : S := .reg [
    ⟨(some 4), .mov (.const (.int .i64 (-1))), none⟩]
def S59_20 : S := .seq S59_19 .ret
def S59_21 : S := .seq S59_18 S59_20
def S59_22 : S := .seq S59_0 S59_21
def S59 : S := S59_22
def G59 : List Tmp := [0, 1, 4, 5, 7, 8, 9, 16]
def R59 : List RV := [.tmp 4]
def X59 : XF := ⟨S59, G59, R59, 19⟩
theorem fok59 : FOk Try.prog 59 X59 := ⟨Try.f59, Try.func59, by kernel_rfl, by kernel_rfl, by kernel_rfl, by kernel_rfl⟩

/-! ### 60: minikin/flow.merged: 2 arguments -/
def S60_0 : S := .reg [
    ⟨(some 4), .mov (.const (.int .i64 0)), none⟩]
def S60_1 : S := .reg [
    ⟨(some 7), .mov (.tmp 1), none⟩,
    ⟨(some 8), .len 0 (.tmp 7), none⟩,
    ⟨(some 9), .mov (.const (.int .i64 0)), none⟩]
def S60_2 : S := .reg [
    ⟨(some 10), .bin .lss (.tmp 9) (.tmp 8), none⟩]
def S60_3 : S := .cond (.tmp 10) .skip (.exit 0)
def S60_4 : S := .reg [
    ⟨(some 11), .ixSl 1 (.tmp 7) (.tmp 9), none⟩,
    ⟨(some 12), .ld1 (.tmp 11), none⟩,
    ⟨(some 6), .mov (.tmp 12), none⟩]
def S60_5 : S := .reg [
    ⟨(some 13), .mov (.tmp 6), none⟩,
    ⟨(some 14), .mov (.tmp 0), none⟩,
    ⟨(some 15), .call (.func 42) [(.tmp 13), (.tmp 14)], none⟩]
def S60_6 : S := .reg [
    ⟨(some 16), .mov (.tmp 6), none⟩,
    ⟨(some 17), .ixSl 1 (.tmp 16) (.const (.int .i64 0)), none⟩,
    ⟨(some 18), .ld1 (.tmp 17), none⟩,
    ⟨(some 4), .mov (.tmp 18), none⟩]
def S60_7 : S := .seq S60_6 .ret
def S60_8 : S := .cond (.tmp 15) S60_7 .skip
def S60_9 : S := .seq S60_5 S60_8
def S60_10 : S := .seq S60_4 S60_9
def S60_11 : S := .block 1 S60_10
def S60_12 : S := .reg [
    ⟨(some 19), .bin .add (.tmp 9) (.const (.int .i64 1)), none⟩,
    ⟨(some 9), .mov (.tmp 19), none⟩]
def S60_13 : S := .seq S60_11 S60_12
def S60_14 : S := .seq S60_3 S60_13
def S60_15 : S := .seq S60_2 S60_14
def S60_16 : S := .loop S60_15
def S60_17 : S := .block 0 S60_16
def S60_18 : S := .seq S60_1 S60_17
def S60_19 : S := .reg [
    ⟨(some 20), .mov (.tmp 0), none⟩,
    ⟨(some 4), .mov (.tmp 20), none⟩]
def S60_20 : S := .seq S60_19 .ret
def S60_21 : S := .seq S60_18 S60_20
def S60_22 : S := .seq S60_0 S60_21
def S60 : S := S60_22
def G60 : List Tmp := [0, 1, 4, 6, 7, 8, 9, 10, 15]
def R60 : List RV := [.tmp 4]
def X60 : XF := ⟨S60, G60, R60, 21⟩
theorem fok60 : FOk Try.prog 60 X60 := ⟨Try.f60, Try.func60, by kernel_rfl, by kernel_rfl, by kernel_rfl, by kernel_rfl⟩

/-! ### 79: (minikin/flow.Board).arcs: 1 arguments -/
def S79_0 : S := .reg [
    ⟨(some 1), .box 80 2 (.tmp 0), none⟩,
    ⟨(some 2), .mov (.const .nilFunc), none⟩]
def S79_1 : S := .reg [
    ⟨(some 3), .mkfunc 81 [] [(.tmp 1)], none⟩,
    ⟨(some 2), .mov (.tmp 3), none⟩]
def S79_2 : S := .seq S79_1 .ret
def S79_3 : S := .seq S79_0 S79_2
def S79 : S := S79_3
def G79 : List Tmp := [0, 1, 2]
def R79 : List RV := [.tmp 2]
def X79 : XF := ⟨S79, G79, R79, 4⟩
theorem fok79 : FOk Try.prog 79 X79 := ⟨Try.f79, Try.func79, by kernel_rfl, by kernel_rfl, by kernel_rfl, by kernel_rfl⟩

/-! ### 80: (minikin/flow.Board).size: 1 arguments -/
def S80_0 : S := .reg [
    ⟨(some 1), .box 80 2 (.tmp 0), none⟩,
    ⟨(some 2), .mov (.const (.int .i64 0)), none⟩]
def S80_1 : S := .reg [
    ⟨(some 3), .off (.tmp 1) 0, none⟩,
    ⟨(some 4), .ld1 (.tmp 3), none⟩,
    ⟨(some 2), .mov (.tmp 4), none⟩]
def S80_2 : S := .seq S80_1 .ret
def S80_3 : S := .seq S80_0 S80_2
def S80 : S := S80_3
def G80 : List Tmp := [0, 1, 2]
def R80 : List RV := [.tmp 2]
def X80 : XF := ⟨S80, G80, R80, 5⟩
theorem fok80 : FOk Try.prog 80 X80 := ⟨Try.f80, Try.func80, by kernel_rfl, by kernel_rfl, by kernel_rfl, by kernel_rfl⟩

/-! ### 81: (minikin/flow.Board).arcs$1: 2 arguments -/
def S81_0 : S := .reg [
    ⟨(some 5), .off (.tmp 1) 1, none⟩,
    ⟨(some 6), .ld1 (.tmp 5), none⟩,
    ⟨(some 7), .len 0 (.tmp 6), none⟩,
    ⟨(some 8), .mov (.const (.int .i64 0)), none⟩]
def S81_1 : S := .reg [
    ⟨(some 9), .bin .lss (.tmp 8) (.tmp 7), none⟩]
def S81_2 : S := .cond (.tmp 9) .skip (.exit 0)
def S81_3 : S := .reg [
    ⟨(some 10), .ixSl 3 (.tmp 6) (.tmp 8), none⟩,
    ⟨(some 11), .ldN 3 (.tmp 10), none⟩,
    ⟨(some 4), .new 77 3, none⟩,
    ⟨none, .st 3 (.tmp 4) (.tmp 11), none⟩]
def S81_4 : S := .reg [
    ⟨(some 12), .mov (.tmp 0), none⟩,
    ⟨(some 13), .off (.tmp 4) 0, none⟩,
    ⟨(some 14), .ld1 (.tmp 13), none⟩,
    ⟨(some 15), .off (.tmp 4) 1, none⟩,
    ⟨(some 16), .ld1 (.tmp 15), none⟩,
    ⟨(some 17), .off (.tmp 4) 2, none⟩,
    ⟨(some 18), .ld1 (.tmp 17), none⟩,
    ⟨(some 19), .build 73 [(0, 1, (.tmp 14)), (1, 1, (.tmp 16)), (2, 1, (.tmp 18))], none⟩,
    ⟨(some 20), .off (.tmp 4) 2, none⟩,
    ⟨(some 21), .ld1 (.tmp 20), none⟩,
    ⟨(some 22), .call (.tmp 12) [(.tmp 19), (.tmp 21)], none⟩,
    ⟨(some 23), .not (.tmp 22), none⟩]
def S81_5 : S := .cond (.tmp 23) .ret .skip
def S81_6 : S := .seq S81_4 S81_5
def S81_7 : S := .seq S81_3 S81_6
def S81_8 : S := .block 1 S81_7
def S81_9 : S := .reg [
    ⟨(some 24), .bin .add (.tmp 8) (.const (.int .i64 1)), none⟩,
    ⟨(some 8), .mov (.tmp 24), none⟩]
def S81_10 : S := .seq S81_8 S81_9
def S81_11 : S := .seq S81_2 S81_10
def S81_12 : S := .seq S81_1 S81_11
def S81_13 : S := .loop S81_12
def S81_14 : S := .block 0 S81_13
def S81_15 : S := .seq S81_0 S81_14
def S81 : S := S81_15
def G81 : List Tmp := [0, 1, 4, 6, 7, 8, 9, 23]
def R81 : List RV := []
def X81 : XF := ⟨S81, G81, R81, 25⟩
theorem fok81 : FOk Try.prog 81 X81 := ⟨Try.f81, Try.func81, by kernel_rfl, by kernel_rfl, by kernel_rfl, by kernel_rfl⟩

end Go.Proofs.Ytnhodgonmceojaa.Sh
