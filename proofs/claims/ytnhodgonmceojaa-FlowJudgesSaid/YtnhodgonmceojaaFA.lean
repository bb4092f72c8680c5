/- The functions of the program in the form that the abstract memory's laws speak of: printed by program, each checked by the kernel. -/
import Derived.Test.YtnhodgonmceojaaShNb
import Derived.Test.YtnhodgonmceojaaProg
set_option linter.unusedVariables false
namespace Go.Proofs.Ytnhodgonmceojaa.Sh
open Go.RowKit
/-! ### 8: minikin/minikinlaw03.tame: 3 arguments -/
def S8_0 : S := .reg [
    ⟨(some 3), .box 24 2 (.tmp 0), none⟩,
    ⟨(some 6), .new 24 2, none⟩]
def S8_1 : S := .reg [
    ⟨(some 12), .off (.tmp 3) 0, none⟩,
    ⟨(some 13), .ld1 (.tmp 12), none⟩,
    ⟨(some 14), .bin .sub (.tmp 13) (.const (.int .i64 2)), none⟩,
    ⟨(some 15), .conv .u64 (.tmp 14), none⟩,
    ⟨(some 16), .mov (.tmp 1), none⟩,
    ⟨(some 17), .bin .sub (.tmp 16) (.const (.int .i64 1)), none⟩,
    ⟨(some 18), .conv .u64 (.tmp 17), none⟩,
    ⟨(some 19), .bin .rem (.tmp 15) (.tmp 18), none⟩,
    ⟨(some 20), .conv .i64 (.tmp 19), none⟩,
    ⟨(some 21), .bin .add (.const (.int .i64 2)) (.tmp 20), none⟩,
    ⟨(some 22), .build 24 [(0, 1, (.tmp 21))], none⟩,
    ⟨(some 7), .new 24 2, none⟩,
    ⟨none, .st 2 (.tmp 7) (.tmp 22), none⟩]
def S8_2 : S := .reg [
    ⟨(some 8), .mov (.const (.int .i64 0)), none⟩]
def S8_3 : S := .reg [
    ⟨(some 23), .mov (.tmp 8), none⟩,
    ⟨(some 24), .off (.tmp 3) 1, none⟩,
    ⟨(some 25), .ld1 (.tmp 24), none⟩,
    ⟨(some 26), .len 0 (.tmp 25), none⟩,
    ⟨(some 27), .bin .lss (.tmp 23) (.tmp 26), none⟩,
    ⟨(some 28), .mov (.tmp 27), none⟩,
    ⟨(some 29), .mov (.tmp 8), some (28, true)⟩,
    ⟨(some 30), .mov (.tmp 2), some (28, true)⟩,
    ⟨(some 31), .bin .lss (.tmp 29) (.tmp 30), some (28, true)⟩,
    ⟨(some 32), .pick (.tmp 28) (.tmp 31) (.const (.bool false)), none⟩]
def S8_4 : S := .cond (.tmp 32) .skip (.exit 0)
def S8_5 : S := .seq S8_3 S8_4
def S8_6 : S := .reg [
    ⟨(some 35), .off (.tmp 3) 1, none⟩,
    ⟨(some 36), .ld1 (.tmp 35), none⟩,
    ⟨(some 37), .mov (.tmp 8), none⟩,
    ⟨(some 38), .ixSl 3 (.tmp 36) (.tmp 37), none⟩,
    ⟨(some 39), .ldN 3 (.tmp 38), none⟩,
    ⟨(some 9), .new 55 3, none⟩,
    ⟨none, .st 3 (.tmp 9) (.tmp 39), none⟩]
def S8_7 : S := .regD <|
    .q 0 false ⟨(some 40), .off (.tmp 9) 0, none⟩ <|
    .q 1 true ⟨(some 41), .ld1 (.tmp 40), none⟩ <|
    .q 2 false ⟨(some 42), .conv .u64 (.tmp 41), none⟩ <|
    .q 3 false ⟨(some 43), .off (.tmp 7) 0, none⟩ <|
    .q 4 true ⟨(some 44), .ld1 (.tmp 43), none⟩ <|
    .q 5 false ⟨(some 45), .conv .u64 (.tmp 44), none⟩ <|
    .q 6 false ⟨(some 46), .bin .rem (.tmp 42) (.tmp 45), none⟩ <|
    .q 7 false ⟨(some 47), .conv .i64 (.tmp 46), none⟩ <|
    .q 8 false ⟨(some 48), .off (.tmp 9) 1, none⟩ <|
    .q 9 true ⟨(some 49), .ld1 (.tmp 48), none⟩ <|
    .q 10 false ⟨(some 50), .conv .u64 (.tmp 49), none⟩ <|
    .q 11 false ⟨(some 51), .off (.tmp 7) 0, none⟩ <|
    .q 12 true ⟨(some 52), .ld1 (.tmp 51), none⟩ <|
    .q 13 false ⟨(some 53), .conv .u64 (.tmp 52), none⟩ <|
    .q 14 false ⟨(some 54), .bin .rem (.tmp 50) (.tmp 53), none⟩ <|
    .q 15 false ⟨(some 55), .conv .i64 (.tmp 54), none⟩ <|
    .q 16 false ⟨(some 56), .off (.tmp 9) 2, none⟩ <|
    .q 17 true ⟨(some 57), .ld1 (.tmp 56), none⟩ <|
    .q 18 false ⟨(some 58), .conv .u64 (.tmp 57), none⟩ <|
    .q 19 false ⟨(some 59), .bin .rem (.tmp 58) (.const (.int .u64 1000000001)), none⟩ <|
    .q 20 false ⟨(some 60), .conv .i64 (.tmp 59), none⟩ <|
    .q 21 false ⟨(some 61), .build 55 [(0, 1, (.tmp 47)), (1, 1, (.tmp 55)), (2, 1, (.tmp 60))], none⟩ <|
    .m 22 [1, 4, 9, 12, 17] ⟨(some 10), .new 55 3, none⟩ <|
    .m 23 [] ⟨none, .st 3 (.tmp 10) (.tmp 61), none⟩ <|
    .fin
def S8_8 : S := .reg [
    ⟨(some 62), .off (.tmp 10) 0, none⟩,
    ⟨(some 63), .ld1 (.tmp 62), none⟩,
    ⟨(some 64), .off (.tmp 10) 1, none⟩,
    ⟨(some 65), .ld1 (.tmp 64), none⟩,
    ⟨(some 66), .bin .eql (.tmp 63) (.tmp 65), none⟩]
def S8_9 : S := .reg [
    ⟨(some 67), .off (.tmp 10) 0, none⟩,
    ⟨(some 68), .ld1 (.tmp 67), none⟩,
    ⟨(some 69), .bin .add (.tmp 68) (.const (.int .i64 1)), none⟩,
    ⟨(some 70), .off (.tmp 7) 0, none⟩,
    ⟨(some 71), .ld1 (.tmp 70), none⟩,
    ⟨(some 72), .bin .rem (.tmp 69) (.tmp 71), none⟩,
    ⟨(some 73), .off (.tmp 10) 1, none⟩,
    ⟨none, .st 1 (.tmp 73) (.tmp 72), none⟩]
def S8_10 : S := .cond (.tmp 66) S8_9 .skip
def S8_11 : S := .seq S8_8 S8_10
def S8_12 : S := .reg [
    ⟨(some 74), .off (.tmp 7) 1, none⟩,
    ⟨(some 75), .ld1 (.tmp 74), none⟩,
    ⟨(some 11), .mov (.tmp 75), none⟩]
def S8_13 : S := .reg [
    ⟨(some 76), .mov (.tmp 11), none⟩,
    ⟨(some 77), .ldN 3 (.tmp 10), none⟩,
    ⟨(some 78), .lit 55 3 1 [(0, 3, (.tmp 77))], none⟩,
    ⟨(some 79), .app1 55 3 24 (.tmp 76) 78, none⟩,
    ⟨(some 80), .off (.tmp 7) 1, none⟩,
    ⟨none, .st 1 (.tmp 80) (.tmp 79), none⟩]
def S8_14 : S := .seq S8_12 S8_13
def S8_15 : S := .seq S8_11 S8_14
def S8_16 : S := .seq S8_7 S8_15
def S8_17 : S := .seq S8_6 S8_16
def S8_18 : S := .block 1 S8_17
def S8_19 : S := .reg [
    ⟨(some 33), .mov (.tmp 8), none⟩,
    ⟨(some 34), .bin .add (.tmp 33) (.const (.int .i64 1)), none⟩,
    ⟨(some 8), .mov (.tmp 34), none⟩]
def S8_20 : S := .seq S8_18 S8_19
def S8_21 : S := .seq S8_5 S8_20
def S8_22 : S := .loop S8_21
def S8_23 : S := .block 0 S8_22
def S8_24 : S := .seq S8_2 S8_23
def S8_25 : S := .reg [
    ⟨(some 81), .ldN 2 (.tmp 7), none⟩,
    ⟨none, .st 2 (.tmp 6) (.tmp 81), none⟩]
def S8_26 : S := .seq S8_25 .ret
def S8_27 : S := .seq S8_24 S8_26
def S8_28 : S := .seq S8_1 S8_27
def S8_29 : S := .seq S8_0 S8_28
def S8 : S := S8_29
def G8 : List Tmp := [0, 1, 2, 3, 6, 7, 8, 9, 10, 11, 32, 66]
def R8 : List RV := [.cellN 6 2]
def X8 : XF := ⟨S8, G8, R8, 82⟩
theorem fok8 : FOk Try.prog 8 X8 := ⟨Try.f8, Try.func8, by kernel_rfl, by kernel_rfl, by kernel_rfl, by kernel_rfl⟩

/-! ### 9: minikin/flow.Capacity: 2 arguments -/
def S9_0 : S := .reg [
    ⟨(some 2), .box 32 2 (.tmp 0), none⟩,
    ⟨(some 4), .mov (.const (.int .i64 0)), none⟩,
    ⟨(some 5), .mov (.const (.int .i64 0)), none⟩]
def S9_1 : S := .reg [
    ⟨(some 7), .ldN 2 (.tmp 2), none⟩,
    ⟨(some 8), .call (.func 29) [(.tmp 7)], none⟩,
    ⟨(some 6), .mov (.tmp 8), none⟩]
def S9_2 : S := .reg [
    ⟨(some 9), .mov (.tmp 6), none⟩,
    ⟨(some 10), .bin .neq (.tmp 9) (.const (.int .i64 0)), none⟩]
def S9_3 : S := .reg [
    ⟨(some 11), .mov (.tmp 6), none⟩,
    ⟨(some 4), .mov (.const (.int .i64 0)), none⟩,
    ⟨(some 5), .mov (.tmp 11), none⟩]
def S9_4 : S := .seq S9_3 .ret
def S9_5 : S := .cond (.tmp 10) S9_4 .skip
def S9_6 : S := .seq S9_2 S9_5
def S9_7 : S := .seq S9_1 S9_6
def S9_8 : S := .reg [
    ⟨(some 12), .off (.tmp 2) 0, none⟩,
    ⟨(some 13), .ld1 (.tmp 12), none⟩,
    ⟨(some 14), .mov (.tmp 1), none⟩,
    ⟨(some 15), .call (.func 30) [(.tmp 13), (.tmp 14)], none⟩,
    ⟨(some 16), .not (.tmp 15), none⟩]
def S9_9 : S := .reg [
    ⟨(some 4), .mov (.const (.int .i64 0)), none⟩,
    ⟨(some 5), .mov (.const (.int .i64 1)), none⟩]
def S9_10 : S := .seq S9_9 .ret
def S9_11 : S := .cond (.tmp 16) S9_10 .skip
def S9_12 : S := .seq S9_8 S9_11
def S9_13 : S := .reg [
    ⟨(some 17), .iface 72 (.tmp 2), none⟩,
    ⟨(some 18), .mov (.tmp 1), none⟩,
    ⟨(some 19), .call (.func 31) [(.tmp 17), (.tmp 18)], none⟩,
    ⟨(some 4), .mov (.tmp 19), none⟩,
    ⟨(some 5), .mov (.const (.int .i64 0)), none⟩]
def S9_14 : S := .seq S9_13 .ret
def S9_15 : S := .seq S9_12 S9_14
def S9_16 : S := .seq S9_7 S9_15
def S9_17 : S := .seq S9_0 S9_16
def S9 : S := S9_17
def G9 : List Tmp := [0, 1, 2, 4, 5, 6, 10, 16]
def R9 : List RV := [.tmp 4, .tmp 5]
def X9 : XF := ⟨S9, G9, R9, 20⟩
theorem fok9 : FOk Try.prog 9 X9 := ⟨Try.f9, Try.func9, by kernel_rfl, by kernel_rfl, by kernel_rfl, by kernel_rfl⟩

/-! ### 10: minikin/minikinlaw03.net: 1 arguments -/
def S10_0 : S := .reg [
    ⟨(some 1), .box 24 2 (.tmp 0), none⟩,
    ⟨(some 2), .new 32 2, none⟩]
def S10_1 : S := .reg [
    ⟨(some 6), .off (.tmp 1) 0, none⟩,
    ⟨(some 7), .ld1 (.tmp 6), none⟩,
    ⟨(some 8), .build 32 [(0, 1, (.tmp 7))], none⟩,
    ⟨(some 3), .new 32 2, none⟩,
    ⟨none, .st 2 (.tmp 3) (.tmp 8), none⟩]
def S10_2 : S := .reg [
    ⟨(some 4), .mov (.const (.int .i64 0)), none⟩]
def S10_3 : S := .reg [
    ⟨(some 9), .mov (.tmp 4), none⟩,
    ⟨(some 10), .off (.tmp 1) 1, none⟩,
    ⟨(some 11), .ld1 (.tmp 10), none⟩,
    ⟨(some 12), .len 0 (.tmp 11), none⟩,
    ⟨(some 13), .bin .lss (.tmp 9) (.tmp 12), none⟩]
def S10_4 : S := .cond (.tmp 13) .skip (.exit 0)
def S10_5 : S := .seq S10_3 S10_4
def S10_6 : S := .reg [
    ⟨(some 16), .off (.tmp 3) 1, none⟩,
    ⟨(some 17), .ld1 (.tmp 16), none⟩,
    ⟨(some 5), .mov (.tmp 17), none⟩]
def S10_7 : S := .reg [
    ⟨(some 18), .mov (.tmp 5), none⟩,
    ⟨(some 19), .off (.tmp 1) 1, none⟩,
    ⟨(some 20), .ld1 (.tmp 19), none⟩,
    ⟨(some 21), .mov (.tmp 4), none⟩,
    ⟨(some 22), .ixSl 3 (.tmp 20) (.tmp 21), none⟩,
    ⟨(some 23), .ldN 3 (.tmp 22), none⟩,
    ⟨(some 24), .lit 73 3 1 [(0, 3, (.tmp 23))], none⟩,
    ⟨(some 25), .app1 73 3 24 (.tmp 18) 24, none⟩,
    ⟨(some 26), .off (.tmp 3) 1, none⟩,
    ⟨none, .st 1 (.tmp 26) (.tmp 25), none⟩]
def S10_8 : S := .seq S10_6 S10_7
def S10_9 : S := .block 1 S10_8
def S10_10 : S := .reg [
    ⟨(some 14), .mov (.tmp 4), none⟩,
    ⟨(some 15), .bin .add (.tmp 14) (.const (.int .i64 1)), none⟩,
    ⟨(some 4), .mov (.tmp 15), none⟩]
def S10_11 : S := .seq S10_9 S10_10
def S10_12 : S := .seq S10_5 S10_11
def S10_13 : S := .loop S10_12
def S10_14 : S := .block 0 S10_13
def S10_15 : S := .seq S10_2 S10_14
def S10_16 : S := .reg [
    ⟨(some 27), .ldN 2 (.tmp 3), none⟩,
    ⟨none, .st 2 (.tmp 2) (.tmp 27), none⟩]
def S10_17 : S := .seq S10_16 .ret
def S10_18 : S := .seq S10_15 S10_17
def S10_19 : S := .seq S10_1 S10_18
def S10_20 : S := .seq S10_0 S10_19
def S10 : S := S10_20
def G10 : List Tmp := [0, 1, 2, 3, 4, 5, 13]
def R10 : List RV := [.cellN 2 2]
def X10 : XF := ⟨S10, G10, R10, 28⟩
theorem fok10 : FOk Try.prog 10 X10 := ⟨Try.f10, Try.func10, by kernel_rfl, by kernel_rfl, by kernel_rfl, by kernel_rfl⟩

/-! ### 11: minikin/minikinref03.Members: 2 arguments -/
def S11_0 : S := .reg [
    ⟨(some 4), .mov (.const (.slice none 0 0)), none⟩]
def S11_1 : S := .reg [
    ⟨(some 5), .mov (.const (.slice none 0 0)), none⟩]
def S11_2 : S := .reg [
    ⟨(some 6), .mov (.const (.int .i64 0)), none⟩]
def S11_3 : S := .reg [
    ⟨(some 7), .mov (.tmp 6), none⟩,
    ⟨(some 8), .mov (.tmp 0), none⟩,
    ⟨(some 9), .bin .lss (.tmp 7) (.tmp 8), none⟩]
def S11_4 : S := .cond (.tmp 9) .skip (.exit 0)
def S11_5 : S := .seq S11_3 S11_4
def S11_6 : S := .reg [
    ⟨(some 12), .mov (.tmp 1), none⟩,
    ⟨(some 13), .mov (.tmp 6), none⟩,
    ⟨(some 14), .conv .u64 (.tmp 13), none⟩,
    ⟨(some 15), .bin .shr (.tmp 12) (.tmp 14), none⟩,
    ⟨(some 16), .bin .rem (.tmp 15) (.const (.int .i64 2)), none⟩,
    ⟨(some 17), .bin .eql (.tmp 16) (.const (.int .i64 1)), none⟩]
def S11_7 : S := .reg [
    ⟨(some 18), .mov (.tmp 5), none⟩,
    ⟨(some 19), .mov (.tmp 6), none⟩,
    ⟨(some 20), .lit 3 1 1 [(0, 1, (.tmp 19))], none⟩,
    ⟨(some 21), .app1 3 1 8 (.tmp 18) 20, none⟩,
    ⟨(some 5), .mov (.tmp 21), none⟩]
def S11_8 : S := .cond (.tmp 17) S11_7 .skip
def S11_9 : S := .seq S11_6 S11_8
def S11_10 : S := .block 1 S11_9
def S11_11 : S := .reg [
    ⟨(some 10), .mov (.tmp 6), none⟩,
    ⟨(some 11), .bin .add (.tmp 10) (.const (.int .i64 1)), none⟩,
    ⟨(some 6), .mov (.tmp 11), none⟩]
def S11_12 : S := .seq S11_10 S11_11
def S11_13 : S := .seq S11_5 S11_12
def S11_14 : S := .loop S11_13
def S11_15 : S := .block 0 S11_14
def S11_16 : S := .seq S11_2 S11_15
def S11_17 : S := .reg [
    ⟨(some 22), .mov (.tmp 5), none⟩,
    ⟨(some 4), .mov (.tmp 22), none⟩]
def S11_18 : S := .seq S11_17 .ret
def S11_19 : S := .seq S11_16 S11_18
def S11_20 : S := .seq S11_1 S11_19
def S11_21 : S := .seq S11_0 S11_20
def S11 : S := S11_21
def G11 : List Tmp := [0, 1, 4, 5, 6, 9, 17]
def R11 : List RV := [.tmp 4]
def X11 : XF := ⟨S11, G11, R11, 23⟩
theorem fok11 : FOk Try.prog 11 X11 := ⟨Try.f11, Try.func11, by kernel_rfl, by kernel_rfl, by kernel_rfl, by kernel_rfl⟩

/-! ### 29: minikin/flow.Check: 1 arguments -/
def S29_0 : S := .reg [
    ⟨(some 1), .box 32 2 (.tmp 0), none⟩,
    ⟨(some 2), .mov (.const (.int .i64 0)), none⟩]
def S29_1 : S := .reg [
    ⟨(some 3), .off (.tmp 1) 0, none⟩,
    ⟨(some 4), .ld1 (.tmp 3), none⟩,
    ⟨(some 5), .bin .lss (.tmp 4) (.const (.int .i64 2)), none⟩,
    ⟨(some 6), .mov (.tmp 5), none⟩,
    ⟨(some 7), .off (.tmp 1) 0, some (6, false)⟩,
    ⟨(some 8), .ld1 (.tmp 7), some (6, false)⟩,
    ⟨(some 9), .bin .gtr (.tmp 8) (.const (.int .i64 24)), some (6, false)⟩,
    ⟨(some 10), .pick (.tmp 6) (.const (.bool true)) (.tmp 9), none⟩,
    ⟨(some 11), .mov (.tmp 10), none⟩,
    ⟨(some 12), .off (.tmp 1) 1, some (11, false)⟩,
    ⟨(some 13), .ld1 (.tmp 12), some (11, false)⟩,
    ⟨(some 14), .len 0 (.tmp 13), some (11, false)⟩,
    ⟨(some 15), .bin .gtr (.tmp 14) (.const (.int .i64 200)), some (11, false)⟩,
    ⟨(some 16), .pick (.tmp 11) (.const (.bool true)) (.tmp 15), none⟩,
    ⟨(some 17), .mov (.tmp 16), none⟩,
    ⟨(some 18), .off (.tmp 1) 1, some (17, false)⟩,
    ⟨(some 19), .ld1 (.tmp 18), some (17, false)⟩,
    ⟨(some 20), .mkfunc 44 [] [(.tmp 1)], some (17, false)⟩,
    ⟨(some 21), .call (.func 43) [(.tmp 19), (.tmp 20)], some (17, false)⟩,
    ⟨(some 22), .pick (.tmp 17) (.const (.bool true)) (.tmp 21), none⟩]
def S29_2 : S := .reg [
    ⟨(some 2), .mov (.const (.int .i64 30)), none⟩]
def S29_3 : S := .seq S29_2 .ret
def S29_4 : S := .cond (.tmp 22) S29_3 .skip
def S29_5 : S := .seq S29_1 S29_4
def S29_6 : S := .reg [
    ⟨(some 2), .mov (.const (.int .i64 0)), none⟩]
def S29_7 : S := .seq S29_6 .ret
def S29_8 : S := .seq S29_5 S29_7
def S29_9 : S := .seq S29_0 S29_8
def S29 : S := S29_9
def G29 : List Tmp := [0, 1, 2, 22]
def R29 : List RV := [.tmp 2]
def X29 : XF := ⟨S29, G29, R29, 23⟩
theorem fok29 : FOk Try.prog 29 X29 := ⟨Try.f29, Try.func29, by kernel_rfl, by kernel_rfl, by kernel_rfl, by kernel_rfl⟩

/-! ### 30: minikin/flow.isSet: 2 arguments -/
def S30_0 : S := .reg [
    ⟨(some 4), .mov (.const (.bool false)), none⟩]
def S30_1 : S := .reg [
    ⟨(some 5), .mov (.const (.int .i64 (-1))), none⟩]
def S30_2 : S := .reg [
    ⟨(some 8), .mov (.tmp 1), none⟩,
    ⟨(some 9), .len 0 (.tmp 8), none⟩,
    ⟨(some 10), .mov (.const (.int .i64 0)), none⟩]
def S30_3 : S := .reg [
    ⟨(some 11), .bin .lss (.tmp 10) (.tmp 9), none⟩]
def S30_4 : S := .cond (.tmp 11) .skip (.exit 0)
def S30_5 : S := .reg [
    ⟨(some 12), .ixSl 1 (.tmp 8) (.tmp 10), none⟩,
    ⟨(some 13), .ld1 (.tmp 12), none⟩,
    ⟨(some 7), .mov (.tmp 13), none⟩]
def S30_6 : S := .reg [
    ⟨(some 14), .mov (.tmp 7), none⟩,
    ⟨(some 15), .mov (.tmp 5), none⟩,
    ⟨(some 16), .bin .leq (.tmp 14) (.tmp 15), none⟩,
    ⟨(some 17), .mov (.tmp 16), none⟩,
    ⟨(some 18), .mov (.tmp 7), some (17, false)⟩,
    ⟨(some 19), .mov (.tmp 0), some (17, false)⟩,
    ⟨(some 20), .bin .geq (.tmp 18) (.tmp 19), some (17, false)⟩,
    ⟨(some 21), .pick (.tmp 17) (.const (.bool true)) (.tmp 20), none⟩]
def S30_7 : S := .reg [
    ⟨(some 4), .mov (.const (.bool false)), none⟩]
def S30_8 : S := .seq S30_7 .ret
def S30_9 : S := .cond (.tmp 21) S30_8 .skip
def S30_10 : S := .seq S30_6 S30_9
def S30_11 : S := .reg [
    ⟨(some 22), .mov (.tmp 7), none⟩,
    ⟨(some 5), .mov (.tmp 22), none⟩]
def S30_12 : S := .seq S30_10 S30_11
def S30_13 : S := .seq S30_5 S30_12
def S30_14 : S := .block 1 S30_13
def S30_15 : S := .reg [
    ⟨(some 23), .bin .add (.tmp 10) (.const (.int .i64 1)), none⟩,
    ⟨(some 10), .mov (.tmp 23), none⟩]
def S30_16 : S := .seq S30_14 S30_15
def S30_17 : S := .seq S30_4 S30_16
def S30_18 : S := .seq S30_3 S30_17
def S30_19 : S := .loop S30_18
def S30_20 : S := .block 0 S30_19
def S30_21 : S := .seq S30_2 S30_20
def S30_22 : S := .reg [
    ⟨(some 4), .mov (.const (.bool true)), none⟩]
def S30_23 : S := .seq S30_22 .ret
def S30_24 : S := .seq S30_21 S30_23
def S30_25 : S := .seq S30_1 S30_24
def S30_26 : S := .seq S30_0 S30_25
def S30 : S := S30_26
def G30 : List Tmp := [0, 1, 4, 5, 7, 8, 9, 10, 11, 21]
def R30 : List RV := [.tmp 4]
def X30 : XF := ⟨S30, G30, R30, 24⟩
theorem fok30 : FOk Try.prog 30 X30 := ⟨Try.f30, Try.func30, by kernel_rfl, by kernel_rfl, by kernel_rfl, by kernel_rfl⟩

/-! ### 31: minikin/flow.capacity: 2 arguments -/
def S31_0 : S := .reg [
    ⟨(some 3), .box 34 1 (.tmp 1), none⟩,
    ⟨(some 4), .mov (.const (.int .i64 0)), none⟩]
def S31_1 : S := .reg [
    ⟨(some 5), .new 2 1, none⟩,
    ⟨none, .st 1 (.tmp 5) (.const (.int .i64 0)), none⟩]
def S31_2 : S := .reg [
    ⟨(some 10), .mov (.tmp 0), none⟩,
    ⟨(some 11), .invoke (.tmp 10) "minikin/flow.arcs" [], none⟩]
def S31_3 : S := .reg [
    ⟨(some 6), .new 73 3, none⟩,
    ⟨none, .st 3 (.tmp 6) (.tmp 12), none⟩]
def S31_4 : S := .reg [
    ⟨(some 7), .mov (.tmp 13), none⟩]
def S31_5 : S := .seq S31_3 S31_4
def S31_6 : S := .regD <|
    .q 0 false ⟨(some 14), .ld1 (.tmp 3), none⟩ <|
    .q 1 false ⟨(some 15), .off (.tmp 6) 0, none⟩ <|
    .q 2 false ⟨(some 16), .ld1 (.tmp 15), none⟩ <|
    .q 4 true ⟨(some 18), .ld1 (.tmp 3), none⟩ <|
    .q 5 false ⟨(some 19), .off (.tmp 6) 1, none⟩ <|
    .q 6 true ⟨(some 20), .ld1 (.tmp 19), none⟩ <|
    .m 3 [4, 6] ⟨(some 17), .call (.func 42) [(.tmp 14), (.tmp 16)], none⟩ <|
    .m 7 [] ⟨(some 21), .call (.func 42) [(.tmp 18), (.tmp 20)], none⟩ <|
    .q 8 false ⟨(some 8), .mov (.tmp 17), none⟩ <|
    .q 9 false ⟨(some 9), .mov (.tmp 21), none⟩ <|
    .fin
def S31_7 : S := .reg [
    ⟨(some 22), .mov (.tmp 8), none⟩,
    ⟨(some 23), .mov (.tmp 22), none⟩,
    ⟨(some 24), .mov (.tmp 9), some (23, true)⟩,
    ⟨(some 25), .not (.tmp 24), some (23, true)⟩,
    ⟨(some 26), .pick (.tmp 23) (.tmp 25) (.const (.bool false)), none⟩]
def S31_8 : S := .reg [
    ⟨(some 27), .ld1 (.tmp 5), none⟩,
    ⟨(some 28), .off (.tmp 6) 2, none⟩,
    ⟨(some 29), .ld1 (.tmp 28), none⟩,
    ⟨(some 30), .bin .add (.tmp 27) (.tmp 29), none⟩,
    ⟨none, .st 1 (.tmp 5) (.tmp 30), none⟩]
def S31_9 : S := .cond (.tmp 26) S31_8 .skip
def S31_10 : S := .seq S31_7 S31_9
def S31_11 : S := .reg [
    ⟨(some 31), .mov (.tmp 9), none⟩,
    ⟨(some 32), .mov (.tmp 31), none⟩,
    ⟨(some 33), .mov (.tmp 8), some (32, true)⟩,
    ⟨(some 34), .not (.tmp 33), some (32, true)⟩,
    ⟨(some 35), .pick (.tmp 32) (.tmp 34) (.const (.bool false)), none⟩]
def S31_12 : S := .reg [
    ⟨(some 36), .ld1 (.tmp 5), none⟩,
    ⟨(some 37), .mov (.tmp 7), none⟩,
    ⟨(some 38), .bin .add (.tmp 36) (.tmp 37), none⟩,
    ⟨none, .st 1 (.tmp 5) (.tmp 38), none⟩]
def S31_13 : S := .cond (.tmp 35) S31_12 .skip
def S31_14 : S := .seq S31_11 S31_13
def S31_15 : S := .seq S31_10 S31_14
def S31_16 : S := .seq S31_6 S31_15
def S31_17 : S := .block 1 S31_16
def S31_18 : S := .rfunc (.tmp 11) [12, 13] S31_5 S31_17
def S31_19 : S := .block 0 S31_18
def S31_20 : S := .seq S31_2 S31_19
def S31_21 : S := .reg [
    ⟨(some 39), .ld1 (.tmp 5), none⟩,
    ⟨(some 4), .mov (.tmp 39), none⟩]
def S31_22 : S := .seq S31_21 .ret
def S31_23 : S := .seq S31_20 S31_22
def S31_24 : S := .seq S31_1 S31_23
def S31_25 : S := .seq S31_0 S31_24
def S31 : S := S31_25
def G31 : List Tmp := [0, 1, 3, 4, 5, 6, 7, 8, 9, 11, 12, 13, 26, 35]
def R31 : List RV := [.tmp 4]
def X31 : XF := ⟨S31, G31, R31, 40⟩
theorem fok31 : FOk Try.prog 31 X31 := ⟨Try.f31, Try.func31, by kernel_rfl, by kernel_rfl, by kernel_rfl, by kernel_rfl⟩

/-! ### 42: slices.Contains[[]int,int]: 2 arguments -/
def S42_0 : S := .reg [
    ⟨(some 4), .mov (.const (.bool false)), none⟩]
def S42_1 : S := .reg [
    ⟨(some 5), .mov (.tmp 0), none⟩,
    ⟨(some 6), .mov (.tmp 1), none⟩,
    ⟨(some 7), .call (.func 54) [(.tmp 5), (.tmp 6)], none⟩,
    ⟨(some 8), .bin .geq (.tmp 7) (.const (.int .i64 0)), none⟩,
    ⟨(some 4), .mov (.tmp 8), none⟩]
def S42_2 : S := .seq S42_1 .ret
def S42_3 : S := .seq S42_0 S42_2
def S42 : S := S42_3
def G42 : List Tmp := [0, 1, 4]
def R42 : List RV := [.tmp 4]
def X42 : XF := ⟨S42, G42, R42, 9⟩
theorem fok42 : FOk Try.prog 42 X42 := ⟨Try.f42, Try.func42, by kernel_rfl, by kernel_rfl, by kernel_rfl, by kernel_rfl⟩

/-! ### 43: slices.ContainsFunc[[]minikin/flow.Arc,minikin/flow.Arc]: 2 arguments -/
def S43_0 : S := .reg [
    ⟨(some 4), .mov (.const (.bool false)), none⟩]
def S43_1 : S := .reg [
    ⟨(some 5), .mov (.tmp 0), none⟩,
    ⟨(some 6), .mov (.tmp 1), none⟩,
    ⟨(some 7), .call (.func 55) [(.tmp 5), (.tmp 6)], none⟩,
    ⟨(some 8), .bin .geq (.tmp 7) (.const (.int .i64 0)), none⟩,
    ⟨(some 4), .mov (.tmp 8), none⟩]
def S43_2 : S := .seq S43_1 .ret
def S43_3 : S := .seq S43_0 S43_2
def S43 : S := S43_3
def G43 : List Tmp := [0, 1, 4]
def R43 : List RV := [.tmp 4]
def X43 : XF := ⟨S43, G43, R43, 9⟩
theorem fok43 : FOk Try.prog 43 X43 := ⟨Try.f43, Try.func43, by kernel_rfl, by kernel_rfl, by kernel_rfl, by kernel_rfl⟩

/-! ### 44: minikin/flow.Check$1: 2 arguments -/
def S44_0 : S := .reg [
    ⟨(some 2), .box 73 3 (.tmp 0), none⟩,
    ⟨(some 3), .mov (.const (.bool false)), none⟩]
def S44_1 : S := .reg [
    ⟨(some 4), .off (.tmp 1) 0, none⟩,
    ⟨(some 5), .ld1 (.tmp 4), none⟩,
    ⟨(some 6), .ldN 3 (.tmp 2), none⟩,
    ⟨(some 7), .call (.func 45) [(.tmp 5), (.tmp 6)], none⟩,
    ⟨(some 8), .not (.tmp 7), none⟩,
    ⟨(some 3), .mov (.tmp 8), none⟩]
def S44_2 : S := .seq S44_1 .ret
def S44_3 : S := .seq S44_0 S44_2
def S44 : S := S44_3
def G44 : List Tmp := [0, 1, 2, 3]
def R44 : List RV := [.tmp 3]
def X44 : XF := ⟨S44, G44, R44, 9⟩
theorem fok44 : FOk Try.prog 44 X44 := ⟨Try.f44, Try.func44, by kernel_rfl, by kernel_rfl, by kernel_rfl, by kernel_rfl⟩

/-! ### 45: minikin/flow.isArc: 2 arguments -/
def S45_0 : S := .reg [
    ⟨(some 3), .box 73 3 (.tmp 1), none⟩,
    ⟨(some 4), .mov (.const (.bool false)), none⟩]
def S45_1 : S := .reg [
    ⟨(some 5), .off (.tmp 3) 0, none⟩,
    ⟨(some 6), .ld1 (.tmp 5), none⟩,
    ⟨(some 7), .off (.tmp 3) 1, none⟩,
    ⟨(some 8), .ld1 (.tmp 7), none⟩,
    ⟨(some 9), .minmax true [(.tmp 6), (.tmp 8)], none⟩,
    ⟨(some 10), .bin .geq (.tmp 9) (.const (.int .i64 0)), none⟩,
    ⟨(some 11), .mov (.tmp 10), none⟩,
    ⟨(some 12), .off (.tmp 3) 0, some (11, true)⟩,
    ⟨(some 13), .ld1 (.tmp 12), some (11, true)⟩,
    ⟨(some 14), .off (.tmp 3) 1, some (11, true)⟩,
    ⟨(some 15), .ld1 (.tmp 14), some (11, true)⟩,
    ⟨(some 16), .minmax false [(.tmp 13), (.tmp 15)], some (11, true)⟩,
    ⟨(some 17), .mov (.tmp 0), some (11, true)⟩,
    ⟨(some 18), .bin .lss (.tmp 16) (.tmp 17), some (11, true)⟩,
    ⟨(some 19), .pick (.tmp 11) (.tmp 18) (.const (.bool false)), none⟩,
    ⟨(some 20), .mov (.tmp 19), none⟩,
    ⟨(some 21), .off (.tmp 3) 0, some (20, true)⟩,
    ⟨(some 22), .ld1 (.tmp 21), some (20, true)⟩,
    ⟨(some 23), .off (.tmp 3) 1, some (20, true)⟩,
    ⟨(some 24), .ld1 (.tmp 23), some (20, true)⟩,
    ⟨(some 25), .bin .neq (.tmp 22) (.tmp 24), some (20, true)⟩,
    ⟨(some 26), .pick (.tmp 20) (.tmp 25) (.const (.bool false)), none⟩,
    ⟨(some 27), .mov (.tmp 26), none⟩,
    ⟨(some 28), .off (.tmp 3) 2, some (27, true)⟩,
    ⟨(some 29), .ld1 (.tmp 28), some (27, true)⟩,
    ⟨(some 30), .bin .geq (.tmp 29) (.const (.int .i64 0)), some (27, true)⟩,
    ⟨(some 31), .pick (.tmp 27) (.tmp 30) (.const (.bool false)), none⟩,
    ⟨(some 32), .mov (.tmp 31), none⟩,
    ⟨(some 33), .off (.tmp 3) 2, some (32, true)⟩,
    ⟨(some 34), .ld1 (.tmp 33), some (32, true)⟩,
    ⟨(some 35), .bin .leq (.tmp 34) (.const (.int .i64 1000000000)), some (32, true)⟩,
    ⟨(some 36), .pick (.tmp 32) (.tmp 35) (.const (.bool false)), none⟩,
    ⟨(some 4), .mov (.tmp 36), none⟩]
def S45_2 : S := .seq S45_1 .ret
def S45_3 : S := .seq S45_0 S45_2
def S45 : S := S45_3
def G45 : List Tmp := [0, 1, 3, 4]
def R45 : List RV := [.tmp 4]
def X45 : XF := ⟨S45, G45, R45, 37⟩
theorem fok45 : FOk Try.prog 45 X45 := ⟨Try.f45, Try.func45, by kernel_rfl, by kernel_rfl, by kernel_rfl, by kernel_rfl⟩

/-! ### 54: slices.Index[[]int,int]: 2 arguments -/
def S54_0 : S := .reg [
    ⟨(some 4), .mov (.const (.int .i64 0)), none⟩]
def S54_1 : S := .reg [
    ⟨(some 6), .mov (.tmp 0), none⟩,
    ⟨(some 7), .len 0 (.tmp 6), none⟩,
    ⟨(some 8), .mov (.const (.int .i64 0)), none⟩]
def S54_2 : S := .reg [
    ⟨(some 9), .bin .lss (.tmp 8) (.tmp 7), none⟩]
def S54_3 : S := .cond (.tmp 9) .skip (.exit 0)
def S54_4 : S := .reg [
    ⟨(some 10), .mov (.tmp 8), none⟩,
    ⟨(some 5), .mov (.tmp 10), none⟩]
def S54_5 : S := .reg [
    ⟨(some 11), .mov (.tmp 1), none⟩,
    ⟨(some 12), .mov (.tmp 0), none⟩,
    ⟨(some 13), .mov (.tmp 5), none⟩,
    ⟨(some 14), .ixSl 1 (.tmp 12) (.tmp 13), none⟩,
    ⟨(some 15), .ld1 (.tmp 14), none⟩,
    ⟨(some 16), .bin .eql (.tmp 11) (.tmp 15), none⟩]
def S54_6 : S := .reg [
    ⟨(some 17), .mov (.tmp 5), none⟩,
    ⟨(some 4), .mov (.tmp 17), none⟩]
def S54_7 : S := .seq S54_6 .ret
def S54_8 : S := .cond (.tmp 16) S54_7 .skip
def S54_9 : S := .seq S54_5 S54_8
def S54_10 : S := .seq S54_4 S54_9
def S54_11 : S := .block 1 S54_10
def S54_12 : S := .reg [
    ⟨(some 18), .bin .add (.tmp 8) (.const (.int .i64 1)), none⟩,
    ⟨(some 8), .mov (.tmp 18), none⟩]
def S54_13 : S := .seq S54_11 S54_12
def S54_14 : S := .seq S54_3 S54_13
def S54_15 : S := .seq S54_2 S54_14
def S54_16 : S := .loop S54_15
def S54_17 : S := .block 0 S54_16
def S54_18 : S := .seq S54_1 S54_17
def S54_19 : S := .reg [
    ⟨(some 4), .mov (.const (.int .i64 (-1))), none⟩]
def S54_20 : S := .seq S54_19 .ret
def S54_21 : S := .seq S54_18 S54_20
def S54_22 : S := .seq S54_0 S54_21
def S54 : S := S54_22
def G54 : List Tmp := [0, 1, 4, 5, 7, 8, 9, 16]
def R54 : List RV := [.tmp 4]
def X54 : XF := ⟨S54, G54, R54, 19⟩
theorem fok54 : FOk Try.prog 54 X54 := ⟨Try.f54, Try.func54, by kernel_rfl, by kernel_rfl, by kernel_rfl, by kernel_rfl⟩

/-! ### 55: slices.IndexFunc[[]minikin/flow.Arc,minikin/flow.Arc]: 2 arguments -/
def S55_0 : S := .reg [
    ⟨(some 4), .mov (.const (.int .i64 0)), none⟩]
def S55_1 : S := .reg [
    ⟨(some 6), .mov (.tmp 0), none⟩,
    ⟨(some 7), .len 0 (.tmp 6), none⟩,
    ⟨(some 8), .mov (.const (.int .i64 0)), none⟩]
def S55_2 : S := .reg [
    ⟨(some 9), .bin .lss (.tmp 8) (.tmp 7), none⟩]
def S55_3 : S := .cond (.tmp 9) .skip (.exit 0)
def S55_4 : S := .reg [
    ⟨(some 10), .mov (.tmp 8), none⟩,
    ⟨(some 5), .mov (.tmp 10), none⟩]
def S55_5 : S := .reg [
    ⟨(some 11), .mov (.tmp 1), none⟩,
    ⟨(some 12), .mov (.tmp 0), none⟩,
    ⟨(some 13), .mov (.tmp 5), none⟩,
    ⟨(some 14), .ixSl 3 (.tmp 12) (.tmp 13), none⟩,
    ⟨(some 15), .ldN 3 (.tmp 14), none⟩,
    ⟨(some 16), .call (.tmp 11) [(.tmp 15)], none⟩]
def S55_6 : S := .reg [
    ⟨(some 17), .mov (.tmp 5), none⟩,
    ⟨(some 4), .mov (.tmp 17), none⟩]
def S55_7 : S := .seq S55_6 .ret
def S55_8 : S := .cond (.tmp 16) S55_7 .skip
def S55_9 : S := .seq S55_5 S55_8
def S55_10 : S := .seq S55_4 S55_9
def S55_11 : S := .block 1 S55_10
def S55_12 : S := .reg [
    ⟨(some 18), .bin .add (.tmp 8) (.const (.int .i64 1)), none⟩,
    ⟨(some 8), .mov (.tmp 18), none⟩]
def S55_13 : S := .seq S55_11 S55_12
def S55_14 : S := .seq S55_3 S55_13
def S55_15 : S := .seq S55_2 S55_14
def S55_16 : S := .loop S55_15
def S55_17 : S := .block 0 S55_16
def S55_18 : S := .seq S55_1 S55_17
def S55_19 : S := .reg [
    ⟨(some 4), .mov (.const (.int .i64 (-1))), none⟩]
def S55_20 : S := .seq S55_19 .ret
def S55_21 : S := .seq S55_18 S55_20
def S55_22 : S := .seq S55_0 S55_21
def S55 : S := S55_22
def G55 : List Tmp := [0, 1, 4, 5, 7, 8, 9, 16]
def R55 : List RV := [.tmp 4]
def X55 : XF := ⟨S55, G55, R55, 19⟩
theorem fok55 : FOk Try.prog 55 X55 := ⟨Try.f55, Try.func55, by kernel_rfl, by kernel_rfl, by kernel_rfl, by kernel_rfl⟩

/-! ### 76: (*minikin/flow.Net).arcs: 1 arguments -/
def S76_0 : S := .reg [
    ⟨(some 1), .box 72 1 (.tmp 0), none⟩,
    ⟨(some 2), .mov (.const .nilFunc), none⟩]
def S76_1 : S := .reg [
    ⟨(some 3), .mkfunc 78 [] [(.tmp 1)], none⟩,
    ⟨(some 2), .mov (.tmp 3), none⟩]
def S76_2 : S := .seq S76_1 .ret
def S76_3 : S := .seq S76_0 S76_2
def S76 : S := S76_3
def G76 : List Tmp := [0, 1, 2]
def R76 : List RV := [.tmp 2]
def X76 : XF := ⟨S76, G76, R76, 4⟩
theorem fok76 : FOk Try.prog 76 X76 := ⟨Try.f76, Try.func76, by kernel_rfl, by kernel_rfl, by kernel_rfl, by kernel_rfl⟩

/-! ### 77: (*minikin/flow.Net).size: 1 arguments -/
def S77_0 : S := .reg [
    ⟨(some 2), .mov (.const (.int .i64 0)), none⟩]
def S77_1 : S := .reg [
    ⟨(some 3), .mov (.tmp 0), none⟩,
    ⟨(some 4), .nilck (.tmp 3), none⟩,
    ⟨(some 5), .off (.tmp 4) 0, none⟩,
    ⟨(some 6), .ld1 (.tmp 5), none⟩,
    ⟨(some 2), .mov (.tmp 6), none⟩]
def S77_2 : S := .seq S77_1 .ret
def S77_3 : S := .seq S77_0 S77_2
def S77 : S := S77_3
def G77 : List Tmp := [0, 2]
def R77 : List RV := [.tmp 2]
def X77 : XF := ⟨S77, G77, R77, 7⟩
theorem fok77 : FOk Try.prog 77 X77 := ⟨Try.f77, Try.func77, by kernel_rfl, by kernel_rfl, by kernel_rfl, by kernel_rfl⟩

/-! ### 78: (*minikin/flow.Net).arcs$1: 2 arguments -/
def S78_0 : S := .reg [
    ⟨(some 5), .ld1 (.tmp 1), none⟩,
    ⟨(some 6), .nilck (.tmp 5), none⟩,
    ⟨(some 7), .off (.tmp 6) 1, none⟩,
    ⟨(some 8), .ld1 (.tmp 7), none⟩,
    ⟨(some 9), .len 0 (.tmp 8), none⟩,
    ⟨(some 10), .mov (.const (.int .i64 0)), none⟩]
def S78_1 : S := .reg [
    ⟨(some 11), .bin .lss (.tmp 10) (.tmp 9), none⟩]
def S78_2 : S := .cond (.tmp 11) .skip (.exit 0)
def S78_3 : S := .reg [
    ⟨(some 12), .ixSl 3 (.tmp 8) (.tmp 10), none⟩,
    ⟨(some 13), .ldN 3 (.tmp 12), none⟩,
    ⟨(some 4), .new 73 3, none⟩,
    ⟨none, .st 3 (.tmp 4) (.tmp 13), none⟩]
def S78_4 : S := .reg [
    ⟨(some 14), .mov (.tmp 0), none⟩,
    ⟨(some 15), .ldN 3 (.tmp 4), none⟩,
    ⟨(some 16), .call (.tmp 14) [(.tmp 15), (.const (.int .i64 0))], none⟩,
    ⟨(some 17), .not (.tmp 16), none⟩]
def S78_5 : S := .cond (.tmp 17) .ret .skip
def S78_6 : S := .seq S78_4 S78_5
def S78_7 : S := .seq S78_3 S78_6
def S78_8 : S := .block 1 S78_7
def S78_9 : S := .reg [
    ⟨(some 18), .bin .add (.tmp 10) (.const (.int .i64 1)), none⟩,
    ⟨(some 10), .mov (.tmp 18), none⟩]
def S78_10 : S := .seq S78_8 S78_9
def S78_11 : S := .seq S78_2 S78_10
def S78_12 : S := .seq S78_1 S78_11
def S78_13 : S := .loop S78_12
def S78_14 : S := .block 0 S78_13
def S78_15 : S := .seq S78_0 S78_14
def S78 : S := S78_15
def G78 : List Tmp := [0, 1, 4, 8, 9, 10, 11, 17]
def R78 : List RV := []
def X78 : XF := ⟨S78, G78, R78, 19⟩
theorem fok78 : FOk Try.prog 78 X78 := ⟨Try.f78, Try.func78, by kernel_rfl, by kernel_rfl, by kernel_rfl, by kernel_rfl⟩

end Go.Proofs.Ytnhodgonmceojaa.Sh
