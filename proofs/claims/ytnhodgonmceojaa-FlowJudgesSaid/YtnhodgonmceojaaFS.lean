/- The functions of the program in the form that the abstract memory's laws speak of: printed by program, each checked by the kernel. -/
import Derived.Test.YtnhodgonmceojaaShNb
import Derived.Test.YtnhodgonmceojaaProg
set_option linter.unusedVariables false
namespace Go.Proofs.Ytnhodgonmceojaa.Sh
open Go.RowKit
/-! ### 4: minikin/minikinlaw03.FlowMost: 2 arguments -/
def S4_0 : S := .reg [
    ⟨(some 2), .box 24 2 (.tmp 0), none⟩,
    ⟨(some 3), .box 38 2 (.tmp 1), none⟩,
    ⟨(some 4), .mov (.const (.bool false)), none⟩]
def S4_1 : S := .reg [
    ⟨(some 20), .ldN 2 (.tmp 2), none⟩,
    ⟨(some 21), .call (.func 8) [(.tmp 20), (.const (.int .i64 9)), (.const (.int .i64 24))], none⟩,
    ⟨(some 5), .new 24 2, none⟩,
    ⟨none, .st 2 (.tmp 5) (.tmp 21), none⟩]
def S4_2 : S := .reg [
    ⟨(some 23), .off (.tmp 5) 0, none⟩,
    ⟨(some 24), .ld1 (.tmp 23), none⟩,
    ⟨(some 25), .ldN 2 (.tmp 3), none⟩,
    ⟨(some 26), .call (.func 13) [(.tmp 24), (.tmp 25)], none⟩,
    ⟨(some 22), .mov (.tmp 26), none⟩,
    ⟨(some 27), .ext (.tmp 22) 0, none⟩,
    ⟨(some 28), .ext (.tmp 22) 1, none⟩,
    ⟨(some 6), .mov (.tmp 27), none⟩,
    ⟨(some 7), .mov (.tmp 28), none⟩]
def S4_3 : S := .reg [
    ⟨(some 30), .ldN 2 (.tmp 5), none⟩,
    ⟨(some 31), .call (.func 10) [(.tmp 30)], none⟩,
    ⟨(some 32), .mov (.tmp 6), none⟩,
    ⟨(some 33), .mov (.tmp 7), none⟩,
    ⟨(some 34), .call (.func 14) [(.tmp 31), (.tmp 32), (.tmp 33)], none⟩,
    ⟨(some 29), .mov (.tmp 34), none⟩,
    ⟨(some 35), .ext (.tmp 29) 0, none⟩,
    ⟨(some 36), .ext (.tmp 29) 1, none⟩,
    ⟨(some 37), .ext (.tmp 29) 2, none⟩,
    ⟨(some 8), .mov (.tmp 35), none⟩,
    ⟨(some 9), .mov (.tmp 36), none⟩,
    ⟨(some 10), .mov (.tmp 37), none⟩]
def S4_4 : S := .reg [
    ⟨(some 39), .ldN 2 (.tmp 5), none⟩,
    ⟨(some 40), .call (.func 10) [(.tmp 39)], none⟩,
    ⟨(some 41), .mov (.tmp 6), none⟩,
    ⟨(some 42), .mov (.tmp 7), none⟩,
    ⟨(some 43), .call (.func 15) [(.tmp 40), (.tmp 41), (.tmp 42)], none⟩,
    ⟨(some 38), .mov (.tmp 43), none⟩,
    ⟨(some 44), .ext (.tmp 38) 0, none⟩,
    ⟨(some 45), .ext (.tmp 38) 1, none⟩,
    ⟨(some 46), .ext (.tmp 38) 2, none⟩,
    ⟨(some 11), .mov (.tmp 44), none⟩,
    ⟨(some 12), .mov (.tmp 45), none⟩,
    ⟨(some 13), .mov (.tmp 46), none⟩]
def S4_5 : S := .reg [
    ⟨(some 48), .ldN 2 (.tmp 5), none⟩,
    ⟨(some 49), .mov (.tmp 6), none⟩,
    ⟨(some 50), .mov (.tmp 7), none⟩,
    ⟨(some 51), .call (.func 16) [(.tmp 48), (.tmp 49), (.tmp 50)], none⟩,
    ⟨(some 47), .mov (.tmp 51), none⟩,
    ⟨(some 52), .ext (.tmp 47) 0, none⟩,
    ⟨(some 53), .ext (.tmp 47) 1, none⟩,
    ⟨(some 14), .mov (.tmp 52), none⟩,
    ⟨(some 15), .mov (.tmp 53), none⟩]
def S4_6 : S := .reg [
    ⟨(some 55), .ldN 2 (.tmp 5), none⟩,
    ⟨(some 56), .mov (.tmp 6), none⟩,
    ⟨(some 57), .mov (.tmp 7), none⟩,
    ⟨(some 58), .mov (.tmp 9), none⟩,
    ⟨(some 59), .call (.func 17) [(.tmp 55), (.tmp 56), (.tmp 57), (.tmp 58)], none⟩,
    ⟨(some 54), .mov (.tmp 59), none⟩,
    ⟨(some 60), .ext (.tmp 54) 0, none⟩,
    ⟨(some 61), .ext (.tmp 54) 1, none⟩,
    ⟨(some 16), .mov (.tmp 60), none⟩,
    ⟨(some 17), .mov (.tmp 61), none⟩]
def S4_7 : S := .reg [
    ⟨(some 62), .mov (.tmp 10), none⟩,
    ⟨(some 63), .bin .neq (.tmp 62) (.const (.int .i64 0)), none⟩,
    ⟨(some 64), .mov (.tmp 63), none⟩,
    ⟨(some 65), .mov (.tmp 13), some (64, false)⟩,
    ⟨(some 66), .bin .neq (.tmp 65) (.const (.int .i64 0)), some (64, false)⟩,
    ⟨(some 67), .pick (.tmp 64) (.const (.bool true)) (.tmp 66), none⟩,
    ⟨(some 68), .mov (.tmp 67), none⟩,
    ⟨(some 69), .mov (.tmp 8), some (68, false)⟩,
    ⟨(some 70), .mov (.tmp 14), some (68, false)⟩,
    ⟨(some 71), .bin .neq (.tmp 69) (.tmp 70), some (68, false)⟩,
    ⟨(some 72), .pick (.tmp 68) (.const (.bool true)) (.tmp 71), none⟩,
    ⟨(some 73), .mov (.tmp 72), none⟩,
    ⟨(some 74), .mov (.tmp 17), some (73, false)⟩,
    ⟨(some 75), .not (.tmp 74), some (73, false)⟩,
    ⟨(some 76), .pick (.tmp 73) (.const (.bool true)) (.tmp 75), none⟩,
    ⟨(some 77), .mov (.tmp 76), none⟩,
    ⟨(some 78), .mov (.tmp 16), some (77, false)⟩,
    ⟨(some 79), .mov (.tmp 8), some (77, false)⟩,
    ⟨(some 80), .bin .neq (.tmp 78) (.tmp 79), some (77, false)⟩,
    ⟨(some 81), .pick (.tmp 77) (.const (.bool true)) (.tmp 80), none⟩,
    ⟨(some 82), .mov (.tmp 81), none⟩,
    ⟨(some 83), .mov (.tmp 12), some (82, false)⟩,
    ⟨(some 84), .mov (.tmp 14), some (82, false)⟩,
    ⟨(some 85), .bin .neq (.tmp 83) (.tmp 84), some (82, false)⟩,
    ⟨(some 86), .pick (.tmp 82) (.const (.bool true)) (.tmp 85), none⟩,
    ⟨(some 87), .mov (.tmp 86), none⟩,
    ⟨(some 88), .mov (.tmp 11), some (87, false)⟩,
    ⟨(some 89), .mov (.tmp 15), some (87, false)⟩,
    ⟨(some 90), .call (.func 18) [(.tmp 88), (.tmp 89)], some (87, false)⟩,
    ⟨(some 91), .not (.tmp 90), some (87, false)⟩,
    ⟨(some 92), .pick (.tmp 87) (.const (.bool true)) (.tmp 91), none⟩]
def S4_8 : S := .reg [
    ⟨(some 4), .mov (.const (.bool false)), none⟩]
def S4_9 : S := .seq S4_8 .ret
def S4_10 : S := .cond (.tmp 92) S4_9 .skip
def S4_11 : S := .seq S4_7 S4_10
def S4_12 : S := .reg [
    ⟨(some 94), .ldN 2 (.tmp 5), none⟩,
    ⟨(some 95), .call (.func 10) [(.tmp 94)], none⟩,
    ⟨(some 96), .mov (.tmp 6), none⟩,
    ⟨(some 97), .mov (.tmp 7), none⟩,
    ⟨(some 98), .mov (.tmp 9), none⟩,
    ⟨(some 99), .call (.func 19) [(.tmp 95), (.tmp 96), (.tmp 97), (.tmp 98)], none⟩,
    ⟨(some 93), .mov (.tmp 99), none⟩,
    ⟨(some 100), .ext (.tmp 93) 0, none⟩,
    ⟨(some 101), .ext (.tmp 93) 1, none⟩,
    ⟨(some 18), .mov (.tmp 100), none⟩,
    ⟨(some 19), .mov (.tmp 101), none⟩]
def S4_13 : S := .reg [
    ⟨(some 102), .mov (.tmp 19), none⟩,
    ⟨(some 103), .mov (.tmp 102), none⟩,
    ⟨(some 104), .mov (.tmp 18), some (103, true)⟩,
    ⟨(some 105), .mov (.tmp 8), some (103, true)⟩,
    ⟨(some 106), .bin .eql (.tmp 104) (.tmp 105), some (103, true)⟩,
    ⟨(some 107), .pick (.tmp 103) (.tmp 106) (.const (.bool false)), none⟩,
    ⟨(some 108), .mov (.tmp 107), none⟩,
    ⟨(some 109), .call (.func 12) [], some (108, true)⟩,
    ⟨(some 110), .pick (.tmp 108) (.tmp 109) (.const (.bool false)), none⟩,
    ⟨(some 4), .mov (.tmp 110), none⟩]
def S4_14 : S := .seq S4_13 .ret
def S4_15 : S := .seq S4_12 S4_14
def S4_16 : S := .seq S4_11 S4_15
def S4_17 : S := .seq S4_6 S4_16
def S4_18 : S := .seq S4_5 S4_17
def S4_19 : S := .seq S4_4 S4_18
def S4_20 : S := .seq S4_3 S4_19
def S4_21 : S := .seq S4_2 S4_20
def S4_22 : S := .seq S4_1 S4_21
def S4_23 : S := .seq S4_0 S4_22
def S4 : S := S4_23
def G4 : List Tmp := [0, 1, 2, 3, 4, 5, 6, 7, 8, 9, 10, 11, 12, 13, 14, 15, 16, 17, 18, 19, 92]
def R4 : List RV := [.tmp 4]
def X4 : XF := ⟨S4, G4, R4, 111⟩
theorem fok4 : FOk Try.prog 4 X4 := ⟨Try.f4, Try.func4, by kernel_rfl, by kernel_rfl, by kernel_rfl, by kernel_rfl⟩

/-! ### 13: minikin/minikinlaw03.ends: 2 arguments -/
def S13_0 : S := .reg [
    ⟨(some 3), .box 38 2 (.tmp 1), none⟩,
    ⟨(some 4), .mov (.const (.int .i64 0)), none⟩,
    ⟨(some 5), .mov (.const (.int .i64 0)), none⟩]
def S13_1 : S := .reg [
    ⟨(some 8), .ixArr 2 1 (.tmp 3) (.const (.int .i64 0)), none⟩,
    ⟨(some 9), .ld1 (.tmp 8), none⟩,
    ⟨(some 10), .conv .u64 (.tmp 9), none⟩,
    ⟨(some 11), .mov (.tmp 0), none⟩,
    ⟨(some 12), .conv .u64 (.tmp 11), none⟩,
    ⟨(some 13), .bin .rem (.tmp 10) (.tmp 12), none⟩,
    ⟨(some 14), .conv .i64 (.tmp 13), none⟩,
    ⟨(some 6), .mov (.tmp 14), none⟩]
def S13_2 : S := .reg [
    ⟨(some 15), .ixArr 2 1 (.tmp 3) (.const (.int .i64 1)), none⟩,
    ⟨(some 16), .ld1 (.tmp 15), none⟩,
    ⟨(some 17), .conv .u64 (.tmp 16), none⟩,
    ⟨(some 18), .mov (.tmp 0), none⟩,
    ⟨(some 19), .conv .u64 (.tmp 18), none⟩,
    ⟨(some 20), .bin .rem (.tmp 17) (.tmp 19), none⟩,
    ⟨(some 21), .conv .i64 (.tmp 20), none⟩,
    ⟨(some 7), .mov (.tmp 21), none⟩]
def S13_3 : S := .reg [
    ⟨(some 22), .mov (.tmp 6), none⟩,
    ⟨(some 23), .mov (.tmp 7), none⟩,
    ⟨(some 24), .bin .eql (.tmp 22) (.tmp 23), none⟩]
def S13_4 : S := .reg [
    ⟨(some 25), .mov (.tmp 6), none⟩,
    ⟨(some 26), .bin .add (.tmp 25) (.const (.int .i64 1)), none⟩,
    ⟨(some 27), .mov (.tmp 0), none⟩,
    ⟨(some 28), .bin .rem (.tmp 26) (.tmp 27), none⟩,
    ⟨(some 7), .mov (.tmp 28), none⟩]
def S13_5 : S := .cond (.tmp 24) S13_4 .skip
def S13_6 : S := .seq S13_3 S13_5
def S13_7 : S := .reg [
    ⟨(some 29), .mov (.tmp 6), none⟩,
    ⟨(some 30), .mov (.tmp 7), none⟩,
    ⟨(some 4), .mov (.tmp 29), none⟩,
    ⟨(some 5), .mov (.tmp 30), none⟩]
def S13_8 : S := .seq S13_7 .ret
def S13_9 : S := .seq S13_6 S13_8
def S13_10 : S := .seq S13_2 S13_9
def S13_11 : S := .seq S13_1 S13_10
def S13_12 : S := .seq S13_0 S13_11
def S13 : S := S13_12
def G13 : List Tmp := [0, 1, 3, 4, 5, 6, 7, 24]
def R13 : List RV := [.tmp 4, .tmp 5]
def X13 : XF := ⟨S13, G13, R13, 31⟩
theorem fok13 : FOk Try.prog 13 X13 := ⟨Try.f13, Try.func13, by kernel_rfl, by kernel_rfl, by kernel_rfl, by kernel_rfl⟩

/-! ### 15: minikin/flow.Cut: 3 arguments -/
def S15_0 : S := .reg [
    ⟨(some 3), .box 32 2 (.tmp 0), none⟩,
    ⟨(some 6), .mov (.const (.slice none 0 0)), none⟩,
    ⟨(some 7), .mov (.const (.int .i64 0)), none⟩,
    ⟨(some 8), .mov (.const (.int .i64 0)), none⟩]
def S15_1 : S := .reg [
    ⟨(some 11), .ldN 2 (.tmp 3), none⟩,
    ⟨(some 12), .call (.func 29) [(.tmp 11)], none⟩,
    ⟨(some 9), .mov (.tmp 12), none⟩]
def S15_2 : S := .reg [
    ⟨(some 13), .mov (.tmp 9), none⟩,
    ⟨(some 14), .bin .neq (.tmp 13) (.const (.int .i64 0)), none⟩]
def S15_3 : S := .reg [
    ⟨(some 15), .mov (.tmp 9), none⟩,
    ⟨(some 6), .mov (.const (.slice none 0 0)), none⟩,
    ⟨(some 7), .mov (.const (.int .i64 0)), none⟩,
    ⟨(some 8), .mov (.tmp 15), none⟩]
def S15_4 : S := .seq S15_3 .ret
def S15_5 : S := .cond (.tmp 14) S15_4 .skip
def S15_6 : S := .seq S15_2 S15_5
def S15_7 : S := .seq S15_1 S15_6
def S15_8 : S := .reg [
    ⟨(some 16), .off (.tmp 3) 0, none⟩,
    ⟨(some 17), .ld1 (.tmp 16), none⟩,
    ⟨(some 18), .mov (.tmp 1), none⟩,
    ⟨(some 19), .mov (.tmp 2), none⟩,
    ⟨(some 20), .call (.func 33) [(.tmp 17), (.tmp 18), (.tmp 19)], none⟩,
    ⟨(some 21), .not (.tmp 20), none⟩]
def S15_9 : S := .reg [
    ⟨(some 6), .mov (.const (.slice none 0 0)), none⟩,
    ⟨(some 7), .mov (.const (.int .i64 0)), none⟩,
    ⟨(some 8), .mov (.const (.int .i64 1)), none⟩]
def S15_10 : S := .seq S15_9 .ret
def S15_11 : S := .cond (.tmp 21) S15_10 .skip
def S15_12 : S := .seq S15_8 S15_11
def S15_13 : S := .reg [
    ⟨(some 22), .iface 72 (.tmp 3), none⟩,
    ⟨(some 23), .call (.func 34) [(.tmp 22)], none⟩,
    ⟨(some 10), .mov (.tmp 23), none⟩]
def S15_14 : S := .reg [
    ⟨(some 24), .mov (.tmp 10), none⟩,
    ⟨(some 25), .mov (.tmp 1), none⟩,
    ⟨(some 26), .mov (.tmp 2), none⟩,
    ⟨(some 27), .call (.func 35) [(.tmp 24), (.tmp 25), (.tmp 26)], none⟩,
    ⟨(some 7), .mov (.tmp 27), none⟩]
def S15_15 : S := .reg [
    ⟨(some 28), .mov (.tmp 10), none⟩,
    ⟨(some 29), .mov (.tmp 1), none⟩,
    ⟨(some 30), .call (.func 36) [(.tmp 28), (.tmp 29)], none⟩,
    ⟨(some 31), .mov (.tmp 7), none⟩,
    ⟨(some 6), .mov (.tmp 30), none⟩,
    ⟨(some 7), .mov (.tmp 31), none⟩,
    ⟨(some 8), .mov (.const (.int .i64 0)), none⟩]
def S15_16 : S := .seq S15_15 .ret
def S15_17 : S := .seq S15_14 S15_16
def S15_18 : S := .seq S15_13 S15_17
def S15_19 : S := .seq S15_12 S15_18
def S15_20 : S := .seq S15_7 S15_19
def S15_21 : S := .seq S15_0 S15_20
def S15 : S := S15_21
def G15 : List Tmp := [0, 1, 2, 3, 6, 7, 8, 9, 10, 14, 21]
def R15 : List RV := [.tmp 6, .tmp 7, .tmp 8]
def X15 : XF := ⟨S15, G15, R15, 32⟩
theorem fok15 : FOk Try.prog 15 X15 := ⟨Try.f15, Try.func15, by kernel_rfl, by kernel_rfl, by kernel_rfl, by kernel_rfl⟩

/-! ### 16: minikin/minikinref03.Least: 3 arguments -/
def S16_0 : S := .reg [
    ⟨(some 3), .box 24 2 (.tmp 0), none⟩,
    ⟨(some 6), .mov (.const (.int .i64 0)), none⟩,
    ⟨(some 7), .mov (.const (.slice none 0 0)), none⟩]
def S16_1 : S := .reg [
    ⟨(some 8), .mov (.const (.int .i64 (-1))), none⟩,
    ⟨(some 9), .mov (.const (.int .i64 0)), none⟩]
def S16_2 : S := .reg [
    ⟨(some 10), .mov (.const (.int .i64 0)), none⟩]
def S16_3 : S := .reg [
    ⟨(some 12), .mov (.tmp 10), none⟩,
    ⟨(some 13), .off (.tmp 3) 0, none⟩,
    ⟨(some 14), .ld1 (.tmp 13), none⟩,
    ⟨(some 15), .conv .u64 (.tmp 14), none⟩,
    ⟨(some 16), .bin .shl (.const (.int .i64 1)) (.tmp 15), none⟩,
    ⟨(some 17), .bin .lss (.tmp 12) (.tmp 16), none⟩]
def S16_4 : S := .cond (.tmp 17) .skip (.exit 0)
def S16_5 : S := .seq S16_3 S16_4
def S16_6 : S := .reg [
    ⟨(some 20), .mov (.tmp 10), none⟩,
    ⟨(some 21), .mov (.tmp 1), none⟩,
    ⟨(some 22), .conv .u64 (.tmp 21), none⟩,
    ⟨(some 23), .bin .shr (.tmp 20) (.tmp 22), none⟩,
    ⟨(some 24), .bin .rem (.tmp 23) (.const (.int .i64 2)), none⟩,
    ⟨(some 25), .bin .eql (.tmp 24) (.const (.int .i64 0)), none⟩,
    ⟨(some 26), .mov (.tmp 25), none⟩,
    ⟨(some 27), .mov (.tmp 10), some (26, false)⟩,
    ⟨(some 28), .mov (.tmp 2), some (26, false)⟩,
    ⟨(some 29), .conv .u64 (.tmp 28), some (26, false)⟩,
    ⟨(some 30), .bin .shr (.tmp 27) (.tmp 29), some (26, false)⟩,
    ⟨(some 31), .bin .rem (.tmp 30) (.const (.int .i64 2)), some (26, false)⟩,
    ⟨(some 32), .bin .eql (.tmp 31) (.const (.int .i64 1)), some (26, false)⟩,
    ⟨(some 33), .pick (.tmp 26) (.const (.bool true)) (.tmp 32), none⟩]
def S16_7 : S := .cond (.tmp 33) (.exit 1) .skip
def S16_8 : S := .seq S16_6 S16_7
def S16_9 : S := .reg [
    ⟨(some 34), .ldN 2 (.tmp 3), none⟩,
    ⟨(some 35), .mov (.tmp 10), none⟩,
    ⟨(some 36), .call (.func 37) [(.tmp 34), (.tmp 35)], none⟩,
    ⟨(some 11), .mov (.tmp 36), none⟩]
def S16_10 : S := .reg [
    ⟨(some 37), .mov (.tmp 8), none⟩,
    ⟨(some 38), .bin .lss (.tmp 37) (.const (.int .i64 0)), none⟩,
    ⟨(some 39), .mov (.tmp 38), none⟩,
    ⟨(some 40), .mov (.tmp 11), some (39, false)⟩,
    ⟨(some 41), .mov (.tmp 8), some (39, false)⟩,
    ⟨(some 42), .bin .lss (.tmp 40) (.tmp 41), some (39, false)⟩,
    ⟨(some 43), .pick (.tmp 39) (.const (.bool true)) (.tmp 42), none⟩]
def S16_11 : S := .reg [
    ⟨(some 44), .mov (.tmp 11), none⟩,
    ⟨(some 45), .mov (.tmp 10), none⟩,
    ⟨(some 8), .mov (.tmp 44), none⟩,
    ⟨(some 9), .mov (.tmp 45), none⟩]
def S16_12 : S := .reg [
    ⟨(some 46), .mov (.tmp 11), none⟩,
    ⟨(some 47), .mov (.tmp 8), none⟩,
    ⟨(some 48), .bin .eql (.tmp 46) (.tmp 47), none⟩]
def S16_13 : S := .reg [
    ⟨(some 49), .mov (.tmp 9), none⟩,
    ⟨(some 50), .mov (.tmp 10), none⟩,
    ⟨(some 51), .bin .and (.tmp 49) (.tmp 50), none⟩,
    ⟨(some 9), .mov (.tmp 51), none⟩]
def S16_14 : S := .cond (.tmp 48) S16_13 .skip
def S16_15 : S := .seq S16_12 S16_14
def S16_16 : S := .cond (.tmp 43) S16_11 S16_15
def S16_17 : S := .seq S16_10 S16_16
def S16_18 : S := .seq S16_9 S16_17
def S16_19 : S := .seq S16_8 S16_18
def S16_20 : S := .block 1 S16_19
def S16_21 : S := .reg [
    ⟨(some 18), .mov (.tmp 10), none⟩,
    ⟨(some 19), .bin .add (.tmp 18) (.const (.int .i64 1)), none⟩,
    ⟨(some 10), .mov (.tmp 19), none⟩]
def S16_22 : S := .seq S16_20 S16_21
def S16_23 : S := .seq S16_5 S16_22
def S16_24 : S := .loop S16_23
def S16_25 : S := .block 0 S16_24
def S16_26 : S := .seq S16_2 S16_25
def S16_27 : S := .reg [
    ⟨(some 52), .mov (.tmp 8), none⟩,
    ⟨(some 53), .off (.tmp 3) 0, none⟩,
    ⟨(some 54), .ld1 (.tmp 53), none⟩,
    ⟨(some 55), .mov (.tmp 9), none⟩,
    ⟨(some 56), .call (.func 11) [(.tmp 54), (.tmp 55)], none⟩,
    ⟨(some 6), .mov (.tmp 52), none⟩,
    ⟨(some 7), .mov (.tmp 56), none⟩]
def S16_28 : S := .seq S16_27 .ret
def S16_29 : S := .seq S16_26 S16_28
def S16_30 : S := .seq S16_1 S16_29
def S16_31 : S := .seq S16_0 S16_30
def S16 : S := S16_31
def G16 : List Tmp := [0, 1, 2, 3, 6, 7, 8, 9, 10, 11, 17, 33, 43, 48]
def R16 : List RV := [.tmp 6, .tmp 7]
def X16 : XF := ⟨S16, G16, R16, 57⟩
theorem fok16 : FOk Try.prog 16 X16 := ⟨Try.f16, Try.func16, by kernel_rfl, by kernel_rfl, by kernel_rfl, by kernel_rfl⟩

/-! ### 17: minikin/minikinref03.IsFlow: 4 arguments -/
def S17_0 : S := .reg [
    ⟨(some 4), .box 24 2 (.tmp 0), none⟩,
    ⟨(some 8), .mov (.const (.int .i64 0)), none⟩,
    ⟨(some 9), .mov (.const (.bool false)), none⟩]
def S17_1 : S := .reg [
    ⟨(some 12), .ldN 2 (.tmp 4), none⟩,
    ⟨(some 13), .call (.func 38) [(.tmp 12)], none⟩,
    ⟨(some 14), .bin .neq (.tmp 13) (.const (.int .i64 0)), none⟩,
    ⟨(some 15), .mov (.tmp 14), none⟩,
    ⟨(some 16), .off (.tmp 4) 0, some (15, false)⟩,
    ⟨(some 17), .ld1 (.tmp 16), some (15, false)⟩,
    ⟨(some 18), .mov (.tmp 1), some (15, false)⟩,
    ⟨(some 19), .mov (.tmp 2), some (15, false)⟩,
    ⟨(some 20), .call (.func 39) [(.tmp 17), (.tmp 18), (.tmp 19)], some (15, false)⟩,
    ⟨(some 21), .bin .neq (.tmp 20) (.const (.int .i64 0)), some (15, false)⟩,
    ⟨(some 22), .pick (.tmp 15) (.const (.bool true)) (.tmp 21), none⟩,
    ⟨(some 23), .mov (.tmp 22), none⟩,
    ⟨(some 24), .mov (.tmp 3), some (23, false)⟩,
    ⟨(some 25), .len 0 (.tmp 24), some (23, false)⟩,
    ⟨(some 26), .off (.tmp 4) 1, some (23, false)⟩,
    ⟨(some 27), .ld1 (.tmp 26), some (23, false)⟩,
    ⟨(some 28), .len 0 (.tmp 27), some (23, false)⟩,
    ⟨(some 29), .bin .neq (.tmp 25) (.tmp 28), some (23, false)⟩,
    ⟨(some 30), .pick (.tmp 23) (.const (.bool true)) (.tmp 29), none⟩]
def S17_2 : S := .reg [
    ⟨(some 8), .mov (.const (.int .i64 0)), none⟩,
    ⟨(some 9), .mov (.const (.bool false)), none⟩]
def S17_3 : S := .seq S17_2 .ret
def S17_4 : S := .cond (.tmp 30) S17_3 .skip
def S17_5 : S := .seq S17_1 S17_4
def S17_6 : S := .reg [
    ⟨(some 10), .mov (.const (.int .i64 0)), none⟩]
def S17_7 : S := .reg [
    ⟨(some 31), .mov (.tmp 10), none⟩,
    ⟨(some 32), .mov (.tmp 3), none⟩,
    ⟨(some 33), .len 0 (.tmp 32), none⟩,
    ⟨(some 34), .bin .lss (.tmp 31) (.tmp 33), none⟩]
def S17_8 : S := .cond (.tmp 34) .skip (.exit 0)
def S17_9 : S := .seq S17_7 S17_8
def S17_10 : S := .regD <|
    .q 0 false ⟨(some 37), .mov (.tmp 3), none⟩ <|
    .q 1 false ⟨(some 38), .mov (.tmp 10), none⟩ <|
    .q 2 false ⟨(some 39), .ixSl 1 (.tmp 37) (.tmp 38), none⟩ <|
    .q 3 false ⟨(some 40), .ld1 (.tmp 39), none⟩ <|
    .q 4 false ⟨(some 41), .bin .lss (.tmp 40) (.const (.int .i64 0)), none⟩ <|
    .q 5 false ⟨(some 42), .mov (.tmp 41), none⟩ <|
    .q 6 false ⟨(some 43), .mov (.tmp 3), some (42, false)⟩ <|
    .q 7 false ⟨(some 44), .mov (.tmp 10), some (42, false)⟩ <|
    .q 8 false ⟨(some 45), .ixSl 1 (.tmp 43) (.tmp 44), some (42, false)⟩ <|
    .q 9 false ⟨(some 46), .ld1 (.tmp 45), some (42, false)⟩ <|
    .q 10 false ⟨(some 47), .off (.tmp 4) 1, some (42, false)⟩ <|
    .q 11 false ⟨(some 48), .ld1 (.tmp 47), some (42, false)⟩ <|
    .q 12 false ⟨(some 49), .mov (.tmp 10), some (42, false)⟩ <|
    .q 13 false ⟨(some 50), .ixSl 3 (.tmp 48) (.tmp 49), some (42, false)⟩ <|
    .q 14 false ⟨(some 51), .off (.tmp 50) 2, some (42, false)⟩ <|
    .q 15 false ⟨(some 52), .ld1 (.tmp 51), some (42, false)⟩ <|
    .q 16 false ⟨(some 53), .bin .gtr (.tmp 46) (.tmp 52), some (42, false)⟩ <|
    .q 17 false ⟨(some 54), .pick (.tmp 42) (.const (.bool true)) (.tmp 53), none⟩ <|
    .fin
def S17_11 : S := .reg [
    ⟨(some 8), .mov (.const (.int .i64 0)), none⟩,
    ⟨(some 9), .mov (.const (.bool false)), none⟩]
def S17_12 : S := .seq S17_11 .ret
def S17_13 : S := .cond (.tmp 54) S17_12 .skip
def S17_14 : S := .seq S17_10 S17_13
def S17_15 : S := .block 1 S17_14
def S17_16 : S := .reg [
    ⟨(some 35), .mov (.tmp 10), none⟩,
    ⟨(some 36), .bin .add (.tmp 35) (.const (.int .i64 1)), none⟩,
    ⟨(some 10), .mov (.tmp 36), none⟩]
def S17_17 : S := .seq S17_15 S17_16
def S17_18 : S := .seq S17_9 S17_17
def S17_19 : S := .loop S17_18
def S17_20 : S := .block 0 S17_19
def S17_21 : S := .seq S17_6 S17_20
def S17_22 : S := .reg [
    ⟨(some 11), .mov (.const (.int .i64 0)), none⟩]
def S17_23 : S := .reg [
    ⟨(some 55), .mov (.tmp 11), none⟩,
    ⟨(some 56), .off (.tmp 4) 0, none⟩,
    ⟨(some 57), .ld1 (.tmp 56), none⟩,
    ⟨(some 58), .bin .lss (.tmp 55) (.tmp 57), none⟩]
def S17_24 : S := .cond (.tmp 58) .skip (.exit 2)
def S17_25 : S := .seq S17_23 S17_24
def S17_26 : S := .reg [
    ⟨(some 61), .mov (.tmp 11), none⟩,
    ⟨(some 62), .mov (.tmp 1), none⟩,
    ⟨(some 63), .bin .neq (.tmp 61) (.tmp 62), none⟩,
    ⟨(some 64), .mov (.tmp 63), none⟩,
    ⟨(some 65), .mov (.tmp 11), some (64, true)⟩,
    ⟨(some 66), .mov (.tmp 2), some (64, true)⟩,
    ⟨(some 67), .bin .neq (.tmp 65) (.tmp 66), some (64, true)⟩,
    ⟨(some 68), .pick (.tmp 64) (.tmp 67) (.const (.bool false)), none⟩,
    ⟨(some 69), .mov (.tmp 68), none⟩,
    ⟨(some 70), .ldN 2 (.tmp 4), some (69, true)⟩,
    ⟨(some 71), .mov (.tmp 3), some (69, true)⟩,
    ⟨(some 72), .mov (.tmp 11), some (69, true)⟩,
    ⟨(some 73), .call (.func 40) [(.tmp 70), (.tmp 71), (.tmp 72)], some (69, true)⟩,
    ⟨(some 74), .bin .neq (.tmp 73) (.const (.int .i64 0)), some (69, true)⟩,
    ⟨(some 75), .pick (.tmp 69) (.tmp 74) (.const (.bool false)), none⟩]
def S17_27 : S := .reg [
    ⟨(some 8), .mov (.const (.int .i64 0)), none⟩,
    ⟨(some 9), .mov (.const (.bool false)), none⟩]
def S17_28 : S := .seq S17_27 .ret
def S17_29 : S := .cond (.tmp 75) S17_28 .skip
def S17_30 : S := .seq S17_26 S17_29
def S17_31 : S := .block 3 S17_30
def S17_32 : S := .reg [
    ⟨(some 59), .mov (.tmp 11), none⟩,
    ⟨(some 60), .bin .add (.tmp 59) (.const (.int .i64 1)), none⟩,
    ⟨(some 11), .mov (.tmp 60), none⟩]
def S17_33 : S := .seq S17_31 S17_32
def S17_34 : S := .seq S17_25 S17_33
def S17_35 : S := .loop S17_34
def S17_36 : S := .block 2 S17_35
def S17_37 : S := .seq S17_22 S17_36
def S17_38 : S := .reg [
    ⟨(some 76), .ldN 2 (.tmp 4), none⟩,
    ⟨(some 77), .mov (.tmp 3), none⟩,
    ⟨(some 78), .mov (.tmp 1), none⟩,
    ⟨(some 79), .call (.func 40) [(.tmp 76), (.tmp 77), (.tmp 78)], none⟩,
    ⟨(some 8), .mov (.tmp 79), none⟩,
    ⟨(some 9), .mov (.const (.bool true)), none⟩]
def S17_39 : S := .seq S17_38 .ret
def S17_40 : S := .seq S17_37 S17_39
def S17_41 : S := .seq S17_21 S17_40
def S17_42 : S := .seq S17_5 S17_41
def S17_43 : S := .seq S17_0 S17_42
def S17 : S := S17_43
def G17 : List Tmp := [0, 1, 2, 3, 4, 8, 9, 10, 11, 30, 34, 54, 58, 75]
def R17 : List RV := [.tmp 8, .tmp 9]
def X17 : XF := ⟨S17, G17, R17, 80⟩
theorem fok17 : FOk Try.prog 17 X17 := ⟨Try.f17, Try.func17, by kernel_rfl, by kernel_rfl, by kernel_rfl, by kernel_rfl⟩

/-! ### 18: minikin/minikinlaw03.same: 2 arguments -/
def S18_0 : S := .reg [
    ⟨(some 4), .mov (.const (.bool false)), none⟩]
def S18_1 : S := .reg [
    ⟨(some 6), .mov (.tmp 0), none⟩,
    ⟨(some 7), .len 0 (.tmp 6), none⟩,
    ⟨(some 8), .mov (.tmp 1), none⟩,
    ⟨(some 9), .len 0 (.tmp 8), none⟩,
    ⟨(some 10), .bin .neq (.tmp 7) (.tmp 9), none⟩]
def S18_2 : S := .reg [
    ⟨(some 4), .mov (.const (.bool false)), none⟩]
def S18_3 : S := .seq S18_2 .ret
def S18_4 : S := .cond (.tmp 10) S18_3 .skip
def S18_5 : S := .seq S18_1 S18_4
def S18_6 : S := .reg [
    ⟨(some 5), .mov (.const (.int .i64 0)), none⟩]
def S18_7 : S := .reg [
    ⟨(some 11), .mov (.tmp 5), none⟩,
    ⟨(some 12), .mov (.tmp 0), none⟩,
    ⟨(some 13), .len 0 (.tmp 12), none⟩,
    ⟨(some 14), .bin .lss (.tmp 11) (.tmp 13), none⟩]
def S18_8 : S := .cond (.tmp 14) .skip (.exit 0)
def S18_9 : S := .seq S18_7 S18_8
def S18_10 : S := .regD <|
    .q 0 false ⟨(some 17), .mov (.tmp 0), none⟩ <|
    .q 1 false ⟨(some 18), .mov (.tmp 5), none⟩ <|
    .q 2 false ⟨(some 19), .ixSl 1 (.tmp 17) (.tmp 18), none⟩ <|
    .q 3 false ⟨(some 20), .ld1 (.tmp 19), none⟩ <|
    .q 4 false ⟨(some 21), .mov (.tmp 1), none⟩ <|
    .q 5 false ⟨(some 22), .mov (.tmp 5), none⟩ <|
    .q 6 false ⟨(some 23), .ixSl 1 (.tmp 21) (.tmp 22), none⟩ <|
    .q 7 false ⟨(some 24), .ld1 (.tmp 23), none⟩ <|
    .q 8 false ⟨(some 25), .bin .neq (.tmp 20) (.tmp 24), none⟩ <|
    .fin
def S18_11 : S := .reg [
    ⟨(some 4), .mov (.const (.bool false)), none⟩]
def S18_12 : S := .seq S18_11 .ret
def S18_13 : S := .cond (.tmp 25) S18_12 .skip
def S18_14 : S := .seq S18_10 S18_13
def S18_15 : S := .block 1 S18_14
def S18_16 : S := .reg [
    ⟨(some 15), .mov (.tmp 5), none⟩,
    ⟨(some 16), .bin .add (.tmp 15) (.const (.int .i64 1)), none⟩,
    ⟨(some 5), .mov (.tmp 16), none⟩]
def S18_17 : S := .seq S18_15 S18_16
def S18_18 : S := .seq S18_9 S18_17
def S18_19 : S := .loop S18_18
def S18_20 : S := .block 0 S18_19
def S18_21 : S := .seq S18_6 S18_20
def S18_22 : S := .reg [
    ⟨(some 4), .mov (.const (.bool true)), none⟩]
def S18_23 : S := .seq S18_22 .ret
def S18_24 : S := .seq S18_21 S18_23
def S18_25 : S := .seq S18_5 S18_24
def S18_26 : S := .seq S18_0 S18_25
def S18 : S := S18_26
def G18 : List Tmp := [0, 1, 4, 5, 10, 14, 25]
def R18 : List RV := [.tmp 4]
def X18 : XF := ⟨S18, G18, R18, 26⟩
theorem fok18 : FOk Try.prog 18 X18 := ⟨Try.f18, Try.func18, by kernel_rfl, by kernel_rfl, by kernel_rfl, by kernel_rfl⟩

/-! ### 19: minikin/flow.IsFlow: 4 arguments -/
def S19_0 : S := .reg [
    ⟨(some 4), .box 32 2 (.tmp 0), none⟩,
    ⟨(some 8), .mov (.const (.int .i64 0)), none⟩,
    ⟨(some 9), .mov (.const (.bool false)), none⟩]
def S19_1 : S := .reg [
    ⟨(some 15), .ldN 2 (.tmp 4), none⟩,
    ⟨(some 16), .call (.func 29) [(.tmp 15)], none⟩,
    ⟨(some 17), .bin .neq (.tmp 16) (.const (.int .i64 0)), none⟩,
    ⟨(some 18), .mov (.tmp 17), none⟩,
    ⟨(some 19), .off (.tmp 4) 0, some (18, false)⟩,
    ⟨(some 20), .ld1 (.tmp 19), some (18, false)⟩,
    ⟨(some 21), .mov (.tmp 1), some (18, false)⟩,
    ⟨(some 22), .mov (.tmp 2), some (18, false)⟩,
    ⟨(some 23), .call (.func 33) [(.tmp 20), (.tmp 21), (.tmp 22)], some (18, false)⟩,
    ⟨(some 24), .not (.tmp 23), some (18, false)⟩,
    ⟨(some 25), .pick (.tmp 18) (.const (.bool true)) (.tmp 24), none⟩,
    ⟨(some 26), .mov (.tmp 25), none⟩,
    ⟨(some 27), .mov (.tmp 3), some (26, false)⟩,
    ⟨(some 28), .len 0 (.tmp 27), some (26, false)⟩,
    ⟨(some 29), .off (.tmp 4) 1, some (26, false)⟩,
    ⟨(some 30), .ld1 (.tmp 29), some (26, false)⟩,
    ⟨(some 31), .len 0 (.tmp 30), some (26, false)⟩,
    ⟨(some 32), .bin .neq (.tmp 28) (.tmp 31), some (26, false)⟩,
    ⟨(some 33), .pick (.tmp 26) (.const (.bool true)) (.tmp 32), none⟩]
def S19_2 : S := .reg [
    ⟨(some 8), .mov (.const (.int .i64 0)), none⟩,
    ⟨(some 9), .mov (.const (.bool false)), none⟩]
def S19_3 : S := .seq S19_2 .ret
def S19_4 : S := .cond (.tmp 33) S19_3 .skip
def S19_5 : S := .seq S19_1 S19_4
def S19_6 : S := .reg [
    ⟨(some 10), .new 95 24, none⟩]
def S19_7 : S := .reg [
    ⟨(some 34), .off (.tmp 4) 1, none⟩,
    ⟨(some 35), .ld1 (.tmp 34), none⟩,
    ⟨(some 36), .len 0 (.tmp 35), none⟩,
    ⟨(some 37), .mov (.const (.int .i64 0)), none⟩]
def S19_8 : S := .reg [
    ⟨(some 38), .bin .lss (.tmp 37) (.tmp 36), none⟩]
def S19_9 : S := .cond (.tmp 38) .skip (.exit 0)
def S19_10 : S := .reg [
    ⟨(some 39), .mov (.tmp 37), none⟩,
    ⟨(some 40), .ixSl 3 (.tmp 35) (.tmp 37), none⟩,
    ⟨(some 41), .ldN 3 (.tmp 40), none⟩,
    ⟨(some 12), .new 73 3, none⟩,
    ⟨(some 11), .mov (.tmp 39), none⟩,
    ⟨none, .st 3 (.tmp 12) (.tmp 41), none⟩]
def S19_11 : S := .regD <|
    .q 0 false ⟨(some 42), .mov (.tmp 3), none⟩ <|
    .q 1 false ⟨(some 43), .mov (.tmp 11), none⟩ <|
    .q 2 false ⟨(some 44), .ixSl 1 (.tmp 42) (.tmp 43), none⟩ <|
    .q 3 false ⟨(some 45), .ld1 (.tmp 44), none⟩ <|
    .q 4 false ⟨(some 46), .bin .lss (.tmp 45) (.const (.int .i64 0)), none⟩ <|
    .q 5 false ⟨(some 47), .mov (.tmp 46), none⟩ <|
    .q 6 false ⟨(some 48), .mov (.tmp 3), some (47, false)⟩ <|
    .q 7 false ⟨(some 49), .mov (.tmp 11), some (47, false)⟩ <|
    .q 8 false ⟨(some 50), .ixSl 1 (.tmp 48) (.tmp 49), some (47, false)⟩ <|
    .q 9 false ⟨(some 51), .ld1 (.tmp 50), some (47, false)⟩ <|
    .q 10 false ⟨(some 52), .off (.tmp 12) 2, some (47, false)⟩ <|
    .q 11 false ⟨(some 53), .ld1 (.tmp 52), some (47, false)⟩ <|
    .q 12 false ⟨(some 54), .bin .gtr (.tmp 51) (.tmp 53), some (47, false)⟩ <|
    .q 13 false ⟨(some 55), .pick (.tmp 47) (.const (.bool true)) (.tmp 54), none⟩ <|
    .fin
def S19_12 : S := .reg [
    ⟨(some 8), .mov (.const (.int .i64 0)), none⟩,
    ⟨(some 9), .mov (.const (.bool false)), none⟩]
def S19_13 : S := .seq S19_12 .ret
def S19_14 : S := .cond (.tmp 55) S19_13 .skip
def S19_15 : S := .seq S19_11 S19_14
def S19_16 : S := .regD <|
    .q 0 false ⟨(some 56), .off (.tmp 12) 0, none⟩ <|
    .q 1 false ⟨(some 57), .ld1 (.tmp 56), none⟩ <|
    .q 2 false ⟨(some 58), .ixArr 24 1 (.tmp 10) (.tmp 57), none⟩ <|
    .q 3 false ⟨(some 59), .ld1 (.tmp 58), none⟩ <|
    .q 4 false ⟨(some 60), .mov (.tmp 3), none⟩ <|
    .q 5 false ⟨(some 61), .mov (.tmp 11), none⟩ <|
    .q 6 false ⟨(some 62), .ixSl 1 (.tmp 60) (.tmp 61), none⟩ <|
    .q 7 false ⟨(some 63), .ld1 (.tmp 62), none⟩ <|
    .q 8 false ⟨(some 64), .bin .add (.tmp 59) (.tmp 63), none⟩ <|
    .q 9 false ⟨(some 65), .ixArr 24 1 (.tmp 10) (.tmp 57), none⟩ <|
    .m 10 [] ⟨none, .st 1 (.tmp 65) (.tmp 64), none⟩ <|
    .fin
def S19_17 : S := .regD <|
    .q 0 false ⟨(some 66), .off (.tmp 12) 1, none⟩ <|
    .q 1 false ⟨(some 67), .ld1 (.tmp 66), none⟩ <|
    .q 2 false ⟨(some 68), .ixArr 24 1 (.tmp 10) (.tmp 67), none⟩ <|
    .q 3 false ⟨(some 69), .ld1 (.tmp 68), none⟩ <|
    .q 4 false ⟨(some 70), .mov (.tmp 3), none⟩ <|
    .q 5 false ⟨(some 71), .mov (.tmp 11), none⟩ <|
    .q 6 false ⟨(some 72), .ixSl 1 (.tmp 70) (.tmp 71), none⟩ <|
    .q 7 false ⟨(some 73), .ld1 (.tmp 72), none⟩ <|
    .q 8 false ⟨(some 74), .bin .sub (.tmp 69) (.tmp 73), none⟩ <|
    .q 9 false ⟨(some 75), .ixArr 24 1 (.tmp 10) (.tmp 67), none⟩ <|
    .m 10 [] ⟨none, .st 1 (.tmp 75) (.tmp 74), none⟩ <|
    .fin
def S19_18 : S := .seq S19_16 S19_17
def S19_19 : S := .seq S19_15 S19_18
def S19_20 : S := .seq S19_10 S19_19
def S19_21 : S := .block 1 S19_20
def S19_22 : S := .reg [
    ⟨(some 76), .bin .add (.tmp 37) (.const (.int .i64 1)), none⟩,
    ⟨(some 37), .mov (.tmp 76), none⟩]
def S19_23 : S := .seq S19_21 S19_22
def S19_24 : S := .seq S19_9 S19_23
def S19_25 : S := .seq S19_8 S19_24
def S19_26 : S := .loop S19_25
def S19_27 : S := .block 0 S19_26
def S19_28 : S := .seq S19_7 S19_27
def S19_29 : S := .reg [
    ⟨(some 77), .ldN 24 (.tmp 10), none⟩,
    ⟨(some 78), .mov (.const (.int .i64 0)), none⟩]
def S19_30 : S := .reg [
    ⟨(some 79), .bin .lss (.tmp 78) (.const (.int .i64 24)), none⟩]
def S19_31 : S := .cond (.tmp 79) .skip (.exit 2)
def S19_32 : S := .reg [
    ⟨(some 80), .mov (.tmp 78), none⟩,
    ⟨(some 81), .ixVal1 24 (.tmp 77) (.tmp 78), none⟩,
    ⟨(some 13), .mov (.tmp 80), none⟩,
    ⟨(some 14), .mov (.tmp 81), none⟩]
def S19_33 : S := .reg [
    ⟨(some 82), .mov (.tmp 13), none⟩,
    ⟨(some 83), .mov (.tmp 1), none⟩,
    ⟨(some 84), .bin .neq (.tmp 82) (.tmp 83), none⟩,
    ⟨(some 85), .mov (.tmp 84), none⟩,
    ⟨(some 86), .mov (.tmp 13), some (85, true)⟩,
    ⟨(some 87), .mov (.tmp 2), some (85, true)⟩,
    ⟨(some 88), .bin .neq (.tmp 86) (.tmp 87), some (85, true)⟩,
    ⟨(some 89), .pick (.tmp 85) (.tmp 88) (.const (.bool false)), none⟩,
    ⟨(some 90), .mov (.tmp 89), none⟩,
    ⟨(some 91), .mov (.tmp 14), some (90, true)⟩,
    ⟨(some 92), .bin .neq (.tmp 91) (.const (.int .i64 0)), some (90, true)⟩,
    ⟨(some 93), .pick (.tmp 90) (.tmp 92) (.const (.bool false)), none⟩]
def S19_34 : S := .reg [
    ⟨(some 8), .mov (.const (.int .i64 0)), none⟩,
    ⟨(some 9), .mov (.const (.bool false)), none⟩]
def S19_35 : S := .seq S19_34 .ret
def S19_36 : S := .cond (.tmp 93) S19_35 .skip
def S19_37 : S := .seq S19_33 S19_36
def S19_38 : S := .seq S19_32 S19_37
def S19_39 : S := .block 3 S19_38
def S19_40 : S := .reg [
    ⟨(some 94), .bin .add (.tmp 78) (.const (.int .i64 1)), none⟩,
    ⟨(some 78), .mov (.tmp 94), none⟩]
def S19_41 : S := .seq S19_39 S19_40
def S19_42 : S := .seq S19_31 S19_41
def S19_43 : S := .seq S19_30 S19_42
def S19_44 : S := .loop S19_43
def S19_45 : S := .block 2 S19_44
def S19_46 : S := .seq S19_29 S19_45
def S19_47 : S := .reg [
    ⟨(some 95), .mov (.tmp 1), none⟩,
    ⟨(some 96), .ixArr 24 1 (.tmp 10) (.tmp 95), none⟩,
    ⟨(some 97), .ld1 (.tmp 96), none⟩,
    ⟨(some 8), .mov (.tmp 97), none⟩,
    ⟨(some 9), .mov (.const (.bool true)), none⟩]
def S19_48 : S := .seq S19_47 .ret
def S19_49 : S := .seq S19_46 S19_48
def S19_50 : S := .seq S19_28 S19_49
def S19_51 : S := .seq S19_6 S19_50
def S19_52 : S := .seq S19_5 S19_51
def S19_53 : S := .seq S19_0 S19_52
def S19 : S := S19_53
def G19 : List Tmp := [0, 1, 2, 3, 4, 8, 9, 10, 11, 12, 13, 14, 33, 35, 36, 37, 38, 55, 77, 78, 79, 93]
def R19 : List RV := [.tmp 8, .tmp 9]
def X19 : XF := ⟨S19, G19, R19, 98⟩
theorem fok19 : FOk Try.prog 19 X19 := ⟨Try.f19, Try.func19, by kernel_rfl, by kernel_rfl, by kernel_rfl, by kernel_rfl⟩

/-! ### 37: minikin/minikinref03.bits: 2 arguments -/
def S37_0 : S := .reg [
    ⟨(some 2), .box 24 2 (.tmp 0), none⟩,
    ⟨(some 4), .mov (.const (.int .i64 0)), none⟩]
def S37_1 : S := .reg [
    ⟨(some 5), .mov (.const (.int .i64 0)), none⟩]
def S37_2 : S := .reg [
    ⟨(some 6), .mov (.const (.int .i64 0)), none⟩]
def S37_3 : S := .reg [
    ⟨(some 7), .mov (.tmp 6), none⟩,
    ⟨(some 8), .off (.tmp 2) 1, none⟩,
    ⟨(some 9), .ld1 (.tmp 8), none⟩,
    ⟨(some 10), .len 0 (.tmp 9), none⟩,
    ⟨(some 11), .bin .lss (.tmp 7) (.tmp 10), none⟩]
def S37_4 : S := .cond (.tmp 11) .skip (.exit 0)
def S37_5 : S := .seq S37_3 S37_4
def S37_6 : S := .reg [
    ⟨(some 14), .mov (.tmp 1), none⟩,
    ⟨(some 15), .off (.tmp 2) 1, none⟩,
    ⟨(some 16), .ld1 (.tmp 15), none⟩,
    ⟨(some 17), .mov (.tmp 6), none⟩,
    ⟨(some 18), .ixSl 3 (.tmp 16) (.tmp 17), none⟩,
    ⟨(some 19), .off (.tmp 18) 0, none⟩,
    ⟨(some 20), .ld1 (.tmp 19), none⟩,
    ⟨(some 21), .conv .u64 (.tmp 20), none⟩,
    ⟨(some 22), .bin .shr (.tmp 14) (.tmp 21), none⟩,
    ⟨(some 23), .bin .rem (.tmp 22) (.const (.int .i64 2)), none⟩,
    ⟨(some 24), .bin .eql (.tmp 23) (.const (.int .i64 1)), none⟩,
    ⟨(some 25), .mov (.tmp 24), none⟩,
    ⟨(some 26), .mov (.tmp 1), some (25, true)⟩,
    ⟨(some 27), .off (.tmp 2) 1, some (25, true)⟩,
    ⟨(some 28), .ld1 (.tmp 27), some (25, true)⟩,
    ⟨(some 29), .mov (.tmp 6), some (25, true)⟩,
    ⟨(some 30), .ixSl 3 (.tmp 28) (.tmp 29), some (25, true)⟩,
    ⟨(some 31), .off (.tmp 30) 1, some (25, true)⟩,
    ⟨(some 32), .ld1 (.tmp 31), some (25, true)⟩,
    ⟨(some 33), .conv .u64 (.tmp 32), some (25, true)⟩,
    ⟨(some 34), .bin .shr (.tmp 26) (.tmp 33), some (25, true)⟩,
    ⟨(some 35), .bin .rem (.tmp 34) (.const (.int .i64 2)), some (25, true)⟩,
    ⟨(some 36), .bin .eql (.tmp 35) (.const (.int .i64 0)), some (25, true)⟩,
    ⟨(some 37), .pick (.tmp 25) (.tmp 36) (.const (.bool false)), none⟩]
def S37_7 : S := .reg [
    ⟨(some 38), .mov (.tmp 5), none⟩,
    ⟨(some 39), .off (.tmp 2) 1, none⟩,
    ⟨(some 40), .ld1 (.tmp 39), none⟩,
    ⟨(some 41), .mov (.tmp 6), none⟩,
    ⟨(some 42), .ixSl 3 (.tmp 40) (.tmp 41), none⟩,
    ⟨(some 43), .off (.tmp 42) 2, none⟩,
    ⟨(some 44), .ld1 (.tmp 43), none⟩,
    ⟨(some 45), .bin .add (.tmp 38) (.tmp 44), none⟩,
    ⟨(some 5), .mov (.tmp 45), none⟩]
def S37_8 : S := .cond (.tmp 37) S37_7 .skip
def S37_9 : S := .seq S37_6 S37_8
def S37_10 : S := .block 1 S37_9
def S37_11 : S := .reg [
    ⟨(some 12), .mov (.tmp 6), none⟩,
    ⟨(some 13), .bin .add (.tmp 12) (.const (.int .i64 1)), none⟩,
    ⟨(some 6), .mov (.tmp 13), none⟩]
def S37_12 : S := .seq S37_10 S37_11
def S37_13 : S := .seq S37_5 S37_12
def S37_14 : S := .loop S37_13
def S37_15 : S := .block 0 S37_14
def S37_16 : S := .seq S37_2 S37_15
def S37_17 : S := .reg [
    ⟨(some 46), .mov (.tmp 5), none⟩,
    ⟨(some 4), .mov (.tmp 46), none⟩]
def S37_18 : S := .seq S37_17 .ret
def S37_19 : S := .seq S37_16 S37_18
def S37_20 : S := .seq S37_1 S37_19
def S37_21 : S := .seq S37_0 S37_20
def S37 : S := S37_21
def G37 : List Tmp := [0, 1, 2, 4, 5, 6, 11, 37]
def R37 : List RV := [.tmp 4]
def X37 : XF := ⟨S37, G37, R37, 47⟩
theorem fok37 : FOk Try.prog 37 X37 := ⟨Try.f37, Try.func37, by kernel_rfl, by kernel_rfl, by kernel_rfl, by kernel_rfl⟩

/-! ### 38: minikin/minikinref03.Check: 1 arguments -/
def S38_0 : S := .reg [
    ⟨(some 1), .box 24 2 (.tmp 0), none⟩,
    ⟨(some 2), .mov (.const (.int .i64 0)), none⟩]
def S38_1 : S := .reg [
    ⟨(some 5), .off (.tmp 1) 0, none⟩,
    ⟨(some 6), .ld1 (.tmp 5), none⟩,
    ⟨(some 7), .bin .lss (.tmp 6) (.const (.int .i64 2)), none⟩,
    ⟨(some 8), .mov (.tmp 7), none⟩,
    ⟨(some 9), .off (.tmp 1) 0, some (8, false)⟩,
    ⟨(some 10), .ld1 (.tmp 9), some (8, false)⟩,
    ⟨(some 11), .bin .gtr (.tmp 10) (.const (.int .i64 24)), some (8, false)⟩,
    ⟨(some 12), .pick (.tmp 8) (.const (.bool true)) (.tmp 11), none⟩,
    ⟨(some 13), .mov (.tmp 12), none⟩,
    ⟨(some 14), .off (.tmp 1) 1, some (13, false)⟩,
    ⟨(some 15), .ld1 (.tmp 14), some (13, false)⟩,
    ⟨(some 16), .len 0 (.tmp 15), some (13, false)⟩,
    ⟨(some 17), .bin .gtr (.tmp 16) (.const (.int .i64 200)), some (13, false)⟩,
    ⟨(some 18), .pick (.tmp 13) (.const (.bool true)) (.tmp 17), none⟩]
def S38_2 : S := .reg [
    ⟨(some 2), .mov (.const (.int .i64 30)), none⟩]
def S38_3 : S := .seq S38_2 .ret
def S38_4 : S := .cond (.tmp 18) S38_3 .skip
def S38_5 : S := .seq S38_1 S38_4
def S38_6 : S := .reg [
    ⟨(some 3), .mov (.const (.int .i64 0)), none⟩]
def S38_7 : S := .reg [
    ⟨(some 19), .mov (.tmp 3), none⟩,
    ⟨(some 20), .off (.tmp 1) 1, none⟩,
    ⟨(some 21), .ld1 (.tmp 20), none⟩,
    ⟨(some 22), .len 0 (.tmp 21), none⟩,
    ⟨(some 23), .bin .lss (.tmp 19) (.tmp 22), none⟩]
def S38_8 : S := .cond (.tmp 23) .skip (.exit 0)
def S38_9 : S := .seq S38_7 S38_8
def S38_10 : S := .reg [
    ⟨(some 26), .off (.tmp 1) 1, none⟩,
    ⟨(some 27), .ld1 (.tmp 26), none⟩,
    ⟨(some 28), .mov (.tmp 3), none⟩,
    ⟨(some 29), .ixSl 3 (.tmp 27) (.tmp 28), none⟩,
    ⟨(some 30), .ldN 3 (.tmp 29), none⟩,
    ⟨(some 4), .new 55 3, none⟩,
    ⟨none, .st 3 (.tmp 4) (.tmp 30), none⟩]
def S38_11 : S := .reg [
    ⟨(some 31), .off (.tmp 4) 0, none⟩,
    ⟨(some 32), .ld1 (.tmp 31), none⟩,
    ⟨(some 33), .bin .lss (.tmp 32) (.const (.int .i64 0)), none⟩,
    ⟨(some 34), .mov (.tmp 33), none⟩,
    ⟨(some 35), .off (.tmp 4) 0, some (34, false)⟩,
    ⟨(some 36), .ld1 (.tmp 35), some (34, false)⟩,
    ⟨(some 37), .off (.tmp 1) 0, some (34, false)⟩,
    ⟨(some 38), .ld1 (.tmp 37), some (34, false)⟩,
    ⟨(some 39), .bin .geq (.tmp 36) (.tmp 38), some (34, false)⟩,
    ⟨(some 40), .pick (.tmp 34) (.const (.bool true)) (.tmp 39), none⟩,
    ⟨(some 41), .mov (.tmp 40), none⟩,
    ⟨(some 42), .off (.tmp 4) 1, some (41, false)⟩,
    ⟨(some 43), .ld1 (.tmp 42), some (41, false)⟩,
    ⟨(some 44), .bin .lss (.tmp 43) (.const (.int .i64 0)), some (41, false)⟩,
    ⟨(some 45), .pick (.tmp 41) (.const (.bool true)) (.tmp 44), none⟩,
    ⟨(some 46), .mov (.tmp 45), none⟩,
    ⟨(some 47), .off (.tmp 4) 1, some (46, false)⟩,
    ⟨(some 48), .ld1 (.tmp 47), some (46, false)⟩,
    ⟨(some 49), .off (.tmp 1) 0, some (46, false)⟩,
    ⟨(some 50), .ld1 (.tmp 49), some (46, false)⟩,
    ⟨(some 51), .bin .geq (.tmp 48) (.tmp 50), some (46, false)⟩,
    ⟨(some 52), .pick (.tmp 46) (.const (.bool true)) (.tmp 51), none⟩,
    ⟨(some 53), .mov (.tmp 52), none⟩,
    ⟨(some 54), .off (.tmp 4) 0, some (53, false)⟩,
    ⟨(some 55), .ld1 (.tmp 54), some (53, false)⟩,
    ⟨(some 56), .off (.tmp 4) 1, some (53, false)⟩,
    ⟨(some 57), .ld1 (.tmp 56), some (53, false)⟩,
    ⟨(some 58), .bin .eql (.tmp 55) (.tmp 57), some (53, false)⟩,
    ⟨(some 59), .pick (.tmp 53) (.const (.bool true)) (.tmp 58), none⟩,
    ⟨(some 60), .mov (.tmp 59), none⟩,
    ⟨(some 61), .off (.tmp 4) 2, some (60, false)⟩,
    ⟨(some 62), .ld1 (.tmp 61), some (60, false)⟩,
    ⟨(some 63), .bin .lss (.tmp 62) (.const (.int .i64 0)), some (60, false)⟩,
    ⟨(some 64), .pick (.tmp 60) (.const (.bool true)) (.tmp 63), none⟩,
    ⟨(some 65), .mov (.tmp 64), none⟩,
    ⟨(some 66), .off (.tmp 4) 2, some (65, false)⟩,
    ⟨(some 67), .ld1 (.tmp 66), some (65, false)⟩,
    ⟨(some 68), .bin .gtr (.tmp 67) (.const (.int .i64 1000000000)), some (65, false)⟩,
    ⟨(some 69), .pick (.tmp 65) (.const (.bool true)) (.tmp 68), none⟩]
def S38_12 : S := .reg [
    ⟨(some 2), .mov (.const (.int .i64 30)), none⟩]
def S38_13 : S := .seq S38_12 .ret
def S38_14 : S := .cond (.tmp 69) S38_13 .skip
def S38_15 : S := .seq S38_11 S38_14
def S38_16 : S := .seq S38_10 S38_15
def S38_17 : S := .block 1 S38_16
def S38_18 : S := .reg [
    ⟨(some 24), .mov (.tmp 3), none⟩,
    ⟨(some 25), .bin .add (.tmp 24) (.const (.int .i64 1)), none⟩,
    ⟨(some 3), .mov (.tmp 25), none⟩]
def S38_19 : S := .seq S38_17 S38_18
def S38_20 : S := .seq S38_9 S38_19
def S38_21 : S := .loop S38_20
def S38_22 : S := .block 0 S38_21
def S38_23 : S := .seq S38_6 S38_22
def S38_24 : S := .reg [
    ⟨(some 2), .mov (.const (.int .i64 0)), none⟩]
def S38_25 : S := .seq S38_24 .ret
def S38_26 : S := .seq S38_23 S38_25
def S38_27 : S := .seq S38_5 S38_26
def S38_28 : S := .seq S38_0 S38_27
def S38 : S := S38_28
def G38 : List Tmp := [0, 1, 2, 3, 4, 18, 23, 69]
def R38 : List RV := [.tmp 2]
def X38 : XF := ⟨S38, G38, R38, 70⟩
theorem fok38 : FOk Try.prog 38 X38 := ⟨Try.f38, Try.func38, by kernel_rfl, by kernel_rfl, by kernel_rfl, by kernel_rfl⟩

/-! ### 39: minikin/minikinref03.Ends: 3 arguments -/
def S39_0 : S := .reg [
    ⟨(some 6), .mov (.const (.int .i64 0)), none⟩]
def S39_1 : S := .reg [
    ⟨(some 7), .mov (.tmp 1), none⟩,
    ⟨(some 8), .bin .lss (.tmp 7) (.const (.int .i64 0)), none⟩,
    ⟨(some 9), .mov (.tmp 8), none⟩,
    ⟨(some 10), .mov (.tmp 1), some (9, false)⟩,
    ⟨(some 11), .mov (.tmp 0), some (9, false)⟩,
    ⟨(some 12), .bin .geq (.tmp 10) (.tmp 11), some (9, false)⟩,
    ⟨(some 13), .pick (.tmp 9) (.const (.bool true)) (.tmp 12), none⟩,
    ⟨(some 14), .mov (.tmp 13), none⟩,
    ⟨(some 15), .mov (.tmp 2), some (14, false)⟩,
    ⟨(some 16), .bin .lss (.tmp 15) (.const (.int .i64 0)), some (14, false)⟩,
    ⟨(some 17), .pick (.tmp 14) (.const (.bool true)) (.tmp 16), none⟩,
    ⟨(some 18), .mov (.tmp 17), none⟩,
    ⟨(some 19), .mov (.tmp 2), some (18, false)⟩,
    ⟨(some 20), .mov (.tmp 0), some (18, false)⟩,
    ⟨(some 21), .bin .geq (.tmp 19) (.tmp 20), some (18, false)⟩,
    ⟨(some 22), .pick (.tmp 18) (.const (.bool true)) (.tmp 21), none⟩,
    ⟨(some 23), .mov (.tmp 22), none⟩,
    ⟨(some 24), .mov (.tmp 1), some (23, false)⟩,
    ⟨(some 25), .mov (.tmp 2), some (23, false)⟩,
    ⟨(some 26), .bin .eql (.tmp 24) (.tmp 25), some (23, false)⟩,
    ⟨(some 27), .pick (.tmp 23) (.const (.bool true)) (.tmp 26), none⟩]
def S39_2 : S := .reg [
    ⟨(some 6), .mov (.const (.int .i64 1)), none⟩]
def S39_3 : S := .seq S39_2 .ret
def S39_4 : S := .cond (.tmp 27) S39_3 .skip
def S39_5 : S := .seq S39_1 S39_4
def S39_6 : S := .reg [
    ⟨(some 6), .mov (.const (.int .i64 0)), none⟩]
def S39_7 : S := .seq S39_6 .ret
def S39_8 : S := .seq S39_5 S39_7
def S39_9 : S := .seq S39_0 S39_8
def S39 : S := S39_9
def G39 : List Tmp := [0, 1, 2, 6, 27]
def R39 : List RV := [.tmp 6]
def X39 : XF := ⟨S39, G39, R39, 28⟩
theorem fok39 : FOk Try.prog 39 X39 := ⟨Try.f39, Try.func39, by kernel_rfl, by kernel_rfl, by kernel_rfl, by kernel_rfl⟩

/-! ### 40: minikin/minikinref03.Value: 3 arguments -/
def S40_0 : S := .reg [
    ⟨(some 3), .box 24 2 (.tmp 0), none⟩,
    ⟨(some 6), .mov (.const (.int .i64 0)), none⟩]
def S40_1 : S := .reg [
    ⟨(some 7), .mov (.const (.int .i64 0)), none⟩]
def S40_2 : S := .reg [
    ⟨(some 8), .mov (.const (.int .i64 0)), none⟩]
def S40_3 : S := .reg [
    ⟨(some 9), .mov (.tmp 8), none⟩,
    ⟨(some 10), .off (.tmp 3) 1, none⟩,
    ⟨(some 11), .ld1 (.tmp 10), none⟩,
    ⟨(some 12), .len 0 (.tmp 11), none⟩,
    ⟨(some 13), .bin .lss (.tmp 9) (.tmp 12), none⟩]
def S40_4 : S := .cond (.tmp 13) .skip (.exit 0)
def S40_5 : S := .seq S40_3 S40_4
def S40_6 : S := .reg [
    ⟨(some 16), .off (.tmp 3) 1, none⟩,
    ⟨(some 17), .ld1 (.tmp 16), none⟩,
    ⟨(some 18), .mov (.tmp 8), none⟩,
    ⟨(some 19), .ixSl 3 (.tmp 17) (.tmp 18), none⟩,
    ⟨(some 20), .off (.tmp 19) 0, none⟩,
    ⟨(some 21), .ld1 (.tmp 20), none⟩,
    ⟨(some 22), .mov (.tmp 2), none⟩,
    ⟨(some 23), .bin .eql (.tmp 21) (.tmp 22), none⟩]
def S40_7 : S := .reg [
    ⟨(some 24), .mov (.tmp 7), none⟩,
    ⟨(some 25), .mov (.tmp 1), none⟩,
    ⟨(some 26), .mov (.tmp 8), none⟩,
    ⟨(some 27), .ixSl 1 (.tmp 25) (.tmp 26), none⟩,
    ⟨(some 28), .ld1 (.tmp 27), none⟩,
    ⟨(some 29), .bin .add (.tmp 24) (.tmp 28), none⟩,
    ⟨(some 7), .mov (.tmp 29), none⟩]
def S40_8 : S := .cond (.tmp 23) S40_7 .skip
def S40_9 : S := .seq S40_6 S40_8
def S40_10 : S := .reg [
    ⟨(some 30), .off (.tmp 3) 1, none⟩,
    ⟨(some 31), .ld1 (.tmp 30), none⟩,
    ⟨(some 32), .mov (.tmp 8), none⟩,
    ⟨(some 33), .ixSl 3 (.tmp 31) (.tmp 32), none⟩,
    ⟨(some 34), .off (.tmp 33) 1, none⟩,
    ⟨(some 35), .ld1 (.tmp 34), none⟩,
    ⟨(some 36), .mov (.tmp 2), none⟩,
    ⟨(some 37), .bin .eql (.tmp 35) (.tmp 36), none⟩]
def S40_11 : S := .reg [
    ⟨(some 38), .mov (.tmp 7), none⟩,
    ⟨(some 39), .mov (.tmp 1), none⟩,
    ⟨(some 40), .mov (.tmp 8), none⟩,
    ⟨(some 41), .ixSl 1 (.tmp 39) (.tmp 40), none⟩,
    ⟨(some 42), .ld1 (.tmp 41), none⟩,
    ⟨(some 43), .bin .sub (.tmp 38) (.tmp 42), none⟩,
    ⟨(some 7), .mov (.tmp 43), none⟩]
def S40_12 : S := .cond (.tmp 37) S40_11 .skip
def S40_13 : S := .seq S40_10 S40_12
def S40_14 : S := .seq S40_9 S40_13
def S40_15 : S := .block 1 S40_14
def S40_16 : S := .reg [
    ⟨(some 14), .mov (.tmp 8), none⟩,
    ⟨(some 15), .bin .add (.tmp 14) (.const (.int .i64 1)), none⟩,
    ⟨(some 8), .mov (.tmp 15), none⟩]
def S40_17 : S := .seq S40_15 S40_16
def S40_18 : S := .seq S40_5 S40_17
def S40_19 : S := .loop S40_18
def S40_20 : S := .block 0 S40_19
def S40_21 : S := .seq S40_2 S40_20
def S40_22 : S := .reg [
    ⟨(some 44), .mov (.tmp 7), none⟩,
    ⟨(some 6), .mov (.tmp 44), none⟩]
def S40_23 : S := .seq S40_22 .ret
def S40_24 : S := .seq S40_21 S40_23
def S40_25 : S := .seq S40_1 S40_24
def S40_26 : S := .seq S40_0 S40_25
def S40 : S := S40_26
def G40 : List Tmp := [0, 1, 2, 3, 6, 7, 8, 13, 23, 37]
def R40 : List RV := [.tmp 6]
def X40 : XF := ⟨S40, G40, R40, 45⟩
theorem fok40 : FOk Try.prog 40 X40 := ⟨Try.f40, Try.func40, by kernel_rfl, by kernel_rfl, by kernel_rfl, by kernel_rfl⟩

end Go.Proofs.Ytnhodgonmceojaa.Sh
