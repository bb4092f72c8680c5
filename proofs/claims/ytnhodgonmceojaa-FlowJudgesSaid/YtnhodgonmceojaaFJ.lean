/- The functions of the program in the form that the abstract memory's laws speak of: printed by program, each checked by the kernel. -/
import Derived.Test.YtnhodgonmceojaaShNb
import Derived.Test.YtnhodgonmceojaaProg
set_option linter.unusedVariables false
namespace Go.Proofs.Ytnhodgonmceojaa.Sh
open Go.RowKit
/-! ### 5: minikin/minikinlaw03.FlowJudges: 3 arguments -/
def S5_0 : S := .reg [
    ⟨(some 3), .box 24 2 (.tmp 0), none⟩,
    ⟨(some 4), .box 38 2 (.tmp 1), none⟩,
    ⟨(some 6), .mov (.const (.bool false)), none⟩]
def S5_1 : S := .reg [
    ⟨(some 26), .ldN 2 (.tmp 3), none⟩,
    ⟨(some 27), .call (.func 8) [(.tmp 26), (.const (.int .i64 6)), (.const (.int .i64 8))], none⟩,
    ⟨(some 7), .new 24 2, none⟩,
    ⟨none, .st 2 (.tmp 7) (.tmp 27), none⟩]
def S5_2 : S := .reg [
    ⟨(some 29), .off (.tmp 7) 0, none⟩,
    ⟨(some 30), .ld1 (.tmp 29), none⟩,
    ⟨(some 31), .ldN 2 (.tmp 4), none⟩,
    ⟨(some 32), .call (.func 13) [(.tmp 30), (.tmp 31)], none⟩,
    ⟨(some 28), .mov (.tmp 32), none⟩,
    ⟨(some 33), .ext (.tmp 28) 0, none⟩,
    ⟨(some 34), .ext (.tmp 28) 1, none⟩,
    ⟨(some 8), .mov (.tmp 33), none⟩,
    ⟨(some 9), .mov (.tmp 34), none⟩]
def S5_3 : S := .reg [
    ⟨(some 10), .mov (.const (.slice none 0 0)), none⟩]
def S5_4 : S := .reg [
    ⟨(some 35), .mov (.tmp 10), none⟩,
    ⟨(some 36), .mov (.tmp 2), none⟩,
    ⟨(some 37), .mov (.tmp 2), none⟩,
    ⟨(some 38), .len 0 (.tmp 37), none⟩,
    ⟨(some 39), .minmax true [(.tmp 38), (.const (.int .i64 10))], none⟩,
    ⟨(some 40), .sl 1 (.tmp 36) none (some (.tmp 39)) none, none⟩,
    ⟨(some 41), .app 2 1 8 (.tmp 35) (.tmp 40), none⟩,
    ⟨(some 10), .mov (.tmp 41), none⟩]
def S5_5 : S := .reg [
    ⟨(some 11), .mov (.const (.int .i64 0)), none⟩]
def S5_6 : S := .reg [
    ⟨(some 42), .mov (.tmp 11), none⟩,
    ⟨(some 43), .bin .lss (.tmp 42) (.const (.int .i64 3)), none⟩]
def S5_7 : S := .cond (.tmp 43) .skip (.exit 0)
def S5_8 : S := .seq S5_6 S5_7
def S5_9 : S := .reg [
    ⟨(some 47), .ldN 2 (.tmp 7), none⟩,
    ⟨(some 48), .call (.func 10) [(.tmp 47)], none⟩,
    ⟨(some 49), .mov (.tmp 8), none⟩,
    ⟨(some 50), .mov (.tmp 9), none⟩,
    ⟨(some 51), .mov (.tmp 10), none⟩,
    ⟨(some 52), .call (.func 19) [(.tmp 48), (.tmp 49), (.tmp 50), (.tmp 51)], none⟩,
    ⟨(some 46), .mov (.tmp 52), none⟩,
    ⟨(some 53), .ext (.tmp 46) 0, none⟩,
    ⟨(some 54), .ext (.tmp 46) 1, none⟩,
    ⟨(some 12), .mov (.tmp 53), none⟩,
    ⟨(some 13), .mov (.tmp 54), none⟩]
def S5_10 : S := .reg [
    ⟨(some 56), .ldN 2 (.tmp 7), none⟩,
    ⟨(some 57), .mov (.tmp 8), none⟩,
    ⟨(some 58), .mov (.tmp 9), none⟩,
    ⟨(some 59), .mov (.tmp 10), none⟩,
    ⟨(some 60), .call (.func 17) [(.tmp 56), (.tmp 57), (.tmp 58), (.tmp 59)], none⟩,
    ⟨(some 55), .mov (.tmp 60), none⟩,
    ⟨(some 61), .ext (.tmp 55) 0, none⟩,
    ⟨(some 62), .ext (.tmp 55) 1, none⟩,
    ⟨(some 14), .mov (.tmp 61), none⟩,
    ⟨(some 15), .mov (.tmp 62), none⟩]
def S5_11 : S := .reg [
    ⟨(some 63), .mov (.tmp 13), none⟩,
    ⟨(some 64), .mov (.tmp 15), none⟩,
    ⟨(some 65), .beq true (.tmp 63) (.tmp 64), none⟩,
    ⟨(some 66), .mov (.tmp 65), none⟩,
    ⟨(some 67), .mov (.tmp 12), some (66, false)⟩,
    ⟨(some 68), .mov (.tmp 14), some (66, false)⟩,
    ⟨(some 69), .bin .neq (.tmp 67) (.tmp 68), some (66, false)⟩,
    ⟨(some 70), .pick (.tmp 66) (.const (.bool true)) (.tmp 69), none⟩]
def S5_12 : S := .reg [
    ⟨(some 6), .mov (.const (.bool false)), none⟩]
def S5_13 : S := .seq S5_12 .ret
def S5_14 : S := .cond (.tmp 70) S5_13 .skip
def S5_15 : S := .seq S5_11 S5_14
def S5_16 : S := .reg [
    ⟨(some 71), .mov (.tmp 11), none⟩,
    ⟨(some 72), .bin .eql (.tmp 71) (.const (.int .i64 0)), none⟩]
def S5_17 : S := .reg [
    ⟨(some 10), .mov (.const (.slice none 0 0)), none⟩]
def S5_18 : S := .reg [
    ⟨(some 16), .mov (.const (.int .i64 0)), none⟩]
def S5_19 : S := .reg [
    ⟨(some 73), .mov (.tmp 16), none⟩,
    ⟨(some 74), .off (.tmp 7) 1, none⟩,
    ⟨(some 75), .ld1 (.tmp 74), none⟩,
    ⟨(some 76), .len 0 (.tmp 75), none⟩,
    ⟨(some 77), .bin .lss (.tmp 73) (.tmp 76), none⟩]
def S5_20 : S := .cond (.tmp 77) .skip (.exit 2)
def S5_21 : S := .seq S5_19 S5_20
def S5_22 : S := .reg [
    ⟨(some 17), .mov (.const (.int .i64 0)), none⟩]
def S5_23 : S := .reg [
    ⟨(some 80), .mov (.tmp 16), none⟩,
    ⟨(some 81), .mov (.tmp 2), none⟩,
    ⟨(some 82), .len 0 (.tmp 81), none⟩,
    ⟨(some 83), .bin .lss (.tmp 80) (.tmp 82), none⟩]
def S5_24 : S := .regD <|
    .q 0 false ⟨(some 84), .mov (.tmp 2), none⟩ <|
    .q 1 false ⟨(some 85), .mov (.tmp 16), none⟩ <|
    .q 2 false ⟨(some 86), .ixSl 1 (.tmp 84) (.tmp 85), none⟩ <|
    .q 3 false ⟨(some 87), .ld1 (.tmp 86), none⟩ <|
    .q 4 false ⟨(some 88), .conv .u64 (.tmp 87), none⟩ <|
    .q 5 false ⟨(some 89), .off (.tmp 7) 1, none⟩ <|
    .q 6 false ⟨(some 90), .ld1 (.tmp 89), none⟩ <|
    .q 7 false ⟨(some 91), .mov (.tmp 16), none⟩ <|
    .q 8 false ⟨(some 92), .ixSl 3 (.tmp 90) (.tmp 91), none⟩ <|
    .q 9 false ⟨(some 93), .off (.tmp 92) 2, none⟩ <|
    .q 10 false ⟨(some 94), .ld1 (.tmp 93), none⟩ <|
    .q 11 false ⟨(some 95), .bin .add (.tmp 94) (.const (.int .i64 1)), none⟩ <|
    .q 12 false ⟨(some 96), .conv .u64 (.tmp 95), none⟩ <|
    .q 13 false ⟨(some 97), .bin .rem (.tmp 88) (.tmp 96), none⟩ <|
    .q 14 false ⟨(some 98), .conv .i64 (.tmp 97), none⟩ <|
    .q 15 false ⟨(some 17), .mov (.tmp 98), none⟩ <|
    .fin
def S5_25 : S := .cond (.tmp 83) S5_24 .skip
def S5_26 : S := .seq S5_23 S5_25
def S5_27 : S := .reg [
    ⟨(some 99), .mov (.tmp 10), none⟩,
    ⟨(some 100), .mov (.tmp 17), none⟩,
    ⟨(some 101), .lit 2 1 1 [(0, 1, (.tmp 100))], none⟩,
    ⟨(some 102), .app1 2 1 8 (.tmp 99) 101, none⟩,
    ⟨(some 10), .mov (.tmp 102), none⟩]
def S5_28 : S := .seq S5_26 S5_27
def S5_29 : S := .seq S5_22 S5_28
def S5_30 : S := .block 3 S5_29
def S5_31 : S := .reg [
    ⟨(some 78), .mov (.tmp 16), none⟩,
    ⟨(some 79), .bin .add (.tmp 78) (.const (.int .i64 1)), none⟩,
    ⟨(some 16), .mov (.tmp 79), none⟩]
def S5_32 : S := .seq S5_30 S5_31
def S5_33 : S := .seq S5_21 S5_32
def S5_34 : S := .loop S5_33
def S5_35 : S := .block 2 S5_34
def S5_36 : S := .seq S5_18 S5_35
def S5_37 : S := .seq S5_36 (.exit 1)
def S5_38 : S := .seq S5_17 S5_37
def S5_39 : S := .cond (.tmp 72) S5_38 .skip
def S5_40 : S := .seq S5_16 S5_39
def S5_41 : S := .reg [
    ⟨(some 104), .ldN 2 (.tmp 7), none⟩,
    ⟨(some 105), .call (.func 10) [(.tmp 104)], none⟩,
    ⟨(some 106), .mov (.tmp 8), none⟩,
    ⟨(some 107), .mov (.tmp 9), none⟩,
    ⟨(some 108), .call (.func 14) [(.tmp 105), (.tmp 106), (.tmp 107)], none⟩,
    ⟨(some 103), .mov (.tmp 108), none⟩,
    ⟨(some 109), .ext (.tmp 103) 0, none⟩,
    ⟨(some 110), .ext (.tmp 103) 1, none⟩,
    ⟨(some 111), .ext (.tmp 103) 2, none⟩,
    ⟨(some 18), .mov (.tmp 109), none⟩,
    ⟨(some 19), .mov (.tmp 110), none⟩,
    ⟨(some 20), .mov (.tmp 111), none⟩]
def S5_42 : S := .reg [
    ⟨(some 112), .mov (.tmp 20), none⟩,
    ⟨(some 113), .bin .neq (.tmp 112) (.const (.int .i64 0)), none⟩,
    ⟨(some 114), .mov (.tmp 113), none⟩,
    ⟨(some 115), .mov (.tmp 19), some (114, false)⟩,
    ⟨(some 116), .len 0 (.tmp 115), some (114, false)⟩,
    ⟨(some 117), .off (.tmp 7) 1, some (114, false)⟩,
    ⟨(some 118), .ld1 (.tmp 117), some (114, false)⟩,
    ⟨(some 119), .len 0 (.tmp 118), some (114, false)⟩,
    ⟨(some 120), .bin .neq (.tmp 116) (.tmp 119), some (114, false)⟩,
    ⟨(some 121), .pick (.tmp 114) (.const (.bool true)) (.tmp 120), none⟩]
def S5_43 : S := .reg [
    ⟨(some 6), .mov (.const (.bool false)), none⟩]
def S5_44 : S := .seq S5_43 .ret
def S5_45 : S := .cond (.tmp 121) S5_44 .skip
def S5_46 : S := .seq S5_42 S5_45
def S5_47 : S := .reg [
    ⟨(some 122), .mov (.tmp 19), none⟩,
    ⟨(some 10), .mov (.tmp 122), none⟩]
def S5_48 : S := .reg [
    ⟨(some 123), .mov (.tmp 10), none⟩,
    ⟨(some 124), .len 0 (.tmp 123), none⟩,
    ⟨(some 125), .bin .gtr (.tmp 124) (.const (.int .i64 0)), none⟩,
    ⟨(some 126), .mov (.tmp 125), none⟩,
    ⟨(some 127), .mov (.tmp 2), some (126, true)⟩,
    ⟨(some 128), .len 0 (.tmp 127), some (126, true)⟩,
    ⟨(some 129), .bin .gtr (.tmp 128) (.const (.int .i64 0)), some (126, true)⟩,
    ⟨(some 130), .pick (.tmp 126) (.tmp 129) (.const (.bool false)), none⟩]
def S5_49 : S := .reg [
    ⟨(some 131), .mov (.tmp 10), none⟩,
    ⟨(some 132), .mov (.tmp 2), none⟩,
    ⟨(some 133), .ixSl 1 (.tmp 132) (.const (.int .i64 0)), none⟩,
    ⟨(some 134), .ld1 (.tmp 133), none⟩,
    ⟨(some 135), .conv .u64 (.tmp 134), none⟩,
    ⟨(some 136), .mov (.tmp 10), none⟩,
    ⟨(some 137), .len 0 (.tmp 136), none⟩,
    ⟨(some 138), .conv .u64 (.tmp 137), none⟩,
    ⟨(some 139), .bin .rem (.tmp 135) (.tmp 138), none⟩,
    ⟨(some 140), .conv .i64 (.tmp 139), none⟩,
    ⟨(some 141), .ixSl 1 (.tmp 131) (.tmp 140), none⟩,
    ⟨(some 142), .ld1 (.tmp 141), none⟩,
    ⟨(some 143), .bin .sub (.tmp 142) (.const (.int .i64 1)), none⟩,
    ⟨(some 144), .ixSl 1 (.tmp 131) (.tmp 140), none⟩,
    ⟨none, .st 1 (.tmp 144) (.tmp 143), none⟩]
def S5_50 : S := .cond (.tmp 130) S5_49 .skip
def S5_51 : S := .seq S5_48 S5_50
def S5_52 : S := .seq S5_47 S5_51
def S5_53 : S := .seq S5_46 S5_52
def S5_54 : S := .seq S5_41 S5_53
def S5_55 : S := .seq S5_40 S5_54
def S5_56 : S := .seq S5_15 S5_55
def S5_57 : S := .seq S5_10 S5_56
def S5_58 : S := .seq S5_9 S5_57
def S5_59 : S := .block 1 S5_58
def S5_60 : S := .reg [
    ⟨(some 44), .mov (.tmp 11), none⟩,
    ⟨(some 45), .bin .add (.tmp 44) (.const (.int .i64 1)), none⟩,
    ⟨(some 11), .mov (.tmp 45), none⟩]
def S5_61 : S := .seq S5_59 S5_60
def S5_62 : S := .seq S5_8 S5_61
def S5_63 : S := .loop S5_62
def S5_64 : S := .block 0 S5_63
def S5_65 : S := .seq S5_5 S5_64
def S5_66 : S := .reg [
    ⟨(some 21), .mov (.const (.slice none 0 0)), none⟩]
def S5_67 : S := .reg [
    ⟨(some 22), .mov (.const (.int .i64 0)), none⟩]
def S5_68 : S := .reg [
    ⟨(some 145), .mov (.tmp 22), none⟩,
    ⟨(some 146), .mov (.tmp 2), none⟩,
    ⟨(some 147), .len 0 (.tmp 146), none⟩,
    ⟨(some 148), .bin .lss (.tmp 145) (.tmp 147), none⟩,
    ⟨(some 149), .mov (.tmp 148), none⟩,
    ⟨(some 150), .mov (.tmp 22), some (149, true)⟩,
    ⟨(some 151), .bin .lss (.tmp 150) (.const (.int .i64 8)), some (149, true)⟩,
    ⟨(some 152), .pick (.tmp 149) (.tmp 151) (.const (.bool false)), none⟩]
def S5_69 : S := .cond (.tmp 152) .skip (.exit 4)
def S5_70 : S := .seq S5_68 S5_69
def S5_71 : S := .reg [
    ⟨(some 155), .mov (.tmp 21), none⟩,
    ⟨(some 156), .mov (.tmp 2), none⟩,
    ⟨(some 157), .mov (.tmp 22), none⟩,
    ⟨(some 158), .ixSl 1 (.tmp 156) (.tmp 157), none⟩,
    ⟨(some 159), .ld1 (.tmp 158), none⟩,
    ⟨(some 160), .bin .rem (.tmp 159) (.const (.int .i64 10)), none⟩,
    ⟨(some 161), .lit 3 1 1 [(0, 1, (.tmp 160))], none⟩,
    ⟨(some 162), .app1 3 1 8 (.tmp 155) 161, none⟩,
    ⟨(some 21), .mov (.tmp 162), none⟩]
def S5_72 : S := .block 5 S5_71
def S5_73 : S := .reg [
    ⟨(some 153), .mov (.tmp 22), none⟩,
    ⟨(some 154), .bin .add (.tmp 153) (.const (.int .i64 1)), none⟩,
    ⟨(some 22), .mov (.tmp 154), none⟩]
def S5_74 : S := .seq S5_72 S5_73
def S5_75 : S := .seq S5_70 S5_74
def S5_76 : S := .loop S5_75
def S5_77 : S := .block 4 S5_76
def S5_78 : S := .seq S5_67 S5_77
def S5_79 : S := .reg [
    ⟨(some 23), .mov (.const (.int .i64 0)), none⟩]
def S5_80 : S := .reg [
    ⟨(some 163), .mov (.tmp 23), none⟩,
    ⟨(some 164), .bin .lss (.tmp 163) (.const (.int .i64 2)), none⟩]
def S5_81 : S := .cond (.tmp 164) .skip (.exit 6)
def S5_82 : S := .seq S5_80 S5_81
def S5_83 : S := .reg [
    ⟨(some 168), .ldN 2 (.tmp 7), none⟩,
    ⟨(some 169), .call (.func 10) [(.tmp 168)], none⟩,
    ⟨(some 170), .mov (.tmp 21), none⟩,
    ⟨(some 171), .call (.func 9) [(.tmp 169), (.tmp 170)], none⟩,
    ⟨(some 167), .mov (.tmp 171), none⟩,
    ⟨(some 172), .ext (.tmp 167) 0, none⟩,
    ⟨(some 173), .ext (.tmp 167) 1, none⟩,
    ⟨(some 24), .mov (.tmp 172), none⟩,
    ⟨(some 25), .mov (.tmp 173), none⟩]
def S5_84 : S := .reg [
    ⟨(some 174), .off (.tmp 7) 0, none⟩,
    ⟨(some 175), .ld1 (.tmp 174), none⟩,
    ⟨(some 176), .mov (.tmp 21), none⟩,
    ⟨(some 177), .call (.func 20) [(.tmp 175), (.tmp 176)], none⟩,
    ⟨(some 178), .not (.tmp 177), none⟩]
def S5_85 : S := .reg [
    ⟨(some 179), .mov (.tmp 25), none⟩,
    ⟨(some 180), .bin .neq (.tmp 179) (.const (.int .i64 1)), none⟩,
    ⟨(some 181), .mov (.tmp 180), none⟩,
    ⟨(some 182), .mov (.tmp 24), some (181, false)⟩,
    ⟨(some 183), .bin .neq (.tmp 182) (.const (.int .i64 0)), some (181, false)⟩,
    ⟨(some 184), .pick (.tmp 181) (.const (.bool true)) (.tmp 183), none⟩]
def S5_86 : S := .reg [
    ⟨(some 6), .mov (.const (.bool false)), none⟩]
def S5_87 : S := .seq S5_86 .ret
def S5_88 : S := .cond (.tmp 184) S5_87 .skip
def S5_89 : S := .seq S5_85 S5_88
def S5_90 : S := .reg [
    ⟨(some 185), .mov (.tmp 25), none⟩,
    ⟨(some 186), .bin .neq (.tmp 185) (.const (.int .i64 0)), none⟩,
    ⟨(some 187), .mov (.tmp 186), none⟩,
    ⟨(some 188), .mov (.tmp 24), some (187, false)⟩,
    ⟨(some 189), .ldN 2 (.tmp 7), some (187, false)⟩,
    ⟨(some 190), .mov (.tmp 21), some (187, false)⟩,
    ⟨(some 191), .call (.func 21) [(.tmp 189), (.tmp 190)], some (187, false)⟩,
    ⟨(some 192), .bin .neq (.tmp 188) (.tmp 191), some (187, false)⟩,
    ⟨(some 193), .pick (.tmp 187) (.const (.bool true)) (.tmp 192), none⟩]
def S5_91 : S := .reg [
    ⟨(some 6), .mov (.const (.bool false)), none⟩]
def S5_92 : S := .seq S5_91 .ret
def S5_93 : S := .cond (.tmp 193) S5_92 .skip
def S5_94 : S := .seq S5_90 S5_93
def S5_95 : S := .cond (.tmp 178) S5_89 S5_94
def S5_96 : S := .seq S5_84 S5_95
def S5_97 : S := .regD <|
    .q 0 false ⟨(some 194), .off (.tmp 7) 0, none⟩ <|
    .q 1 false ⟨(some 195), .ld1 (.tmp 194), none⟩ <|
    .q 2 false ⟨(some 196), .ixArr 2 1 (.tmp 4) (.const (.int .i64 0)), none⟩ <|
    .q 3 false ⟨(some 197), .ld1 (.tmp 196), none⟩ <|
    .q 4 false ⟨(some 198), .conv .u64 (.tmp 197), none⟩ <|
    .q 5 false ⟨(some 199), .off (.tmp 7) 0, none⟩ <|
    .q 6 false ⟨(some 200), .ld1 (.tmp 199), none⟩ <|
    .q 7 false ⟨(some 201), .conv .u64 (.tmp 200), none⟩ <|
    .q 8 false ⟨(some 202), .bin .shl (.const (.int .u64 1)) (.tmp 201), none⟩ <|
    .q 9 false ⟨(some 203), .bin .rem (.tmp 198) (.tmp 202), none⟩ <|
    .q 10 false ⟨(some 204), .conv .i64 (.tmp 203), none⟩ <|
    .m 11 [] ⟨(some 205), .call (.func 11) [(.tmp 195), (.tmp 204)], none⟩ <|
    .q 12 false ⟨(some 21), .mov (.tmp 205), none⟩ <|
    .fin
def S5_98 : S := .seq S5_96 S5_97
def S5_99 : S := .seq S5_83 S5_98
def S5_100 : S := .block 7 S5_99
def S5_101 : S := .reg [
    ⟨(some 165), .mov (.tmp 23), none⟩,
    ⟨(some 166), .bin .add (.tmp 165) (.const (.int .i64 1)), none⟩,
    ⟨(some 23), .mov (.tmp 166), none⟩]
def S5_102 : S := .seq S5_100 S5_101
def S5_103 : S := .seq S5_82 S5_102
def S5_104 : S := .loop S5_103
def S5_105 : S := .block 6 S5_104
def S5_106 : S := .seq S5_79 S5_105
def S5_107 : S := .reg [
    ⟨(some 206), .call (.func 12) [], none⟩,
    ⟨(some 6), .mov (.tmp 206), none⟩]
def S5_108 : S := .seq S5_107 .ret
def S5_109 : S := .seq S5_106 S5_108
def S5_110 : S := .seq S5_78 S5_109
def S5_111 : S := .seq S5_66 S5_110
def S5_112 : S := .seq S5_65 S5_111
def S5_113 : S := .seq S5_4 S5_112
def S5_114 : S := .seq S5_3 S5_113
def S5_115 : S := .seq S5_2 S5_114
def S5_116 : S := .seq S5_1 S5_115
def S5_117 : S := .seq S5_0 S5_116
def S5 : S := S5_117
def G5 : List Tmp := [0, 1, 2, 3, 4, 6, 7, 8, 9, 10, 11, 12, 13, 14, 15, 16, 17, 19, 20, 21, 22, 23, 24, 25, 43, 70, 72, 77, 83, 121, 130, 152, 164, 178, 184, 193]
def R5 : List RV := [.tmp 6]
def X5 : XF := ⟨S5, G5, R5, 207⟩
theorem fok5 : FOk Try.prog 5 X5 := ⟨Try.f5, Try.func5, by kernel_rfl, by kernel_rfl, by kernel_rfl, by kernel_rfl⟩

/-! ### 6: minikin/minikinlaw03.FlowEither: 3 arguments -/
def S6_0 : S := .reg [
    ⟨(some 3), .box 24 2 (.tmp 0), none⟩,
    ⟨(some 4), .box 38 2 (.tmp 1), none⟩,
    ⟨(some 6), .mov (.const (.bool false)), none⟩]
def S6_1 : S := .reg [
    ⟨(some 26), .ldN 2 (.tmp 3), none⟩,
    ⟨(some 27), .call (.func 8) [(.tmp 26), (.const (.int .i64 20)), (.const (.int .i64 60))], none⟩,
    ⟨(some 7), .new 24 2, none⟩,
    ⟨none, .st 2 (.tmp 7) (.tmp 27), none⟩]
def S6_2 : S := .reg [
    ⟨(some 29), .off (.tmp 7) 0, none⟩,
    ⟨(some 30), .ld1 (.tmp 29), none⟩,
    ⟨(some 31), .ldN 2 (.tmp 4), none⟩,
    ⟨(some 32), .call (.func 13) [(.tmp 30), (.tmp 31)], none⟩,
    ⟨(some 28), .mov (.tmp 32), none⟩,
    ⟨(some 33), .ext (.tmp 28) 0, none⟩,
    ⟨(some 34), .ext (.tmp 28) 1, none⟩,
    ⟨(some 8), .mov (.tmp 33), none⟩,
    ⟨(some 9), .mov (.tmp 34), none⟩]
def S6_3 : S := .reg [
    ⟨(some 36), .ldN 2 (.tmp 7), none⟩,
    ⟨(some 37), .call (.func 10) [(.tmp 36)], none⟩,
    ⟨(some 38), .mov (.tmp 8), none⟩,
    ⟨(some 39), .mov (.tmp 9), none⟩,
    ⟨(some 40), .call (.func 14) [(.tmp 37), (.tmp 38), (.tmp 39)], none⟩,
    ⟨(some 35), .mov (.tmp 40), none⟩,
    ⟨(some 41), .ext (.tmp 35) 0, none⟩,
    ⟨(some 42), .ext (.tmp 35) 1, none⟩,
    ⟨(some 43), .ext (.tmp 35) 2, none⟩,
    ⟨(some 10), .mov (.tmp 41), none⟩,
    ⟨(some 11), .mov (.tmp 42), none⟩,
    ⟨(some 12), .mov (.tmp 43), none⟩]
def S6_4 : S := .reg [
    ⟨(some 45), .ldN 2 (.tmp 7), none⟩,
    ⟨(some 46), .call (.func 10) [(.tmp 45)], none⟩,
    ⟨(some 47), .mov (.tmp 8), none⟩,
    ⟨(some 48), .mov (.tmp 9), none⟩,
    ⟨(some 49), .call (.func 15) [(.tmp 46), (.tmp 47), (.tmp 48)], none⟩,
    ⟨(some 44), .mov (.tmp 49), none⟩,
    ⟨(some 50), .ext (.tmp 44) 0, none⟩,
    ⟨(some 51), .ext (.tmp 44) 1, none⟩,
    ⟨(some 52), .ext (.tmp 44) 2, none⟩,
    ⟨(some 13), .mov (.tmp 50), none⟩,
    ⟨(some 14), .mov (.tmp 51), none⟩,
    ⟨(some 15), .mov (.tmp 52), none⟩]
def S6_5 : S := .reg [
    ⟨(some 54), .ldN 2 (.tmp 7), none⟩,
    ⟨(some 55), .call (.func 10) [(.tmp 54)], none⟩,
    ⟨(some 56), .mov (.tmp 8), none⟩,
    ⟨(some 57), .mov (.tmp 9), none⟩,
    ⟨(some 58), .mov (.tmp 11), none⟩,
    ⟨(some 59), .call (.func 19) [(.tmp 55), (.tmp 56), (.tmp 57), (.tmp 58)], none⟩,
    ⟨(some 53), .mov (.tmp 59), none⟩,
    ⟨(some 60), .ext (.tmp 53) 0, none⟩,
    ⟨(some 61), .ext (.tmp 53) 1, none⟩,
    ⟨(some 16), .mov (.tmp 60), none⟩,
    ⟨(some 17), .mov (.tmp 61), none⟩]
def S6_6 : S := .reg [
    ⟨(some 63), .ldN 2 (.tmp 7), none⟩,
    ⟨(some 64), .call (.func 10) [(.tmp 63)], none⟩,
    ⟨(some 65), .mov (.tmp 13), none⟩,
    ⟨(some 66), .call (.func 9) [(.tmp 64), (.tmp 65)], none⟩,
    ⟨(some 62), .mov (.tmp 66), none⟩,
    ⟨(some 67), .ext (.tmp 62) 0, none⟩,
    ⟨(some 68), .ext (.tmp 62) 1, none⟩,
    ⟨(some 18), .mov (.tmp 67), none⟩,
    ⟨(some 19), .mov (.tmp 68), none⟩]
def S6_7 : S := .reg [
    ⟨(some 69), .mov (.tmp 12), none⟩,
    ⟨(some 70), .bin .neq (.tmp 69) (.const (.int .i64 0)), none⟩,
    ⟨(some 71), .mov (.tmp 70), none⟩,
    ⟨(some 72), .mov (.tmp 15), some (71, false)⟩,
    ⟨(some 73), .bin .neq (.tmp 72) (.const (.int .i64 0)), some (71, false)⟩,
    ⟨(some 74), .pick (.tmp 71) (.const (.bool true)) (.tmp 73), none⟩,
    ⟨(some 75), .mov (.tmp 74), none⟩,
    ⟨(some 76), .mov (.tmp 19), some (75, false)⟩,
    ⟨(some 77), .bin .neq (.tmp 76) (.const (.int .i64 0)), some (75, false)⟩,
    ⟨(some 78), .pick (.tmp 75) (.const (.bool true)) (.tmp 77), none⟩,
    ⟨(some 79), .mov (.tmp 78), none⟩,
    ⟨(some 80), .mov (.tmp 17), some (79, false)⟩,
    ⟨(some 81), .not (.tmp 80), some (79, false)⟩,
    ⟨(some 82), .pick (.tmp 79) (.const (.bool true)) (.tmp 81), none⟩,
    ⟨(some 83), .mov (.tmp 82), none⟩,
    ⟨(some 84), .mov (.tmp 16), some (83, false)⟩,
    ⟨(some 85), .mov (.tmp 10), some (83, false)⟩,
    ⟨(some 86), .bin .neq (.tmp 84) (.tmp 85), some (83, false)⟩,
    ⟨(some 87), .pick (.tmp 83) (.const (.bool true)) (.tmp 86), none⟩,
    ⟨(some 88), .mov (.tmp 87), none⟩,
    ⟨(some 89), .mov (.tmp 14), some (88, false)⟩,
    ⟨(some 90), .mov (.tmp 10), some (88, false)⟩,
    ⟨(some 91), .bin .neq (.tmp 89) (.tmp 90), some (88, false)⟩,
    ⟨(some 92), .pick (.tmp 88) (.const (.bool true)) (.tmp 91), none⟩,
    ⟨(some 93), .mov (.tmp 92), none⟩,
    ⟨(some 94), .mov (.tmp 18), some (93, false)⟩,
    ⟨(some 95), .mov (.tmp 10), some (93, false)⟩,
    ⟨(some 96), .bin .neq (.tmp 94) (.tmp 95), some (93, false)⟩,
    ⟨(some 97), .pick (.tmp 93) (.const (.bool true)) (.tmp 96), none⟩,
    ⟨(some 98), .mov (.tmp 97), none⟩,
    ⟨(some 99), .mov (.tmp 13), some (98, false)⟩,
    ⟨(some 100), .mov (.tmp 8), some (98, false)⟩,
    ⟨(some 101), .call (.func 22) [(.tmp 99), (.tmp 100)], some (98, false)⟩,
    ⟨(some 102), .not (.tmp 101), some (98, false)⟩,
    ⟨(some 103), .pick (.tmp 98) (.const (.bool true)) (.tmp 102), none⟩,
    ⟨(some 104), .mov (.tmp 103), none⟩,
    ⟨(some 105), .mov (.tmp 13), some (104, false)⟩,
    ⟨(some 106), .mov (.tmp 9), some (104, false)⟩,
    ⟨(some 107), .call (.func 22) [(.tmp 105), (.tmp 106)], some (104, false)⟩,
    ⟨(some 108), .pick (.tmp 104) (.const (.bool true)) (.tmp 107), none⟩]
def S6_8 : S := .reg [
    ⟨(some 6), .mov (.const (.bool false)), none⟩]
def S6_9 : S := .seq S6_8 .ret
def S6_10 : S := .cond (.tmp 108) S6_9 .skip
def S6_11 : S := .seq S6_7 S6_10
def S6_12 : S := .reg [
    ⟨(some 20), .mov (.const (.int .i64 0)), none⟩]
def S6_13 : S := .reg [
    ⟨(some 109), .mov (.tmp 20), none⟩,
    ⟨(some 110), .mov (.tmp 2), none⟩,
    ⟨(some 111), .len 0 (.tmp 110), none⟩,
    ⟨(some 112), .bin .lss (.tmp 109) (.tmp 111), none⟩,
    ⟨(some 113), .mov (.tmp 112), none⟩,
    ⟨(some 114), .mov (.tmp 20), some (113, true)⟩,
    ⟨(some 115), .bin .lss (.tmp 114) (.const (.int .i64 12)), some (113, true)⟩,
    ⟨(some 116), .pick (.tmp 113) (.tmp 115) (.const (.bool false)), none⟩]
def S6_14 : S := .cond (.tmp 116) .skip (.exit 0)
def S6_15 : S := .seq S6_13 S6_14
def S6_16 : S := .reg [
    ⟨(some 119), .off (.tmp 7) 0, none⟩,
    ⟨(some 120), .ld1 (.tmp 119), none⟩,
    ⟨(some 121), .conv .u64 (.tmp 120), none⟩,
    ⟨(some 122), .bin .shl (.const (.int .i64 1)) (.tmp 121), none⟩,
    ⟨(some 123), .bin .sub (.tmp 122) (.const (.int .i64 1)), none⟩,
    ⟨(some 21), .mov (.tmp 123), none⟩]
def S6_17 : S := .regD <|
    .q 0 false ⟨(some 124), .off (.tmp 7) 0, none⟩ <|
    .q 1 false ⟨(some 125), .ld1 (.tmp 124), none⟩ <|
    .q 2 false ⟨(some 126), .mov (.tmp 2), none⟩ <|
    .q 3 false ⟨(some 127), .mov (.tmp 20), none⟩ <|
    .q 4 false ⟨(some 128), .ixSl 1 (.tmp 126) (.tmp 127), none⟩ <|
    .q 5 false ⟨(some 129), .ld1 (.tmp 128), none⟩ <|
    .q 6 false ⟨(some 130), .mov (.tmp 21), none⟩ <|
    .q 7 false ⟨(some 131), .bin .and (.tmp 129) (.tmp 130), none⟩ <|
    .q 8 false ⟨(some 132), .mov (.tmp 8), none⟩ <|
    .q 9 false ⟨(some 133), .conv .u64 (.tmp 132), none⟩ <|
    .q 10 false ⟨(some 134), .bin .shl (.const (.int .i64 1)) (.tmp 133), none⟩ <|
    .q 11 false ⟨(some 135), .bin .or (.tmp 131) (.tmp 134), none⟩ <|
    .q 12 false ⟨(some 136), .mov (.tmp 9), none⟩ <|
    .q 13 false ⟨(some 137), .conv .u64 (.tmp 136), none⟩ <|
    .q 14 false ⟨(some 138), .bin .shl (.const (.int .i64 1)) (.tmp 137), none⟩ <|
    .q 15 false ⟨(some 139), .bin .andNot (.tmp 135) (.tmp 138), none⟩ <|
    .m 16 [] ⟨(some 140), .call (.func 11) [(.tmp 125), (.tmp 139)], none⟩ <|
    .q 17 false ⟨(some 22), .mov (.tmp 140), none⟩ <|
    .fin
def S6_18 : S := .reg [
    ⟨(some 142), .ldN 2 (.tmp 7), none⟩,
    ⟨(some 143), .call (.func 10) [(.tmp 142)], none⟩,
    ⟨(some 144), .mov (.tmp 22), none⟩,
    ⟨(some 145), .call (.func 9) [(.tmp 143), (.tmp 144)], none⟩,
    ⟨(some 141), .mov (.tmp 145), none⟩,
    ⟨(some 146), .ext (.tmp 141) 0, none⟩,
    ⟨(some 147), .ext (.tmp 141) 1, none⟩,
    ⟨(some 23), .mov (.tmp 146), none⟩,
    ⟨(some 24), .mov (.tmp 147), none⟩]
def S6_19 : S := .reg [
    ⟨(some 148), .mov (.tmp 24), none⟩,
    ⟨(some 149), .bin .neq (.tmp 148) (.const (.int .i64 0)), none⟩,
    ⟨(some 150), .mov (.tmp 149), none⟩,
    ⟨(some 151), .mov (.tmp 23), some (150, false)⟩,
    ⟨(some 152), .mov (.tmp 10), some (150, false)⟩,
    ⟨(some 153), .bin .lss (.tmp 151) (.tmp 152), some (150, false)⟩,
    ⟨(some 154), .pick (.tmp 150) (.const (.bool true)) (.tmp 153), none⟩]
def S6_20 : S := .reg [
    ⟨(some 6), .mov (.const (.bool false)), none⟩]
def S6_21 : S := .seq S6_20 .ret
def S6_22 : S := .cond (.tmp 154) S6_21 .skip
def S6_23 : S := .seq S6_19 S6_22
def S6_24 : S := .reg [
    ⟨(some 155), .mov (.tmp 23), none⟩,
    ⟨(some 156), .mov (.tmp 10), none⟩,
    ⟨(some 157), .bin .eql (.tmp 155) (.tmp 156), none⟩]
def S6_25 : S := .reg [
    ⟨(some 25), .mov (.const (.int .i64 0)), none⟩]
def S6_26 : S := .reg [
    ⟨(some 158), .mov (.tmp 25), none⟩,
    ⟨(some 159), .mov (.tmp 13), none⟩,
    ⟨(some 160), .len 0 (.tmp 159), none⟩,
    ⟨(some 161), .bin .lss (.tmp 158) (.tmp 160), none⟩]
def S6_27 : S := .cond (.tmp 161) .skip (.exit 2)
def S6_28 : S := .seq S6_26 S6_27
def S6_29 : S := .reg [
    ⟨(some 164), .mov (.tmp 22), none⟩,
    ⟨(some 165), .mov (.tmp 13), none⟩,
    ⟨(some 166), .mov (.tmp 25), none⟩,
    ⟨(some 167), .ixSl 1 (.tmp 165) (.tmp 166), none⟩,
    ⟨(some 168), .ld1 (.tmp 167), none⟩,
    ⟨(some 169), .call (.func 22) [(.tmp 164), (.tmp 168)], none⟩,
    ⟨(some 170), .not (.tmp 169), none⟩]
def S6_30 : S := .reg [
    ⟨(some 6), .mov (.const (.bool false)), none⟩]
def S6_31 : S := .seq S6_30 .ret
def S6_32 : S := .cond (.tmp 170) S6_31 .skip
def S6_33 : S := .seq S6_29 S6_32
def S6_34 : S := .block 3 S6_33
def S6_35 : S := .reg [
    ⟨(some 162), .mov (.tmp 25), none⟩,
    ⟨(some 163), .bin .add (.tmp 162) (.const (.int .i64 1)), none⟩,
    ⟨(some 25), .mov (.tmp 163), none⟩]
def S6_36 : S := .seq S6_34 S6_35
def S6_37 : S := .seq S6_28 S6_36
def S6_38 : S := .loop S6_37
def S6_39 : S := .block 2 S6_38
def S6_40 : S := .seq S6_25 S6_39
def S6_41 : S := .cond (.tmp 157) S6_40 .skip
def S6_42 : S := .seq S6_24 S6_41
def S6_43 : S := .seq S6_23 S6_42
def S6_44 : S := .seq S6_18 S6_43
def S6_45 : S := .seq S6_17 S6_44
def S6_46 : S := .seq S6_16 S6_45
def S6_47 : S := .block 1 S6_46
def S6_48 : S := .reg [
    ⟨(some 117), .mov (.tmp 20), none⟩,
    ⟨(some 118), .bin .add (.tmp 117) (.const (.int .i64 1)), none⟩,
    ⟨(some 20), .mov (.tmp 118), none⟩]
def S6_49 : S := .seq S6_47 S6_48
def S6_50 : S := .seq S6_15 S6_49
def S6_51 : S := .loop S6_50
def S6_52 : S := .block 0 S6_51
def S6_53 : S := .seq S6_12 S6_52
def S6_54 : S := .reg [
    ⟨(some 171), .call (.func 12) [], none⟩,
    ⟨(some 6), .mov (.tmp 171), none⟩]
def S6_55 : S := .seq S6_54 .ret
def S6_56 : S := .seq S6_53 S6_55
def S6_57 : S := .seq S6_11 S6_56
def S6_58 : S := .seq S6_6 S6_57
def S6_59 : S := .seq S6_5 S6_58
def S6_60 : S := .seq S6_4 S6_59
def S6_61 : S := .seq S6_3 S6_60
def S6_62 : S := .seq S6_2 S6_61
def S6_63 : S := .seq S6_1 S6_62
def S6_64 : S := .seq S6_0 S6_63
def S6 : S := S6_64
def G6 : List Tmp := [0, 1, 2, 3, 4, 6, 7, 8, 9, 10, 11, 12, 13, 14, 15, 16, 17, 18, 19, 20, 21, 22, 23, 24, 25, 108, 116, 154, 157, 161, 170]
def R6 : List RV := [.tmp 6]
def X6 : XF := ⟨S6, G6, R6, 172⟩
theorem fok6 : FOk Try.prog 6 X6 := ⟨Try.f6, Try.func6, by kernel_rfl, by kernel_rfl, by kernel_rfl, by kernel_rfl⟩

/-! ### 20: minikin/minikinref03.Rising: 2 arguments -/
def S20_0 : S := .reg [
    ⟨(some 4), .mov (.const (.bool false)), none⟩]
def S20_1 : S := .reg [
    ⟨(some 5), .mov (.const (.int .i64 0)), none⟩]
def S20_2 : S := .reg [
    ⟨(some 6), .mov (.tmp 5), none⟩,
    ⟨(some 7), .mov (.tmp 1), none⟩,
    ⟨(some 8), .len 0 (.tmp 7), none⟩,
    ⟨(some 9), .bin .lss (.tmp 6) (.tmp 8), none⟩]
def S20_3 : S := .cond (.tmp 9) .skip (.exit 0)
def S20_4 : S := .seq S20_2 S20_3
def S20_5 : S := .regD <|
    .q 0 false ⟨(some 12), .mov (.tmp 1), none⟩ <|
    .q 1 false ⟨(some 13), .mov (.tmp 5), none⟩ <|
    .q 2 false ⟨(some 14), .ixSl 1 (.tmp 12) (.tmp 13), none⟩ <|
    .q 3 false ⟨(some 15), .ld1 (.tmp 14), none⟩ <|
    .q 4 false ⟨(some 16), .bin .lss (.tmp 15) (.const (.int .i64 0)), none⟩ <|
    .q 5 false ⟨(some 17), .mov (.tmp 16), none⟩ <|
    .q 6 false ⟨(some 18), .mov (.tmp 1), some (17, false)⟩ <|
    .q 7 false ⟨(some 19), .mov (.tmp 5), some (17, false)⟩ <|
    .q 8 false ⟨(some 20), .ixSl 1 (.tmp 18) (.tmp 19), some (17, false)⟩ <|
    .q 9 false ⟨(some 21), .ld1 (.tmp 20), some (17, false)⟩ <|
    .q 10 false ⟨(some 22), .mov (.tmp 0), some (17, false)⟩ <|
    .q 11 false ⟨(some 23), .bin .geq (.tmp 21) (.tmp 22), some (17, false)⟩ <|
    .q 12 false ⟨(some 24), .pick (.tmp 17) (.const (.bool true)) (.tmp 23), none⟩ <|
    .q 13 false ⟨(some 25), .mov (.tmp 24), none⟩ <|
    .q 14 false ⟨(some 26), .mov (.tmp 5), some (25, false)⟩ <|
    .q 15 false ⟨(some 27), .bin .gtr (.tmp 26) (.const (.int .i64 0)), some (25, false)⟩ <|
    .q 16 false ⟨(some 28), .mov (.tmp 27), some (25, false)⟩ <|
    .q 17 false ⟨(some 29), .mov (.tmp 1), some (28, true)⟩ <|
    .q 18 false ⟨(some 30), .mov (.tmp 5), some (28, true)⟩ <|
    .q 19 false ⟨(some 31), .bin .sub (.tmp 30) (.const (.int .i64 1)), some (28, true)⟩ <|
    .q 20 false ⟨(some 32), .ixSl 1 (.tmp 29) (.tmp 31), some (28, true)⟩ <|
    .q 21 false ⟨(some 33), .ld1 (.tmp 32), some (28, true)⟩ <|
    .q 22 false ⟨(some 34), .mov (.tmp 1), some (28, true)⟩ <|
    .q 23 false ⟨(some 35), .mov (.tmp 5), some (28, true)⟩ <|
    .q 24 false ⟨(some 36), .ixSl 1 (.tmp 34) (.tmp 35), some (28, true)⟩ <|
    .q 25 false ⟨(some 37), .ld1 (.tmp 36), some (28, true)⟩ <|
    .q 26 false ⟨(some 38), .bin .geq (.tmp 33) (.tmp 37), some (28, true)⟩ <|
    .q 27 false ⟨(some 39), .pick (.tmp 28) (.tmp 38) (.const (.bool false)), some (25, false)⟩ <|
    .q 28 false ⟨(some 40), .pick (.tmp 25) (.const (.bool true)) (.tmp 39), none⟩ <|
    .fin
def S20_6 : S := .reg [
    ⟨(some 4), .mov (.const (.bool false)), none⟩]
def S20_7 : S := .seq S20_6 .ret
def S20_8 : S := .cond (.tmp 40) S20_7 .skip
def S20_9 : S := .seq S20_5 S20_8
def S20_10 : S := .block 1 S20_9
def S20_11 : S := .reg [
    ⟨(some 10), .mov (.tmp 5), none⟩,
    ⟨(some 11), .bin .add (.tmp 10) (.const (.int .i64 1)), none⟩,
    ⟨(some 5), .mov (.tmp 11), none⟩]
def S20_12 : S := .seq S20_10 S20_11
def S20_13 : S := .seq S20_4 S20_12
def S20_14 : S := .loop S20_13
def S20_15 : S := .block 0 S20_14
def S20_16 : S := .seq S20_1 S20_15
def S20_17 : S := .reg [
    ⟨(some 4), .mov (.const (.bool true)), none⟩]
def S20_18 : S := .seq S20_17 .ret
def S20_19 : S := .seq S20_16 S20_18
def S20_20 : S := .seq S20_0 S20_19
def S20 : S := S20_20
def G20 : List Tmp := [0, 1, 4, 5, 9, 40]
def R20 : List RV := [.tmp 4]
def X20 : XF := ⟨S20, G20, R20, 41⟩
theorem fok20 : FOk Try.prog 20 X20 := ⟨Try.f20, Try.func20, by kernel_rfl, by kernel_rfl, by kernel_rfl, by kernel_rfl⟩

/-! ### 21: minikin/minikinref03.Capacity: 2 arguments -/
def S21_0 : S := .reg [
    ⟨(some 2), .box 24 2 (.tmp 0), none⟩,
    ⟨(some 4), .mov (.const (.int .i64 0)), none⟩]
def S21_1 : S := .reg [
    ⟨(some 5), .mov (.const (.int .i64 0)), none⟩]
def S21_2 : S := .reg [
    ⟨(some 6), .mov (.const (.int .i64 0)), none⟩]
def S21_3 : S := .reg [
    ⟨(some 7), .mov (.tmp 6), none⟩,
    ⟨(some 8), .off (.tmp 2) 1, none⟩,
    ⟨(some 9), .ld1 (.tmp 8), none⟩,
    ⟨(some 10), .len 0 (.tmp 9), none⟩,
    ⟨(some 11), .bin .lss (.tmp 7) (.tmp 10), none⟩]
def S21_4 : S := .cond (.tmp 11) .skip (.exit 0)
def S21_5 : S := .seq S21_3 S21_4
def S21_6 : S := .reg [
    ⟨(some 14), .mov (.tmp 1), none⟩,
    ⟨(some 15), .off (.tmp 2) 1, none⟩,
    ⟨(some 16), .ld1 (.tmp 15), none⟩,
    ⟨(some 17), .mov (.tmp 6), none⟩,
    ⟨(some 18), .ixSl 3 (.tmp 16) (.tmp 17), none⟩,
    ⟨(some 19), .off (.tmp 18) 0, none⟩,
    ⟨(some 20), .ld1 (.tmp 19), none⟩,
    ⟨(some 21), .call (.func 22) [(.tmp 14), (.tmp 20)], none⟩,
    ⟨(some 22), .mov (.tmp 21), none⟩,
    ⟨(some 23), .mov (.tmp 1), some (22, true)⟩,
    ⟨(some 24), .off (.tmp 2) 1, some (22, true)⟩,
    ⟨(some 25), .ld1 (.tmp 24), some (22, true)⟩,
    ⟨(some 26), .mov (.tmp 6), some (22, true)⟩,
    ⟨(some 27), .ixSl 3 (.tmp 25) (.tmp 26), some (22, true)⟩,
    ⟨(some 28), .off (.tmp 27) 1, some (22, true)⟩,
    ⟨(some 29), .ld1 (.tmp 28), some (22, true)⟩,
    ⟨(some 30), .call (.func 22) [(.tmp 23), (.tmp 29)], some (22, true)⟩,
    ⟨(some 31), .not (.tmp 30), some (22, true)⟩,
    ⟨(some 32), .pick (.tmp 22) (.tmp 31) (.const (.bool false)), none⟩]
def S21_7 : S := .reg [
    ⟨(some 33), .mov (.tmp 5), none⟩,
    ⟨(some 34), .off (.tmp 2) 1, none⟩,
    ⟨(some 35), .ld1 (.tmp 34), none⟩,
    ⟨(some 36), .mov (.tmp 6), none⟩,
    ⟨(some 37), .ixSl 3 (.tmp 35) (.tmp 36), none⟩,
    ⟨(some 38), .off (.tmp 37) 2, none⟩,
    ⟨(some 39), .ld1 (.tmp 38), none⟩,
    ⟨(some 40), .bin .add (.tmp 33) (.tmp 39), none⟩,
    ⟨(some 5), .mov (.tmp 40), none⟩]
def S21_8 : S := .cond (.tmp 32) S21_7 .skip
def S21_9 : S := .seq S21_6 S21_8
def S21_10 : S := .block 1 S21_9
def S21_11 : S := .reg [
    ⟨(some 12), .mov (.tmp 6), none⟩,
    ⟨(some 13), .bin .add (.tmp 12) (.const (.int .i64 1)), none⟩,
    ⟨(some 6), .mov (.tmp 13), none⟩]
def S21_12 : S := .seq S21_10 S21_11
def S21_13 : S := .seq S21_5 S21_12
def S21_14 : S := .loop S21_13
def S21_15 : S := .block 0 S21_14
def S21_16 : S := .seq S21_2 S21_15
def S21_17 : S := .reg [
    ⟨(some 41), .mov (.tmp 5), none⟩,
    ⟨(some 4), .mov (.tmp 41), none⟩]
def S21_18 : S := .seq S21_17 .ret
def S21_19 : S := .seq S21_16 S21_18
def S21_20 : S := .seq S21_1 S21_19
def S21_21 : S := .seq S21_0 S21_20
def S21 : S := S21_21
def G21 : List Tmp := [0, 1, 2, 4, 5, 6, 11, 32]
def R21 : List RV := [.tmp 4]
def X21 : XF := ⟨S21, G21, R21, 42⟩
theorem fok21 : FOk Try.prog 21 X21 := ⟨Try.f21, Try.func21, by kernel_rfl, by kernel_rfl, by kernel_rfl, by kernel_rfl⟩

/-! ### 22: minikin/minikinref03.Has: 2 arguments -/
def S22_0 : S := .reg [
    ⟨(some 4), .mov (.const (.bool false)), none⟩]
def S22_1 : S := .reg [
    ⟨(some 5), .mov (.const (.int .i64 0)), none⟩]
def S22_2 : S := .reg [
    ⟨(some 6), .mov (.tmp 5), none⟩,
    ⟨(some 7), .mov (.tmp 0), none⟩,
    ⟨(some 8), .len 0 (.tmp 7), none⟩,
    ⟨(some 9), .bin .lss (.tmp 6) (.tmp 8), none⟩]
def S22_3 : S := .cond (.tmp 9) .skip (.exit 0)
def S22_4 : S := .seq S22_2 S22_3
def S22_5 : S := .reg [
    ⟨(some 12), .mov (.tmp 0), none⟩,
    ⟨(some 13), .mov (.tmp 5), none⟩,
    ⟨(some 14), .ixSl 1 (.tmp 12) (.tmp 13), none⟩,
    ⟨(some 15), .ld1 (.tmp 14), none⟩,
    ⟨(some 16), .mov (.tmp 1), none⟩,
    ⟨(some 17), .bin .eql (.tmp 15) (.tmp 16), none⟩]
def S22_6 : S := .reg [
    ⟨(some 4), .mov (.const (.bool true)), none⟩]
def S22_7 : S := .seq S22_6 .ret
def S22_8 : S := .cond (.tmp 17) S22_7 .skip
def S22_9 : S := .seq S22_5 S22_8
def S22_10 : S := .block 1 S22_9
def S22_11 : S := .reg [
    ⟨(some 10), .mov (.tmp 5), none⟩,
    ⟨(some 11), .bin .add (.tmp 10) (.const (.int .i64 1)), none⟩,
    ⟨(some 5), .mov (.tmp 11), none⟩]
def S22_12 : S := .seq S22_10 S22_11
def S22_13 : S := .seq S22_4 S22_12
def S22_14 : S := .loop S22_13
def S22_15 : S := .block 0 S22_14
def S22_16 : S := .seq S22_1 S22_15
def S22_17 : S := .reg [
    ⟨(some 4), .mov (.const (.bool false)), none⟩]
def S22_18 : S := .seq S22_17 .ret
def S22_19 : S := .seq S22_16 S22_18
def S22_20 : S := .seq S22_0 S22_19
def S22 : S := S22_20
def G22 : List Tmp := [0, 1, 4, 5, 9, 17]
def R22 : List RV := [.tmp 4]
def X22 : XF := ⟨S22, G22, R22, 18⟩
theorem fok22 : FOk Try.prog 22 X22 := ⟨Try.f22, Try.func22, by kernel_rfl, by kernel_rfl, by kernel_rfl, by kernel_rfl⟩

end Go.Proofs.Ytnhodgonmceojaa.Sh
