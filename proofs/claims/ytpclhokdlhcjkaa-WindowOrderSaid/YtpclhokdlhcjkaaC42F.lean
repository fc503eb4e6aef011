/- The functions of the program as terms of the abstract machine, printed by wip/gen/gen.py, with marks. -/
import Derived.Test.YtpclhokdlhcjkaaJAbsCore
set_option linter.all false
namespace Go.Abs
open Go
def i_l42_WindowMatchesReference : FuncId := 3
def i_X17 : FuncId := 4
def i_l42_WindowNumbers : FuncId := 5
def i_l42_WindowSums : FuncId := 6
def i_X31 : FuncId := 7
def i_l42_WindowLags : FuncId := 8
def i_X43 : FuncId := 9
def i_l42_small : FuncId := 10
def i_X60 : FuncId := 11
def i_X54 : FuncId := 12
def i_X45 : FuncId := 13
def i_r42_ComputeIn : FuncId := 14
def i_X56 : FuncId := 15
def i_r42_OrderIn : FuncId := 16
def i_X42 : FuncId := 17
def i_r42_AppendIn : FuncId := 18
def i_X67 : FuncId := 19
def i_X65 : FuncId := 20
def i_X53 : FuncId := 21
def i_X68 : FuncId := 22
def i_X66 : FuncId := 23
def i_X62 : FuncId := 24
def i_X40 : FuncId := 25
def i_X59 : FuncId := 26
def i_X51 : FuncId := 27
def i_X64 : FuncId := 28
def i_X58 : FuncId := 29
def i_X57 : FuncId := 30
def i_X46 : FuncId := 31
def i_X34 : FuncId := 32
def i_r42_valid : FuncId := 33
def i_r42_sums : FuncId := 34
def i_r42_at : FuncId := 35
def i_X44 : FuncId := 36
def i_r42_columns : FuncId := 37
def i_r42_ahead : FuncId := 38
def i_X35 : FuncId := 39
def i_X61 : FuncId := 40
def i_X48 : FuncId := 41
def i_X47 : FuncId := 42
def i_X41 : FuncId := 43
def i_X24 : FuncId := 44
def i_X28 : FuncId := 45
def i_X11 : FuncId := 46
def i_X26 : FuncId := 47
def i_X38 : FuncId := 48
def i_X25 : FuncId := 49
def i_r42_number : FuncId := 50
def i_X22 : FuncId := 51
def i_X30 : FuncId := 52
def i_X15 : FuncId := 53
def i_X23 : FuncId := 54
def i_X37 : FuncId := 55
def i_X20 : FuncId := 56
def i_X32 : FuncId := 57
def i_X52 : FuncId := 58
def i_X39 : FuncId := 59
def i_X29 : FuncId := 60
def i_X19 : FuncId := 61
def i_X10 : FuncId := 62
def i_X63 : FuncId := 63
def i_X12 : FuncId := 64
def i_X55 : FuncId := 65
def i_X36 : FuncId := 66
def i_X3 : FuncId := 67
def i_X8 : FuncId := 68
def i_X4 : FuncId := 69
def i_X6 : FuncId := 70
def i_X5 : FuncId := 71
def i_X0 : FuncId := 72
def i_X2 : FuncId := 73
def i_X7 : FuncId := 74
def i_X50 : FuncId := 75
def i_X49 : FuncId := 76
def i_X33 : FuncId := 77
def i_X21 : FuncId := 78
def i_X9 : FuncId := 79
def i_X16 : FuncId := 80
def i_X18 : FuncId := 81
def i_X1 : FuncId := 82
def i_X13 : FuncId := 83
def i_X27 : FuncId := 84
def i_X14 : FuncId := 85
def X17.c0 : ACode := (.seq (.seq (.ghost (.dfreeze 12))
 (.seq (.ghost (.dfreeze 13))
 (.seq (.region false [
 ⟨some 86, .load true 4 (.tmp 9), none, [], []⟩,
 ⟨some 15, .alloc [(.int .i64 0), (.int .i64 0), .nils, .nils], none, [], []⟩,
 ⟨none, .store 4 (.tmp 15) (.tmp 86), none, [], []⟩])
 (.ghost (.kill [86])))))
 (.seq (.seq (.region false [
 ⟨some 87, .faddr 2 (.tmp 15), none, [], []⟩,
 ⟨none, .store 1 (.tmp 87) (.cst .nils), none, [], []⟩])
 (.ghost (.kill [87])))
 (.seq (.region false [
 ⟨some 88, .mv (.tmp 12), none, [], []⟩,
 ⟨some 89, .load true 4 (.tmp 9), none, [], []⟩,
 ⟨some 90, .call true i_X45 [(.tmp 88), (.tmp 89)], none, [], []⟩,
 ⟨some 91, .mv (.tmp 13), none, [], []⟩,
 ⟨some 92, .build [.nils, .nils, .nils, (.int .i64 0)] [(0, 1, (.tmp 91))], none, [], []⟩,
 ⟨some 93, .call true i_X54 [(.tmp 90), (.tmp 92)], none, [], []⟩,
 ⟨some 94, .mv (.tmp 93), none, [], []⟩,
 ⟨some 95, .mv (.tmp 12), (some ((some 94), true)), [], []⟩,
 ⟨some 96, .load true 4 (.tmp 15), (some ((some 94), true)), [], []⟩,
 ⟨some 97, .call true i_X45 [(.tmp 95), (.tmp 96)], (some ((some 94), true)), [], []⟩,
 ⟨some 98, .mv (.tmp 13), (some ((some 94), true)), [], []⟩,
 ⟨some 99, .build [.nils, .nils, .nils, (.int .i64 0)] [(0, 1, (.tmp 98))], (some ((some 94), true)), [], []⟩,
 ⟨some 100, .call true i_X54 [(.tmp 97), (.tmp 99)], (some ((some 94), true)), [], []⟩,
 ⟨some 101, .pick (.tmp 94) (.tmp 100) (.cst (.bool false)), none, [], []⟩,
 ⟨some 102, .mv (.tmp 101), none, [], []⟩,
 ⟨some 103, .mv (.tmp 7), (some ((some 102), true)), [], []⟩,
 ⟨some 104, .pick (.tmp 102) (.tmp 103) (.cst (.bool false)), none, [], []⟩,
 ⟨some 6, .mv (.tmp 104), none, [], []⟩])
 .ret)))
def X17.c1 : ACode := (.ghost (.kill [8, 10, 11, 14, 59]))
def X17.c2 : ACode := (.seq (.region false [
 ⟨some 60, .mv (.tmp 14), none, [], []⟩,
 ⟨some 61, .bin .add (.tmp 60) (.cst (.int .i64 1)), none, [], []⟩,
 ⟨some 14, .mv (.tmp 61), none, [], []⟩])
 (.ghost (.kill [60, 61])))
def X17.b0 : ACode := (.seq (.seq (.seq (.region false [
 ⟨some 56, .mv (.tmp 14), none, [], []⟩,
 ⟨some 57, .mv (.tmp 8), none, [], []⟩,
 ⟨some 58, .len .sl (.tmp 57), none, [], []⟩,
 ⟨some 59, .bin .lss (.tmp 56) (.tmp 58), none, [], []⟩])
 (.ghost (.kill [56, 57, 58])))
 (.cond (.tmp 59) .skip
 (.exit 0)))
 (.seq (.trunc (.block 1 (.seq (.seq (.region true [
 ⟨some 62, .mv (.tmp 8), none, [], [8]⟩,
 ⟨some 63, .mv (.tmp 14), none, [], [14]⟩,
 ⟨some 64, .iaddr 1 (.tmp 62) (.tmp 63), none, [0, 1], [62, 63]⟩,
 ⟨some 65, .load false 1 (.tmp 64), none, [2], [64]⟩,
 ⟨some 66, .mv (.tmp 11), none, [], [11]⟩,
 ⟨some 67, .faddr 2 (.tmp 9), none, [], [9]⟩,
 ⟨some 68, .load false 1 (.tmp 67), none, [5], [67]⟩,
 ⟨some 69, .call true i_X65 [(.tmp 65), (.tmp 66), (.tmp 68)], none, [3, 4, 6], [65, 66, 68]⟩,
 ⟨some 70, .bin .eql (.tmp 69) (.cst (.int .i64 0)), none, [7], [69]⟩])
 (.ghost (.kill [59, 62, 63, 64, 65, 66, 67, 68, 69])))
 (.seq (.cond (.tmp 70) (.seq (.seq (.region false [
   ⟨some 71, .mv (.tmp 12), none, [], []⟩,
   ⟨some 72, .mv (.tmp 8), none, [], []⟩,
   ⟨some 73, .mv (.tmp 14), none, [], []⟩,
   ⟨some 74, .iaddr 1 (.tmp 72) (.tmp 73), none, [], []⟩,
   ⟨some 75, .load false 1 (.tmp 74), none, [], []⟩,
   ⟨some 76, .bslice 1 1 [.nils] [(0, (.tmp 75))], none, [], []⟩,
   ⟨some 77, .append 1 24 (.tmp 71) (.tmp 76), none, [], []⟩,
   ⟨some 12, .mv (.tmp 77), none, [], []⟩])
  (.ghost (.kill [70, 71, 72, 73, 74, 75, 76, 77])))
  (.seq (.region false [
   ⟨some 78, .mv (.tmp 13), none, [], []⟩,
   ⟨some 79, .faddr 0 (.tmp 10), none, [], []⟩,
   ⟨some 80, .load false 1 (.tmp 79), none, [], []⟩,
   ⟨some 81, .mv (.tmp 14), none, [], []⟩,
   ⟨some 82, .iaddr 3 (.tmp 80) (.tmp 81), none, [], []⟩,
   ⟨some 83, .load true 3 (.tmp 82), none, [], []⟩,
   ⟨some 84, .bslice 3 1 [(.int .i64 0), (.int .i64 0), (.str ⟨#[]⟩)] [(0, (.tmp 83))], none, [], []⟩,
   ⟨some 85, .append 3 32 (.tmp 78) (.tmp 84), none, [], []⟩,
   ⟨some 13, .mv (.tmp 85), none, [], []⟩])
  (.ghost (.kill [78, 79, 80, 81, 82, 83, 84, 85]))))
 .skip)
 (.ghost (.kill [70]))))))
 X17.c2))
def X17.main : ACode := (.seq (.seq (.region false [
 ⟨some 4, .box 4 (.tmp 1), none, [], []⟩,
 ⟨some 6, .mv (.cst (.bool false)), none, [], []⟩])
 (.ghost (.kill [1, 6])))
 (.seq (.seq (.region false [
 ⟨some 16, .call true i_X43 [], none, [], []⟩,
 ⟨some 7, .mv (.tmp 16), none, [], []⟩])
 (.ghost (.kill [16])))
 (.seq (.seq (.seq (.region false [
 ⟨some 17, .mv (.tmp 7), none, [], []⟩,
 ⟨some 18, .un .not (.tmp 17), none, [], []⟩])
 (.ghost (.kill [17])))
 (.cond (.tmp 18) (.seq (.region false [
   ⟨some 6, .mv (.cst (.bool false)), none, [], []⟩])
  .ret)
 .skip))
 (.seq (.seq (.region false [
 ⟨some 19, .mv (.tmp 0), none, [], []⟩,
 ⟨some 20, .call true i_X60 [(.tmp 19)], none, [], []⟩,
 ⟨some 8, .mv (.tmp 20), none, [], []⟩])
 (.ghost (.kill [0, 18, 19, 20])))
 (.seq (.seq (.region false [
 ⟨some 21, .mv (.tmp 2), none, [], []⟩,
 ⟨some 22, .bin .rem (.tmp 21) (.cst (.int .u8 4)), none, [], []⟩,
 ⟨some 23, .conv .i64 (.tmp 22), none, [], []⟩,
 ⟨some 24, .bin .add (.cst (.int .i64 1)) (.tmp 23), none, [], []⟩,
 ⟨some 25, .load true 4 (.tmp 4), none, [], []⟩,
 ⟨some 26, .call true i_X67 [(.tmp 24), (.tmp 25)], none, [], []⟩,
 ⟨some 9, .alloc [(.int .i64 0), (.int .i64 0), .nils, .nils], none, [], []⟩,
 ⟨none, .store 4 (.tmp 9) (.tmp 26), none, [], []⟩])
 (.ghost (.kill [4, 21, 22, 23, 24, 25, 26])))
 (.seq (.seq (.region false [
 ⟨some 27, .mv (.tmp 8), none, [], []⟩,
 ⟨some 28, .load true 4 (.tmp 9), none, [], []⟩,
 ⟨some 29, .call true i_X45 [(.tmp 27), (.tmp 28)], none, [], []⟩,
 ⟨some 10, .alloc [.nils, .nils, .nils, (.int .i64 0)], none, [], []⟩,
 ⟨none, .store 4 (.tmp 10) (.tmp 29), none, [], []⟩])
 (.ghost (.kill [27, 28, 29])))
 (.seq (.seq (.seq (.region false [
 ⟨some 30, .faddr 3 (.tmp 10), none, [], []⟩,
 ⟨some 31, .load false 1 (.tmp 30), none, [], []⟩,
 ⟨some 32, .bin .neq (.tmp 31) (.cst (.int .i64 0)), none, [], []⟩,
 ⟨some 33, .mv (.tmp 32), none, [], []⟩,
 ⟨some 34, .faddr 0 (.tmp 10), (some ((some 33), false)), [], []⟩,
 ⟨some 35, .load false 1 (.tmp 34), (some ((some 33), false)), [], []⟩,
 ⟨some 36, .len .sl (.tmp 35), (some ((some 33), false)), [], []⟩,
 ⟨some 37, .mv (.tmp 8), (some ((some 33), false)), [], []⟩,
 ⟨some 38, .len .sl (.tmp 37), (some ((some 33), false)), [], []⟩,
 ⟨some 39, .bin .neq (.tmp 36) (.tmp 38), (some ((some 33), false)), [], []⟩,
 ⟨some 40, .pick (.tmp 33) (.cst (.bool true)) (.tmp 39), none, [], []⟩])
 (.ghost (.kill [30, 31, 32, 33, 34, 35, 36, 37, 38, 39])))
 (.cond (.tmp 40) (.seq (.region false [
   ⟨some 6, .mv (.cst (.bool false)), none, [], []⟩])
  .ret)
 .skip))
 (.seq (.seq (.seq (.region false [
 ⟨some 41, .mv (.tmp 8), none, [], []⟩,
 ⟨some 42, .len .sl (.tmp 41), none, [], []⟩,
 ⟨some 43, .bin .eql (.tmp 42) (.cst (.int .i64 0)), none, [], []⟩])
 (.ghost (.kill [40, 41, 42])))
 (.cond (.tmp 43) (.seq (.region false [
   ⟨some 44, .mv (.tmp 7), none, [], []⟩,
   ⟨some 6, .mv (.tmp 44), none, [], []⟩])
  .ret)
 .skip))
 (.seq (.seq (.region false [
 ⟨some 45, .mv (.tmp 8), none, [], []⟩,
 ⟨some 46, .mv (.tmp 2), none, [], []⟩,
 ⟨some 47, .bin .quo (.tmp 46) (.cst (.int .u8 4)), none, [], []⟩,
 ⟨some 48, .conv .i64 (.tmp 47), none, [], []⟩,
 ⟨some 49, .mv (.tmp 8), none, [], []⟩,
 ⟨some 50, .len .sl (.tmp 49), none, [], []⟩,
 ⟨some 51, .bin .rem (.tmp 48) (.tmp 50), none, [], []⟩,
 ⟨some 52, .iaddr 1 (.tmp 45) (.tmp 51), none, [], []⟩,
 ⟨some 53, .load false 1 (.tmp 52), none, [], []⟩,
 ⟨some 11, .mv (.tmp 53), none, [], []⟩])
 (.ghost (.kill [2, 43, 45, 46, 47, 48, 49, 50, 51, 52, 53])))
 (.seq (.seq (.region false [
 ⟨some 54, .bslice 1 0 [.nils] [], none, [], []⟩,
 ⟨some 55, .bslice 3 0 [(.int .i64 0), (.int .i64 0), (.str ⟨#[]⟩)] [], none, [], []⟩,
 ⟨some 12, .mv (.tmp 54), none, [], []⟩,
 ⟨some 13, .mv (.tmp 55), none, [], []⟩])
 (.ghost (.kill [54, 55])))
 (.seq (.seq (.region false [
 ⟨some 14, .mv (.cst (.int .i64 0)), none, [], []⟩])
 (.seq (.block 0 (.loop X17.b0))
 X17.c1))
 X17.c0)))))))))))
def X17.k0 : List Item := [.inBlock 0, .code X17.c1, .code X17.c0]
def X17 : AFunc := ⟨105, [.tmp 6], X17.main, false⟩
def X31.c0 : ACode := (.seq (.region false [
 ⟨some 140, .mv (.tmp 7), none, [], []⟩,
 ⟨some 6, .mv (.tmp 140), none, [], []⟩])
 .ret)
def X31.c1 : ACode := (.ghost (.kill [8, 14, 15, 16, 17, 95]))
def X31.c2 : ACode := (.seq (.region false [
 ⟨some 96, .mv (.tmp 17), none, [], []⟩,
 ⟨some 97, .bin .add (.tmp 96) (.cst (.int .i64 1)), none, [], []⟩,
 ⟨some 17, .mv (.tmp 97), none, [], []⟩])
 (.ghost (.kill [96, 97])))
def X31.c3 : ACode := (.seq (.seq (.region false [
 ⟨some 129, .mv (.tmp 18), none, [], []⟩,
 ⟨some 130, .un .not (.tmp 129), none, [], []⟩,
 ⟨some 131, .mv (.tmp 130), none, [], []⟩,
 ⟨some 132, .faddr 2 (.tmp 14), (some ((some 131), false)), [], []⟩,
 ⟨some 133, .load false 1 (.tmp 132), (some ((some 131), false)), [], []⟩,
 ⟨some 134, .mv (.tmp 17), (some ((some 131), false)), [], []⟩,
 ⟨some 135, .iaddr 1 (.tmp 133) (.tmp 134), (some ((some 131), false)), [], []⟩,
 ⟨some 136, .load false 1 (.tmp 135), (some ((some 131), false)), [], []⟩,
 ⟨some 137, .len .sl (.tmp 136), (some ((some 131), false)), [], []⟩,
 ⟨some 138, .bin .neq (.tmp 137) (.cst (.int .i64 8)), (some ((some 131), false)), [], []⟩,
 ⟨some 139, .pick (.tmp 131) (.cst (.bool true)) (.tmp 138), none, [], []⟩])
 (.ghost (.kill [18, 129, 130, 131, 132, 133, 134, 135, 136, 137, 138])))
 (.cond (.tmp 139) (.seq (.region false [
   ⟨some 6, .mv (.cst (.bool false)), none, [], []⟩])
  .ret)
 .skip))
def X31.c4 : ACode := (.seq (.region false [
 ⟨some 106, .mv (.tmp 19), none, [], []⟩,
 ⟨some 107, .bin .add (.tmp 106) (.cst (.int .i64 1)), none, [], []⟩,
 ⟨some 19, .mv (.tmp 107), none, [], []⟩])
 (.ghost (.kill [106, 107])))
def X31.b3 : ACode := (.seq (.seq (.seq (.region false [
 ⟨some 98, .mv (.tmp 19), none, [], []⟩,
 ⟨some 99, .mv (.tmp 8), none, [], []⟩,
 ⟨some 100, .len .sl (.tmp 99), none, [], []⟩,
 ⟨some 101, .bin .lss (.tmp 98) (.tmp 100), none, [], []⟩,
 ⟨some 102, .mv (.tmp 101), none, [], []⟩,
 ⟨some 103, .mv (.tmp 18), (some ((some 102), true)), [], []⟩,
 ⟨some 104, .un .not (.tmp 103), (some ((some 102), true)), [], []⟩,
 ⟨some 105, .pick (.tmp 102) (.tmp 104) (.cst (.bool false)), none, [], []⟩])
 (.ghost (.kill [98, 99, 100, 101, 102, 103, 104])))
 (.cond (.tmp 105) .skip
 (.exit 6)))
 (.seq (.block 7 (.seq (.seq (.region true [
 ⟨some 108, .mv (.tmp 16), none, [], [16]⟩,
 ⟨some 109, .mv (.tmp 19), none, [], [19]⟩,
 ⟨some 110, .iaddr 1 (.tmp 108) (.tmp 109), none, [0, 1], [108, 109]⟩,
 ⟨some 111, .load false 1 (.tmp 110), none, [2], [110]⟩,
 ⟨some 112, .un .not (.tmp 111), none, [3], [111]⟩,
 ⟨some 113, .mv (.tmp 112), none, [4], [112]⟩,
 ⟨some 114, .faddr 2 (.tmp 14), (some ((some 113), true)), [5], [14]⟩,
 ⟨some 115, .load false 1 (.tmp 114), (some ((some 113), true)), [6, 5], [114]⟩,
 ⟨some 116, .mv (.tmp 17), (some ((some 113), true)), [5], [17]⟩,
 ⟨some 117, .iaddr 1 (.tmp 115) (.tmp 116), (some ((some 113), true)), [7, 8, 5], [115, 116]⟩,
 ⟨some 118, .load false 1 (.tmp 117), (some ((some 113), true)), [9, 5], [117]⟩,
 ⟨some 119, .faddr 2 (.tmp 15), (some ((some 113), true)), [5], [15]⟩,
 ⟨some 120, .load false 1 (.tmp 119), (some ((some 113), true)), [11, 5], [119]⟩,
 ⟨some 121, .mv (.tmp 19), (some ((some 113), true)), [5], [19]⟩,
 ⟨some 122, .iaddr 1 (.tmp 120) (.tmp 121), (some ((some 113), true)), [12, 13, 5], [120, 121]⟩,
 ⟨some 123, .load false 1 (.tmp 122), (some ((some 113), true)), [14, 5], [122]⟩,
 ⟨some 124, .call true i_X59 [(.tmp 118), (.tmp 123)], (some ((some 113), true)), [10, 15, 5, 5], [118, 123]⟩,
 ⟨some 125, .pick (.tmp 113) (.tmp 124) (.cst (.bool false)), none, [5, 16], [113, 124]⟩])
 (.ghost (.kill [105, 108, 109, 110, 111, 112, 113, 114, 115, 116, 117, 118, 119, 120, 121, 122, 123, 124])))
 (.seq (.cond (.tmp 125) (.seq (.seq (.region false [
   ⟨some 18, .mv (.cst (.bool true)), none, [], []⟩])
  (.ghost (.kill [125])))
  (.seq (.region false [
   ⟨some 126, .mv (.tmp 16), none, [], []⟩,
   ⟨some 127, .mv (.tmp 19), none, [], []⟩,
   ⟨some 128, .iaddr 1 (.tmp 126) (.tmp 127), none, [], []⟩,
   ⟨none, .store 1 (.tmp 128) (.cst (.bool true)), none, [], []⟩])
  (.ghost (.kill [126, 127, 128]))))
 .skip)
 (.ghost (.kill [125])))))
 X31.c4))
def X31.b2 : ACode := (.seq (.seq (.seq (.region false [
 ⟨some 92, .mv (.tmp 17), none, [], []⟩,
 ⟨some 93, .mv (.tmp 8), none, [], []⟩,
 ⟨some 94, .len .sl (.tmp 93), none, [], []⟩,
 ⟨some 95, .bin .lss (.tmp 92) (.tmp 94), none, [], []⟩])
 (.ghost (.kill [92, 93, 94])))
 (.cond (.tmp 95) .skip
 (.exit 4)))
 (.seq (.seq (.block 5 (.seq (.seq (.region false [
 ⟨some 18, .mv (.cst (.bool false)), none, [], []⟩])
 (.ghost (.kill [95])))
 (.seq (.seq (.region false [
 ⟨some 19, .mv (.cst (.int .i64 0)), none, [], []⟩])
 (.seq (.block 6 (.loop X31.b3))
 (.ghost (.kill [19, 105]))))
 X31.c3)))
 (.ghost (.kill [139])))
 X31.c2))
def X31.c5 : ACode := (.seq (.seq (.ghost (.dfreeze 10))
 (.seq (.ghost (.dfreeze 12))
 (.seq (.region false [
 ⟨some 59, .mv (.tmp 8), none, [], []⟩,
 ⟨some 60, .mv (.tmp 12), none, [], []⟩,
 ⟨some 61, .call true i_X42 [(.tmp 59), (.tmp 60)], none, [], []⟩,
 ⟨some 62, .mv (.tmp 10), none, [], []⟩,
 ⟨some 63, .mv (.tmp 12), none, [], []⟩,
 ⟨some 64, .call true i_X42 [(.tmp 62), (.tmp 63)], none, [], []⟩,
 ⟨some 14, .alloc [.nils, .nils, .nils, (.int .i64 0)], none, [], []⟩,
 ⟨some 15, .alloc [.nils, .nils, .nils, (.int .i64 0)], none, [], []⟩,
 ⟨none, .store 4 (.tmp 14) (.tmp 61), none, [], []⟩,
 ⟨none, .store 4 (.tmp 15) (.tmp 64), none, [], []⟩])
 (.ghost (.kill [10, 12, 59, 60, 61, 62, 63, 64])))))
 (.seq (.seq (.seq (.region false [
 ⟨some 65, .faddr 3 (.tmp 14), none, [], []⟩,
 ⟨some 66, .load false 1 (.tmp 65), none, [], []⟩,
 ⟨some 67, .bin .neq (.tmp 66) (.cst (.int .i64 0)), none, [], []⟩,
 ⟨some 68, .mv (.tmp 67), none, [], []⟩,
 ⟨some 69, .faddr 3 (.tmp 15), (some ((some 68), false)), [], []⟩,
 ⟨some 70, .load false 1 (.tmp 69), (some ((some 68), false)), [], []⟩,
 ⟨some 71, .bin .neq (.tmp 70) (.cst (.int .i64 0)), (some ((some 68), false)), [], []⟩,
 ⟨some 72, .pick (.tmp 68) (.cst (.bool true)) (.tmp 71), none, [], []⟩,
 ⟨some 73, .mv (.tmp 72), none, [], []⟩,
 ⟨some 74, .faddr 2 (.tmp 14), (some ((some 73), false)), [], []⟩,
 ⟨some 75, .load false 1 (.tmp 74), (some ((some 73), false)), [], []⟩,
 ⟨some 76, .len .sl (.tmp 75), (some ((some 73), false)), [], []⟩,
 ⟨some 77, .mv (.tmp 8), (some ((some 73), false)), [], []⟩,
 ⟨some 78, .len .sl (.tmp 77), (some ((some 73), false)), [], []⟩,
 ⟨some 79, .bin .neq (.tmp 76) (.tmp 78), (some ((some 73), false)), [], []⟩,
 ⟨some 80, .pick (.tmp 73) (.cst (.bool true)) (.tmp 79), none, [], []⟩,
 ⟨some 81, .mv (.tmp 80), none, [], []⟩,
 ⟨some 82, .faddr 2 (.tmp 15), (some ((some 81), false)), [], []⟩,
 ⟨some 83, .load false 1 (.tmp 82), (some ((some 81), false)), [], []⟩,
 ⟨some 84, .len .sl (.tmp 83), (some ((some 81), false)), [], []⟩,
 ⟨some 85, .mv (.tmp 8), (some ((some 81), false)), [], []⟩,
 ⟨some 86, .len .sl (.tmp 85), (some ((some 81), false)), [], []⟩,
 ⟨some 87, .bin .neq (.tmp 84) (.tmp 86), (some ((some 81), false)), [], []⟩,
 ⟨some 88, .pick (.tmp 81) (.cst (.bool true)) (.tmp 87), none, [], []⟩])
 (.ghost (.kill [65, 66, 67, 68, 69, 70, 71, 72, 73, 74, 75, 76, 77, 78, 79, 80, 81, 82, 83, 84, 85, 86, 87])))
 (.cond (.tmp 88) (.seq (.region false [
   ⟨some 6, .mv (.cst (.bool false)), none, [], []⟩])
  .ret)
 .skip))
 (.seq (.seq (.region false [
 ⟨some 89, .mv (.tmp 8), none, [], []⟩,
 ⟨some 90, .len .sl (.tmp 89), none, [], []⟩,
 ⟨some 91, .mkslice 1 1 [(.bool false)] (.tmp 90) (.tmp 90), none, [], []⟩,
 ⟨some 16, .mv (.tmp 91), none, [], []⟩])
 (.ghost (.kill [88, 89, 90, 91])))
 (.seq (.seq (.region false [
 ⟨some 17, .mv (.cst (.int .i64 0)), none, [], []⟩])
 (.seq (.block 4 (.loop X31.b2))
 X31.c1))
 X31.c0))))
def X31.b1 : ACode := (.seq (.seq (.seq (.region false [
 ⟨some 49, .mv (.tmp 13), none, [], []⟩,
 ⟨some 50, .bin .leq (.tmp 49) (.cst (.int .i64 4)), none, [], []⟩])
 (.ghost (.kill [49])))
 (.cond (.tmp 50) .skip
 (.exit 2)))
 (.seq (.trunc (.block 3 (.seq (.region false [
 ⟨some 53, .mv (.tmp 12), none, [], []⟩,
 ⟨some 54, .mv (.tmp 13), none, [], []⟩,
 ⟨some 55, .load true 4 (.tmp 4), none, [], []⟩,
 ⟨some 56, .call true i_X67 [(.tmp 54), (.tmp 55)], none, [], []⟩,
 ⟨some 57, .bslice 4 1 [(.int .i64 0), (.int .i64 0), .nils, .nils] [(0, (.tmp 56))], none, [], []⟩,
 ⟨some 58, .append 4 64 (.tmp 53) (.tmp 57), none, [], []⟩,
 ⟨some 12, .mv (.tmp 58), none, [], []⟩])
 (.ghost (.kill [50, 53, 54, 55, 56, 57, 58])))))
 (.seq (.region false [
 ⟨some 51, .mv (.tmp 13), none, [], []⟩,
 ⟨some 52, .bin .add (.tmp 51) (.cst (.int .i64 1)), none, [], []⟩,
 ⟨some 13, .mv (.tmp 52), none, [], []⟩])
 (.ghost (.kill [51, 52])))))
def X31.c6 : ACode := (.seq (.seq (.region false [
 ⟨some 48, .bslice 4 0 [(.int .i64 0), (.int .i64 0), .nils, .nils] [], none, [], []⟩,
 ⟨some 12, .mv (.tmp 48), none, [], []⟩])
 (.ghost (.kill [48])))
 (.seq (.seq (.region false [
 ⟨some 13, .mv (.cst (.int .i64 1)), none, [], []⟩])
 (.seq (.block 2 (.loop X31.b1))
 (.ghost (.kill [4, 13, 50]))))
 X31.c5))
def X31.b0 : ACode := (.seq (.seq (.seq (.region false [
 ⟨some 32, .mv (.tmp 11), none, [], []⟩,
 ⟨some 33, .mv (.tmp 8), none, [], []⟩,
 ⟨some 34, .len .sl (.tmp 33), none, [], []⟩,
 ⟨some 35, .bin .lss (.tmp 32) (.tmp 34), none, [], []⟩])
 (.ghost (.kill [32, 33, 34])))
 (.cond (.tmp 35) .skip
 (.exit 0)))
 (.seq (.block 1 (.seq (.region false [
 ⟨some 38, .mv (.tmp 10), none, [], []⟩,
 ⟨some 39, .mv (.tmp 11), none, [], []⟩,
 ⟨some 40, .mv (.tmp 8), none, [], []⟩,
 ⟨some 41, .mv (.tmp 9), none, [], []⟩,
 ⟨some 42, .mv (.tmp 11), none, [], []⟩,
 ⟨some 43, .iaddr 1 (.tmp 41) (.tmp 42), none, [], []⟩,
 ⟨some 44, .load false 1 (.tmp 43), none, [], []⟩,
 ⟨some 45, .iaddr 1 (.tmp 40) (.tmp 44), none, [], []⟩,
 ⟨some 46, .load false 1 (.tmp 45), none, [], []⟩,
 ⟨some 47, .iaddr 1 (.tmp 38) (.tmp 39), none, [], []⟩,
 ⟨none, .store 1 (.tmp 47) (.tmp 46), none, [], []⟩])
 (.ghost (.kill [35, 38, 39, 40, 41, 42, 43, 44, 45, 46, 47]))))
 (.seq (.region false [
 ⟨some 36, .mv (.tmp 11), none, [], []⟩,
 ⟨some 37, .bin .add (.tmp 36) (.cst (.int .i64 1)), none, [], []⟩,
 ⟨some 11, .mv (.tmp 37), none, [], []⟩])
 (.ghost (.kill [36, 37])))))
def X31.main : ACode := (.seq (.seq (.region false [
 ⟨some 4, .box 4 (.tmp 1), none, [], []⟩,
 ⟨some 6, .mv (.cst (.bool false)), none, [], []⟩])
 (.ghost (.kill [1, 6])))
 (.seq (.seq (.region false [
 ⟨some 20, .call true i_X43 [], none, [], []⟩,
 ⟨some 7, .mv (.tmp 20), none, [], []⟩])
 (.ghost (.kill [20])))
 (.seq (.seq (.seq (.region false [
 ⟨some 21, .mv (.tmp 7), none, [], []⟩,
 ⟨some 22, .un .not (.tmp 21), none, [], []⟩])
 (.ghost (.kill [21])))
 (.cond (.tmp 22) (.seq (.region false [
   ⟨some 6, .mv (.cst (.bool false)), none, [], []⟩])
  .ret)
 .skip))
 (.seq (.seq (.region false [
 ⟨some 23, .mv (.tmp 0), none, [], []⟩,
 ⟨some 24, .call true i_X60 [(.tmp 23)], none, [], []⟩,
 ⟨some 8, .mv (.tmp 24), none, [], []⟩])
 (.ghost (.kill [0, 22, 23, 24])))
 (.seq (.seq (.region false [
 ⟨some 25, .mv (.tmp 8), none, [], []⟩,
 ⟨some 26, .len .sl (.tmp 25), none, [], []⟩,
 ⟨some 27, .mv (.tmp 2), none, [], []⟩,
 ⟨some 28, .call true i_X40 [(.tmp 26), (.tmp 27)], none, [], []⟩,
 ⟨some 9, .mv (.tmp 28), none, [], []⟩])
 (.ghost (.kill [2, 25, 26, 27, 28])))
 (.seq (.seq (.region false [
 ⟨some 29, .mv (.tmp 8), none, [], []⟩,
 ⟨some 30, .len .sl (.tmp 29), none, [], []⟩,
 ⟨some 31, .mkslice 1 24 [.nils] (.tmp 30) (.tmp 30), none, [], []⟩,
 ⟨some 10, .mv (.tmp 31), none, [], []⟩])
 (.ghost (.kill [29, 30, 31])))
 (.seq (.seq (.region false [
 ⟨some 11, .mv (.cst (.int .i64 0)), none, [], []⟩])
 (.seq (.block 0 (.loop X31.b0))
 (.ghost (.kill [9, 11, 35]))))
 X31.c6)))))))
def X31.k3 : List Item := [.inBlock 6, .code (.ghost (.kill [19, 105])), .code X31.c3, .inBlock 5, .code (.ghost (.kill [139])), .code X31.c2, .inLoop X31.b2, .inBlock 4, .code X31.c1, .code X31.c0]
def X31.k2 : List Item := [.inBlock 4, .code X31.c1, .code X31.c0]
def X31.k1 : List Item := [.inBlock 2, .code (.ghost (.kill [4, 13, 50])), .code X31.c5]
def X31.k0 : List Item := [.inBlock 0, .code (.ghost (.kill [9, 11, 35])), .code X31.c6]
def X31 : AFunc := ⟨141, [.tmp 6], X31.main, false⟩
def X43.c0 : ACode := (.seq (.region true [
 ⟨some 73, .mv (.tmp 1), none, [], [1]⟩,
 ⟨some 74, .flist 1 1 [(.int .i64 0)] [(0, (.cst (.int .i64 1)))], none, [], []⟩,
 ⟨some 75, .call true i_X56 [(.tmp 73), (.tmp 74)], none, [0, 1], [73, 74]⟩,
 ⟨some 76, .flist 1 4 [(.int .i64 0)] [(0, (.cst (.int .i64 2))), (1, (.cst (.int .i64 0))), (2, (.cst (.int .i64 3))), (3, (.cst (.int .i64 1)))], none, [], []⟩,
 ⟨some 77, .build [.nils, .nils, .nils, (.int .i64 0)] [(1, 1, (.tmp 76))], none, [3], [76]⟩,
 ⟨some 78, .call true i_X54 [(.tmp 75), (.tmp 77)], none, [2, 4, 2], [75, 77]⟩,
 ⟨some 79, .mv (.tmp 78), none, [5, 5], [78]⟩,
 ⟨some 80, .mv (.tmp 1), (some ((some 79), true)), [6], [1]⟩,
 ⟨some 81, .build [(.int .i64 0), (.int .i64 0), .nils, .nils] [], (some ((some 79), true)), [6], []⟩,
 ⟨some 82, .call true i_X45 [(.tmp 80), (.tmp 81)], (some ((some 79), true)), [7, 8, 6, 6], [80, 81]⟩,
 ⟨some 83, .field 3 1 false (.tmp 82), (some ((some 79), true)), [9, 6], [82]⟩,
 ⟨some 84, .bin .eql (.tmp 83) (.cst (.int .i64 1)), (some ((some 79), true)), [10, 6], [83]⟩,
 ⟨some 85, .pick (.tmp 79) (.tmp 84) (.cst (.bool false)), none, [6, 11], [79, 84]⟩,
 ⟨some 86, .mv (.tmp 85), none, [12, 9], [85]⟩,
 ⟨some 87, .faddr 3 (.tmp 7), (some ((some 86), true)), [13], [7]⟩,
 ⟨some 88, .load false 1 (.tmp 87), (some ((some 86), true)), [14, 13], [87]⟩,
 ⟨some 89, .bin .eql (.tmp 88) (.cst (.int .i64 0)), (some ((some 86), true)), [15, 13], [88]⟩,
 ⟨some 90, .pick (.tmp 86) (.tmp 89) (.cst (.bool false)), none, [13, 16], [86, 89]⟩,
 ⟨some 91, .mv (.tmp 90), none, [17, 13], [90]⟩,
 ⟨some 92, .faddr 2 (.tmp 7), (some ((some 91), true)), [18], [7]⟩,
 ⟨some 93, .load false 1 (.tmp 92), (some ((some 91), true)), [19, 18], [92]⟩,
 ⟨some 94, .len .sl (.tmp 93), (some ((some 91), true)), [20, 18], [93]⟩,
 ⟨some 95, .bin .eql (.tmp 94) (.cst (.int .i64 4)), (some ((some 91), true)), [21, 18], [94]⟩,
 ⟨some 96, .pick (.tmp 91) (.tmp 95) (.cst (.bool false)), none, [18, 22], [91, 95]⟩,
 ⟨some 97, .mv (.tmp 96), none, [23, 18], [96]⟩,
 ⟨some 98, .faddr 2 (.tmp 7), (some ((some 97), true)), [24], [7]⟩,
 ⟨some 99, .load false 1 (.tmp 98), (some ((some 97), true)), [25, 24], [98]⟩,
 ⟨some 100, .iaddr 1 (.tmp 99) (.cst (.int .i64 3)), (some ((some 97), true)), [26, 24], [99]⟩,
 ⟨some 101, .load false 1 (.tmp 100), (some ((some 97), true)), [27, 24], [100]⟩,
 ⟨some 102, .flist 1 4 [(.int .i64 0)] [(0, (.cst (.int .i64 1))), (1, (.cst (.int .i64 5))), (2, (.cst (.int .i64 3))), (3, (.cst (.int .i64 2)))], (some ((some 97), true)), [24], []⟩,
 ⟨some 103, .call true i_X51 [(.tmp 102)], (some ((some 97), true)), [29, 24, 24], [102]⟩,
 ⟨some 104, .call true i_X59 [(.tmp 101), (.tmp 103)], (some ((some 97), true)), [28, 30, 30, 24], [101, 103]⟩,
 ⟨some 105, .pick (.tmp 97) (.tmp 104) (.cst (.bool false)), none, [24, 31], [97, 104]⟩,
 ⟨some 106, .mv (.tmp 105), none, [32, 31], [105]⟩,
 ⟨some 107, .call true i_X64 [(.cst (.str ⟨#[]⟩))], (some ((some 106), true)), [33, 33], []⟩,
 ⟨some 108, .flist 3 1 [(.int .i64 0), (.int .i64 0), (.str ⟨#[]⟩)] [(0, (.tmp 107))], (some ((some 106), true)), [34, 33], [107]⟩,
 ⟨some 109, .flist 1 1 [.nils] [(0, (.tmp 108))], (some ((some 106), true)), [35, 33], [108]⟩,
 ⟨some 110, .build [(.int .i64 0), (.int .i64 0), .nils, .nils] [(0, 1, (.cst (.int .i64 3)))], (some ((some 106), true)), [33], []⟩,
 ⟨some 111, .call true i_X45 [(.tmp 109), (.tmp 110)], (some ((some 106), true)), [36, 37, 34, 33], [109, 110]⟩,
 ⟨some 112, .field 3 1 false (.tmp 111), (some ((some 106), true)), [38, 33], [111]⟩,
 ⟨some 113, .bin .eql (.tmp 112) (.cst (.int .i64 6)), (some ((some 106), true)), [39, 33], [112]⟩,
 ⟨some 114, .pick (.tmp 106) (.tmp 113) (.cst (.bool false)), none, [33, 40], [106, 113]⟩,
 ⟨some 0, .mv (.tmp 114), none, [41, 38, 0, 1, 2, 3, 4, 5, 6, 7, 8, 9, 10, 11, 12, 13, 14, 15, 16, 17, 18, 19, 20, 21, 22, 23, 24, 25, 26, 27, 28, 29, 30, 31, 32, 33, 34, 35, 36, 37, 38, 39, 40, 41], [114]⟩])
 .ret)
def X43.c1 : ACode := (.ghost (.kill [2, 3, 67, 68, 69, 70, 71, 72]))
def X43.c2 : ACode := (.seq (.seq (.seq (.region true [
 ⟨some 27, .mv (.tmp 1), none, [], [1]⟩,
 ⟨some 28, .load true 4 (.tmp 2), none, [], [2]⟩,
 ⟨some 29, .call true i_X45 [(.tmp 27), (.tmp 28)], none, [0, 1], [27, 28]⟩,
 ⟨some 30, .flist 1 4 [(.int .i64 0)] [(0, (.cst (.int .i64 2))), (1, (.cst (.int .i64 1))), (2, (.cst (.int .i64 1))), (3, (.cst (.int .i64 3)))], none, [], []⟩,
 ⟨some 31, .call true i_X51 [(.tmp 30)], none, [3, 2], [30]⟩,
 ⟨some 32, .build [.nils, .nils, .nils, (.int .i64 0)] [(0, 1, (.tmp 31))], none, [4], [31]⟩,
 ⟨some 33, .call true i_X54 [(.tmp 29), (.tmp 32)], none, [2, 5, 4], [29, 32]⟩,
 ⟨some 34, .un .not (.tmp 33), none, [6], [33]⟩,
 ⟨some 35, .mv (.tmp 34), none, [7, 6], [34]⟩,
 ⟨some 36, .mv (.tmp 1), (some ((some 35), false)), [8], [1]⟩,
 ⟨some 37, .load true 4 (.tmp 3), (some ((some 35), false)), [8], [3]⟩,
 ⟨some 38, .call true i_X45 [(.tmp 36), (.tmp 37)], (some ((some 35), false)), [9, 10, 8, 8], [36, 37]⟩,
 ⟨some 39, .flist 1 4 [(.int .i64 0)] [(0, (.cst (.int .i64 2))), (1, (.cst (.int .i64 1))), (2, (.cst (.int .i64 1))), (3, (.cst (.int .i64 2)))], (some ((some 35), false)), [8], []⟩,
 ⟨some 40, .call true i_X51 [(.tmp 39)], (some ((some 35), false)), [12, 11, 8], [39]⟩,
 ⟨some 41, .build [.nils, .nils, .nils, (.int .i64 0)] [(0, 1, (.tmp 40))], (some ((some 35), false)), [13, 8], [40]⟩,
 ⟨some 42, .call true i_X54 [(.tmp 38), (.tmp 41)], (some ((some 35), false)), [11, 14, 13, 8], [38, 41]⟩,
 ⟨some 43, .un .not (.tmp 42), (some ((some 35), false)), [15, 8], [42]⟩,
 ⟨some 44, .pick (.tmp 35) (.cst (.bool true)) (.tmp 43), none, [8, 16], [35, 43]⟩,
 ⟨some 45, .mv (.tmp 44), none, [17, 15], [44]⟩,
 ⟨some 46, .mv (.tmp 1), (some ((some 45), false)), [18], [1]⟩,
 ⟨some 47, .load true 4 (.tmp 4), (some ((some 45), false)), [18], [4]⟩,
 ⟨some 48, .call true i_X45 [(.tmp 46), (.tmp 47)], (some ((some 45), false)), [19, 20, 18, 18], [46, 47]⟩,
 ⟨some 49, .flist 1 4 [(.int .i64 0)] [(0, (.cst (.int .i64 9))), (1, (.cst (.int .i64 7))), (2, (.cst (.int .i64 4))), (3, (.cst (.int .i64 14)))], (some ((some 45), false)), [18], []⟩,
 ⟨some 50, .call true i_X51 [(.tmp 49)], (some ((some 45), false)), [22, 21, 18], [49]⟩,
 ⟨some 51, .build [.nils, .nils, .nils, (.int .i64 0)] [(0, 1, (.tmp 50))], (some ((some 45), false)), [23, 18], [50]⟩,
 ⟨some 52, .call true i_X54 [(.tmp 48), (.tmp 51)], (some ((some 45), false)), [21, 24, 23, 18], [48, 51]⟩,
 ⟨some 53, .un .not (.tmp 52), (some ((some 45), false)), [25, 18], [52]⟩,
 ⟨some 54, .pick (.tmp 45) (.cst (.bool true)) (.tmp 53), none, [18, 26], [45, 53]⟩,
 ⟨some 55, .mv (.tmp 54), none, [27, 25], [54]⟩,
 ⟨some 56, .mv (.tmp 1), (some ((some 55), false)), [28], [1]⟩,
 ⟨some 57, .load true 4 (.tmp 5), (some ((some 55), false)), [28], [5]⟩,
 ⟨some 58, .call true i_X45 [(.tmp 56), (.tmp 57)], (some ((some 55), false)), [29, 30, 28, 28], [56, 57]⟩,
 ⟨some 59, .load true 3 (.tmp 6), (some ((some 55), false)), [28], [6]⟩,
 ⟨some 60, .build [(.int .i64 0), (.int .i64 0), (.str ⟨#[]⟩)] [], (some ((some 55), false)), [28], []⟩,
 ⟨some 61, .build [(.int .i64 0), (.int .i64 0), (.str ⟨#[]⟩)] [], (some ((some 55), false)), [28], []⟩,
 ⟨some 62, .call true i_X53 [(.cst (.int .i64 5))], (some ((some 55), false)), [31, 28], []⟩,
 ⟨some 63, .flist 3 4 [(.int .i64 0), (.int .i64 0), (.str ⟨#[]⟩)] [(0, (.tmp 59)), (1, (.tmp 60)), (2, (.tmp 61)), (3, (.tmp 62))], (some ((some 55), false)), [32, 33, 34, 35, 28], [59, 60, 61, 62]⟩,
 ⟨some 64, .build [.nils, .nils, .nils, (.int .i64 0)] [(0, 1, (.tmp 63))], (some ((some 55), false)), [36, 28], [63]⟩,
 ⟨some 65, .call true i_X54 [(.tmp 58), (.tmp 64)], (some ((some 55), false)), [31, 37, 35, 28], [58, 64]⟩,
 ⟨some 66, .un .not (.tmp 65), (some ((some 55), false)), [38, 28], [65]⟩,
 ⟨some 67, .pick (.tmp 55) (.cst (.bool true)) (.tmp 66), none, [28, 39], [55, 66]⟩])
 (.ghost (.kill [4, 5, 6, 27, 28, 29, 30, 31, 32, 33, 34, 35, 36, 37, 38, 39, 40, 41, 42, 43, 44, 45, 46, 47, 48, 49, 50, 51, 52, 53, 54, 55, 56, 57, 58, 59, 60, 61, 62, 63, 64, 65, 66])))
 (.cond (.tmp 67) (.seq (.region false [
   ⟨some 0, .mv (.cst (.bool false)), none, [], []⟩])
  .ret)
 .skip))
 (.seq (.seq (.regionG [
  .op ⟨some 68, .mv (.tmp 1), none, [], []⟩,
  .op ⟨some 69, .load true 4 (.tmp 2), none, [], []⟩,
  .op ⟨some 70, .load true 4 (.tmp 3), none, [], []⟩,
  .op ⟨some 71, .bslice 4 2 [(.int .i64 0), (.int .i64 0), .nils, .nils] [(0, (.tmp 69)), (1, (.tmp 70))], none, [], []⟩,
  .gh (.dfreeze 71),
  .op ⟨some 72, .call true i_X42 [(.tmp 68), (.tmp 71)], none, [], []⟩,
  .op ⟨some 7, .alloc [.nils, .nils, .nils, (.int .i64 0)], none, [], []⟩,
  .op ⟨none, .store 4 (.tmp 7) (.tmp 72), none, [], []⟩])
 X43.c1)
 X43.c0))
def X43.main : ACode := (.seq (.seq (.region false [
 ⟨some 0, .mv (.cst (.bool false)), none, [], []⟩])
 (.ghost (.kill [0])))
 (.seq (.seq (.seq (.regionG [
  .op ⟨some 8, .bslice 1 2 [(.int .i64 0)] [(0, (.cst (.int .i64 1))), (1, (.cst (.int .i64 5)))], none, [], []⟩,
  .gh (.dfreeze 8),
  .op ⟨some 9, .call true i_X51 [(.tmp 8)], none, [], []⟩,
  .op ⟨some 10, .bslice 1 2 [(.int .i64 0)] [(0, (.cst (.int .i64 2))), (1, (.cst (.int .i64 7)))], none, [], []⟩,
  .gh (.dfreeze 10),
  .op ⟨some 11, .call true i_X51 [(.tmp 10)], none, [], []⟩,
  .op ⟨some 12, .bslice 1 2 [(.int .i64 0)] [(0, (.cst (.int .i64 1))), (1, (.cst (.int .i64 4)))], none, [], []⟩,
  .gh (.dfreeze 12),
  .op ⟨some 13, .call true i_X51 [(.tmp 12)], none, [], []⟩,
  .op ⟨some 14, .bslice 1 2 [(.int .i64 0)] [(0, (.cst (.int .i64 1))), (1, (.cst (.int .i64 5)))], none, [], []⟩,
  .gh (.dfreeze 14),
  .op ⟨some 15, .call true i_X51 [(.tmp 14)], none, [], []⟩,
  .op ⟨some 16, .bslice 1 4 [.nils] [(0, (.tmp 9)), (1, (.tmp 11)), (2, (.tmp 13)), (3, (.tmp 15))], none, [], []⟩,
  .op ⟨some 1, .mv (.tmp 16), none, [], []⟩])
 (.ghost (.dfreeze 1)))
 (.ghost (.kill [8, 9, 10, 11, 12, 13, 14, 15, 16])))
 (.seq (.seq (.regionG [
  .op ⟨some 17, .bslice 1 1 [(.int .i64 0)] [(0, (.cst (.int .i64 0)))], none, [], []⟩,
  .gh (.dfreeze 17),
  .op ⟨some 18, .bslice 1 1 [(.int .i64 0)] [(0, (.cst (.int .i64 1)))], none, [], []⟩,
  .gh (.dfreeze 18),
  .op ⟨some 19, .build [(.int .i64 0), (.int .i64 0), .nils, .nils] [(0, 1, (.cst (.int .i64 1))), (1, 1, (.cst (.int .i64 1))), (2, 1, (.tmp 17)), (3, 1, (.tmp 18))], none, [], []⟩,
  .op ⟨some 2, .alloc [(.int .i64 0), (.int .i64 0), .nils, .nils], none, [], []⟩,
  .op ⟨none, .store 4 (.tmp 2) (.tmp 19), none, [], []⟩])
 (.ghost (.kill [17, 18, 19])))
 (.seq (.seq (.regionD ⟨[3, 4, 5], [], [([3], [2]), ([4], [2])]⟩ [
 ⟨some 20, .load true 4 (.tmp 2), none, [], [2]⟩,
 ⟨some 21, .load true 4 (.tmp 2), none, [], [2]⟩,
 ⟨some 22, .load true 4 (.tmp 2), none, [], [2]⟩,
 ⟨some 3, .alloc [(.int .i64 0), (.int .i64 0), .nils, .nils], none, [], []⟩,
 ⟨some 4, .alloc [(.int .i64 0), (.int .i64 0), .nils, .nils], none, [], []⟩,
 ⟨some 5, .alloc [(.int .i64 0), (.int .i64 0), .nils, .nils], none, [], []⟩,
 ⟨none, .store 4 (.tmp 3) (.tmp 20), none, [3, 0, 0, 3, 4, 5], [3, 20]⟩,
 ⟨none, .store 4 (.tmp 4) (.tmp 21), none, [4, 1, 6, 0, 1, 3, 4, 5, 6], [4, 21]⟩,
 ⟨none, .store 4 (.tmp 5) (.tmp 22), none, [5, 2, 7, 0, 1, 2, 3, 4, 5, 6, 7], [5, 22]⟩])
 (.ghost (.kill [20, 21, 22])))
 (.seq (.seq (.region false [
 ⟨some 23, .faddr 0 (.tmp 3), none, [], []⟩,
 ⟨none, .store 1 (.tmp 23) (.cst (.int .i64 2)), none, [], []⟩])
 (.ghost (.kill [23])))
 (.seq (.seq (.region false [
 ⟨some 24, .faddr 0 (.tmp 4), none, [], []⟩,
 ⟨none, .store 1 (.tmp 24) (.cst (.int .i64 3)), none, [], []⟩])
 (.ghost (.kill [24])))
 (.seq (.seq (.region false [
 ⟨some 25, .faddr 0 (.tmp 5), none, [], []⟩,
 ⟨none, .store 1 (.tmp 25) (.cst (.int .i64 4)), none, [], []⟩])
 (.ghost (.kill [25])))
 (.seq (.seq (.region false [
 ⟨some 26, .call true i_X53 [(.cst (.int .i64 4))], none, [], []⟩,
 ⟨some 6, .alloc [(.int .i64 0), (.int .i64 0), (.str ⟨#[]⟩)], none, [], []⟩,
 ⟨none, .store 3 (.tmp 6) (.tmp 26), none, [], []⟩])
 (.ghost (.kill [26])))
 X43.c2))))))))
def X43 : AFunc := ⟨115, [.tmp 0], X43.main, false⟩
def X60.c0 : ACode := (.seq (.region false [
 ⟨some 55, .mv (.tmp 3), none, [], []⟩,
 ⟨some 2, .mv (.tmp 55), none, [], []⟩])
 .ret)
def X60.c1 : ACode := (.seq (.region false [
 ⟨some 16, .mv (.tmp 4), none, [], []⟩,
 ⟨some 17, .bin .add (.tmp 16) (.cst (.int .i64 1)), none, [], []⟩,
 ⟨some 4, .mv (.tmp 17), none, [], []⟩])
 (.ghost (.kill [16, 17])))
def X60.c2 : ACode := (.seq (.region true [
 ⟨some 33, .mv (.tmp 3), none, [], [3]⟩,
 ⟨some 34, .iaddrA 4 1 (.tmp 5) (.cst (.int .i64 0)), none, [], [5]⟩,
 ⟨some 35, .load false 1 (.tmp 34), none, [1], [34]⟩,
 ⟨some 36, .bin .rem (.tmp 35) (.cst (.int .u8 3)), none, [2], [35]⟩,
 ⟨some 37, .conv .i64 (.tmp 36), none, [3], [36]⟩,
 ⟨some 38, .call true i_X53 [(.tmp 37)], none, [4], [37]⟩,
 ⟨some 39, .load true 3 (.tmp 6), none, [], [6]⟩,
 ⟨some 40, .bslice 1 3 [(.str ⟨#[]⟩)] [(0, (.cst (.str ⟨#[97]⟩))), (1, (.cst (.str ⟨#[98]⟩))), (2, (.cst (.str ⟨#[]⟩)))], none, [], []⟩,
 ⟨some 41, .iaddrA 4 1 (.tmp 5) (.cst (.int .i64 2)), none, [], [5]⟩,
 ⟨some 42, .load false 1 (.tmp 41), none, [8], [41]⟩,
 ⟨some 43, .bin .rem (.tmp 42) (.cst (.int .u8 3)), none, [9], [42]⟩,
 ⟨some 44, .iaddr 1 (.tmp 40) (.tmp 43), none, [7, 10], [40, 43]⟩,
 ⟨some 45, .load false 1 (.tmp 44), none, [11], [44]⟩,
 ⟨some 46, .call true i_X64 [(.tmp 45)], none, [12, 5], [45]⟩,
 ⟨some 47, .iaddrA 4 1 (.tmp 5) (.cst (.int .i64 3)), none, [], [5]⟩,
 ⟨some 48, .load false 1 (.tmp 47), none, [14], [47]⟩,
 ⟨some 49, .bin .rem (.tmp 48) (.cst (.int .u8 2)), none, [15], [48]⟩,
 ⟨some 50, .bin .eql (.tmp 49) (.cst (.int .u8 1)), none, [16], [49]⟩,
 ⟨some 51, .call true i_X58 [(.tmp 50)], none, [17, 13], [50]⟩,
 ⟨some 52, .flist 3 4 [(.int .i64 0), (.int .i64 0), (.str ⟨#[]⟩)] [(0, (.tmp 38)), (1, (.tmp 39)), (2, (.tmp 46)), (3, (.tmp 51))], none, [5, 6, 13, 18], [38, 39, 46, 51]⟩,
 ⟨some 53, .bslice 1 1 [.nils] [(0, (.tmp 52))], none, [19], [52]⟩,
 ⟨some 54, .append 1 24 (.tmp 33) (.tmp 53), none, [0, 20, 18], [33, 53]⟩,
 ⟨some 3, .mv (.tmp 54), none, [21, 21, 0, 1, 2, 3, 4, 5, 6, 7, 8, 9, 10, 11, 12, 13, 14, 15, 16, 17, 18, 19, 20, 21], [54]⟩])
 (.ghost (.kill [5, 6, 33, 34, 35, 36, 37, 38, 39, 40, 41, 42, 43, 44, 45, 46, 47, 48, 49, 50, 51, 52, 53, 54])))
def X60.b0 : ACode := (.seq (.seq (.seq (.region false [
 ⟨some 8, .mv (.tmp 4), none, [], []⟩,
 ⟨some 9, .mv (.tmp 0), none, [], []⟩,
 ⟨some 10, .len .sl (.tmp 9), none, [], []⟩,
 ⟨some 11, .bin .lss (.tmp 8) (.tmp 10), none, [], []⟩,
 ⟨some 12, .mv (.tmp 11), none, [], []⟩,
 ⟨some 13, .mv (.tmp 4), (some ((some 12), true)), [], []⟩,
 ⟨some 14, .bin .lss (.tmp 13) (.cst (.int .i64 16)), (some ((some 12), true)), [], []⟩,
 ⟨some 15, .pick (.tmp 12) (.tmp 14) (.cst (.bool false)), none, [], []⟩])
 (.ghost (.kill [8, 9, 10, 11, 12, 13, 14])))
 (.cond (.tmp 15) .skip
 (.exit 0)))
 (.seq (.trunc (.block 1 (.seq (.seq (.region false [
 ⟨some 18, .mv (.tmp 0), none, [], []⟩,
 ⟨some 19, .mv (.tmp 4), none, [], []⟩,
 ⟨some 20, .iaddr 4 (.tmp 18) (.tmp 19), none, [], []⟩,
 ⟨some 21, .load true 4 (.tmp 20), none, [], []⟩,
 ⟨some 5, .alloc [(.int .u8 0), (.int .u8 0), (.int .u8 0), (.int .u8 0)], none, [], []⟩,
 ⟨none, .store 4 (.tmp 5) (.tmp 21), none, [], []⟩])
 (.ghost (.kill [15, 18, 19, 20, 21])))
 (.seq (.seq (.region false [
 ⟨some 22, .iaddrA 4 1 (.tmp 5) (.cst (.int .i64 1)), none, [], []⟩,
 ⟨some 23, .load false 1 (.tmp 22), none, [], []⟩,
 ⟨some 24, .bin .rem (.tmp 23) (.cst (.int .u8 7)), none, [], []⟩,
 ⟨some 25, .conv .i64 (.tmp 24), none, [], []⟩,
 ⟨some 26, .bin .sub (.tmp 25) (.cst (.int .i64 2)), none, [], []⟩,
 ⟨some 27, .call true i_X53 [(.tmp 26)], none, [], []⟩,
 ⟨some 6, .alloc [(.int .i64 0), (.int .i64 0), (.str ⟨#[]⟩)], none, [], []⟩,
 ⟨none, .store 3 (.tmp 6) (.tmp 27), none, [], []⟩])
 (.ghost (.kill [22, 23, 24, 25, 26, 27])))
 (.seq (.seq (.seq (.region false [
 ⟨some 28, .iaddrA 4 1 (.tmp 5) (.cst (.int .i64 1)), none, [], []⟩,
 ⟨some 29, .load false 1 (.tmp 28), none, [], []⟩,
 ⟨some 30, .bin .rem (.tmp 29) (.cst (.int .u8 5)), none, [], []⟩,
 ⟨some 31, .bin .eql (.tmp 30) (.cst (.int .u8 0)), none, [], []⟩])
 (.ghost (.kill [28, 29, 30])))
 (.seq (.cond (.tmp 31) (.seq (.region false [
   ⟨some 32, .call true i_X62 [], none, [], []⟩,
   ⟨none, .store 3 (.tmp 6) (.tmp 32), none, [], []⟩])
  (.ghost (.kill [31, 32])))
 .skip)
 (.ghost (.kill [31]))))
 X60.c2)))))
 X60.c1))
def X60.main : ACode := (.seq (.seq (.region false [
 ⟨some 2, .mv (.cst .nils), none, [], []⟩])
 (.ghost (.kill [2])))
 (.seq (.seq (.region false [
 ⟨some 7, .bslice 1 0 [.nils] [], none, [], []⟩,
 ⟨some 3, .mv (.tmp 7), none, [], []⟩])
 (.ghost (.kill [7])))
 (.seq (.seq (.region false [
 ⟨some 4, .mv (.cst (.int .i64 0)), none, [], []⟩])
 (.seq (.block 0 (.loop X60.b0))
 (.ghost (.kill [0, 4, 15]))))
 X60.c0)))
def X60.k0 : List Item := [.inBlock 0, .code (.ghost (.kill [0, 4, 15])), .code X60.c0]
def X60 : AFunc := ⟨56, [.tmp 2], X60.main, false⟩
def X54.main : ACode := (.seq (.seq (.region false [
 ⟨some 2, .box 4 (.tmp 0), none, [], []⟩,
 ⟨some 3, .box 4 (.tmp 1), none, [], []⟩,
 ⟨some 4, .mv (.cst (.bool false)), none, [], []⟩])
 (.ghost (.kill [0, 1, 4])))
 (.seq (.region false [
 ⟨some 5, .faddr 3 (.tmp 2), none, [], []⟩,
 ⟨some 6, .load false 1 (.tmp 5), none, [], []⟩,
 ⟨some 7, .faddr 3 (.tmp 3), none, [], []⟩,
 ⟨some 8, .load false 1 (.tmp 7), none, [], []⟩,
 ⟨some 9, .bin .eql (.tmp 6) (.tmp 8), none, [], []⟩,
 ⟨some 10, .mv (.tmp 9), none, [], []⟩,
 ⟨some 11, .faddr 0 (.tmp 2), (some ((some 10), true)), [], []⟩,
 ⟨some 12, .load false 1 (.tmp 11), (some ((some 10), true)), [], []⟩,
 ⟨some 13, .faddr 0 (.tmp 3), (some ((some 10), true)), [], []⟩,
 ⟨some 14, .load false 1 (.tmp 13), (some ((some 10), true)), [], []⟩,
 ⟨some 15, .call true i_X59 [(.tmp 12), (.tmp 14)], (some ((some 10), true)), [], []⟩,
 ⟨some 16, .pick (.tmp 10) (.tmp 15) (.cst (.bool false)), none, [], []⟩,
 ⟨some 17, .mv (.tmp 16), none, [], []⟩,
 ⟨some 18, .faddr 1 (.tmp 2), (some ((some 17), true)), [], []⟩,
 ⟨some 19, .load false 1 (.tmp 18), (some ((some 17), true)), [], []⟩,
 ⟨some 20, .faddr 1 (.tmp 3), (some ((some 17), true)), [], []⟩,
 ⟨some 21, .load false 1 (.tmp 20), (some ((some 17), true)), [], []⟩,
 ⟨some 22, .call true i_X57 [(.tmp 19), (.tmp 21)], (some ((some 17), true)), [], []⟩,
 ⟨some 23, .pick (.tmp 17) (.tmp 22) (.cst (.bool false)), none, [], []⟩,
 ⟨some 24, .mv (.tmp 23), none, [], []⟩,
 ⟨some 25, .faddr 2 (.tmp 2), (some ((some 24), true)), [], []⟩,
 ⟨some 26, .load false 1 (.tmp 25), (some ((some 24), true)), [], []⟩,
 ⟨some 27, .faddr 2 (.tmp 3), (some ((some 24), true)), [], []⟩,
 ⟨some 28, .load false 1 (.tmp 27), (some ((some 24), true)), [], []⟩,
 ⟨some 29, .call true i_X46 [(.tmp 26), (.tmp 28)], (some ((some 24), true)), [], []⟩,
 ⟨some 30, .pick (.tmp 24) (.tmp 29) (.cst (.bool false)), none, [], []⟩,
 ⟨some 4, .mv (.tmp 30), none, [], []⟩])
 .ret))
def X54 : AFunc := ⟨31, [.tmp 4], X54.main, false⟩
def X45.main : ACode := (.seq (.seq (.region false [
 ⟨some 3, .box 4 (.tmp 1), none, [], []⟩,
 ⟨some 4, .alloc [.nils, .nils, .nils, (.int .i64 0)], none, [], []⟩])
 (.ghost (.kill [1])))
 (.seq (.seq (.region false [
 ⟨some 8, .mv (.tmp 0), none, [], []⟩,
 ⟨some 9, .load true 4 (.tmp 3), none, [], []⟩,
 ⟨some 10, .call true i_X34 [(.tmp 8), (.tmp 9)], none, [], []⟩,
 ⟨some 7, .mv (.tmp 10), none, [], []⟩,
 ⟨some 11, .extr (.tmp 7) 0, none, [], []⟩,
 ⟨some 12, .extr (.tmp 7) 1, none, [], []⟩,
 ⟨some 5, .mv (.tmp 11), none, [], []⟩,
 ⟨some 6, .mv (.tmp 12), none, [], []⟩])
 (.ghost (.kill [0, 3, 7, 8, 9, 10, 11, 12])))
 (.seq (.region false [
 ⟨some 13, .mv (.tmp 5), none, [], []⟩,
 ⟨some 14, .mv (.tmp 6), none, [], []⟩,
 ⟨some 15, .build [.nils, .nils, .nils, (.int .i64 0)] [(0, 1, (.tmp 13)), (3, 1, (.tmp 14))], none, [], []⟩,
 ⟨none, .store 4 (.tmp 4) (.tmp 15), none, [], []⟩])
 .ret)))
def X45 : AFunc := ⟨16, [.cell 4 true 4], X45.main, false⟩
def X56.main : ACode := (.seq (.region false [
 ⟨some 4, .alloc [.nils, .nils, .nils, (.int .i64 0)], none, [], []⟩])
 (.seq (.seq (.region false [
 ⟨some 8, .mv (.tmp 0), none, [], []⟩,
 ⟨some 9, .mv (.tmp 1), none, [], []⟩,
 ⟨some 10, .call true i_X44 [(.tmp 8), (.tmp 9)], none, [], []⟩,
 ⟨some 7, .mv (.tmp 10), none, [], []⟩,
 ⟨some 11, .extr (.tmp 7) 0, none, [], []⟩,
 ⟨some 12, .extr (.tmp 7) 1, none, [], []⟩,
 ⟨some 5, .mv (.tmp 11), none, [], []⟩,
 ⟨some 6, .mv (.tmp 12), none, [], []⟩])
 (.ghost (.kill [0, 1, 7, 8, 9, 10, 11, 12])))
 (.seq (.region false [
 ⟨some 13, .mv (.tmp 5), none, [], []⟩,
 ⟨some 14, .mv (.tmp 6), none, [], []⟩,
 ⟨some 15, .build [.nils, .nils, .nils, (.int .i64 0)] [(1, 1, (.tmp 13)), (3, 1, (.tmp 14))], none, [], []⟩,
 ⟨none, .store 4 (.tmp 4) (.tmp 15), none, [], []⟩])
 .ret)))
def X56 : AFunc := ⟨16, [.cell 4 true 4], X56.main, false⟩
def X42.main : ACode := (.seq (.region false [
 ⟨some 4, .alloc [.nils, .nils, .nils, (.int .i64 0)], none, [], []⟩])
 (.seq (.seq (.region false [
 ⟨some 8, .mv (.tmp 0), none, [], []⟩,
 ⟨some 9, .mv (.tmp 1), none, [], []⟩,
 ⟨some 10, .call true i_X35 [(.tmp 8), (.tmp 9)], none, [], []⟩,
 ⟨some 7, .mv (.tmp 10), none, [], []⟩,
 ⟨some 11, .extr (.tmp 7) 0, none, [], []⟩,
 ⟨some 12, .extr (.tmp 7) 1, none, [], []⟩,
 ⟨some 5, .mv (.tmp 11), none, [], []⟩,
 ⟨some 6, .mv (.tmp 12), none, [], []⟩])
 (.ghost (.kill [0, 1, 7, 8, 9, 10, 11, 12])))
 (.seq (.region false [
 ⟨some 13, .mv (.tmp 5), none, [], []⟩,
 ⟨some 14, .mv (.tmp 6), none, [], []⟩,
 ⟨some 15, .build [.nils, .nils, .nils, (.int .i64 0)] [(2, 1, (.tmp 13)), (3, 1, (.tmp 14))], none, [], []⟩,
 ⟨none, .store 4 (.tmp 4) (.tmp 15), none, [], []⟩])
 .ret)))
def X42 : AFunc := ⟨16, [.cell 4 true 4], X42.main, false⟩
def X67.c0 : ACode := (.seq (.region false [
 ⟨some 66, .load true 4 (.tmp 5), none, [], []⟩,
 ⟨none, .store 4 (.tmp 4) (.tmp 66), none, [], []⟩])
 .ret)
def X67.b1 : ACode := (.seq (.seq (.seq (.region false [
 ⟨some 43, .mv (.tmp 7), none, [], []⟩,
 ⟨some 44, .iaddrA 4 1 (.tmp 3) (.cst (.int .i64 1)), none, [], []⟩,
 ⟨some 45, .load false 1 (.tmp 44), none, [], []⟩,
 ⟨some 46, .bin .quo (.tmp 45) (.cst (.int .u8 3)), none, [], []⟩,
 ⟨some 47, .bin .rem (.tmp 46) (.cst (.int .u8 3)), none, [], []⟩,
 ⟨some 48, .conv .i64 (.tmp 47), none, [], []⟩,
 ⟨some 49, .bin .lss (.tmp 43) (.tmp 48), none, [], []⟩])
 (.ghost (.kill [43, 44, 45, 46, 47, 48])))
 (.cond (.tmp 49) .skip
 (.exit 2)))
 (.seq (.trunc (.block 3 (.seq (.seq (.region false [
 ⟨some 52, .faddr 3 (.tmp 5), none, [], []⟩,
 ⟨some 53, .load false 1 (.tmp 52), none, [], []⟩,
 ⟨some 54, .iaddrA 4 1 (.tmp 3) (.cst (.int .i64 3)), none, [], []⟩,
 ⟨some 55, .load false 1 (.tmp 54), none, [], []⟩,
 ⟨some 56, .bin .quo (.tmp 55) (.cst (.int .u8 4)), none, [], []⟩,
 ⟨some 57, .conv .i64 (.tmp 56), none, [], []⟩,
 ⟨some 58, .bin .rem (.tmp 57) (.cst (.int .i64 4)), none, [], []⟩,
 ⟨some 59, .bslice 1 1 [(.int .i64 0)] [(0, (.tmp 58))], none, [], []⟩,
 ⟨some 60, .append 1 8 (.tmp 53) (.tmp 59), none, [], []⟩,
 ⟨some 61, .faddr 3 (.tmp 5), none, [], []⟩,
 ⟨none, .store 1 (.tmp 61) (.tmp 60), none, [], []⟩])
 (.ghost (.kill [49, 52, 53, 54, 55, 56, 57, 58, 59, 60, 61])))
 (.seq (.region false [
 ⟨some 62, .iaddrA 4 1 (.tmp 3) (.cst (.int .i64 3)), none, [], []⟩,
 ⟨some 63, .load false 1 (.tmp 62), none, [], []⟩,
 ⟨some 64, .bin .quo (.tmp 63) (.cst (.int .u8 2)), none, [], []⟩,
 ⟨some 65, .iaddrA 4 1 (.tmp 3) (.cst (.int .i64 3)), none, [], []⟩,
 ⟨none, .store 1 (.tmp 65) (.tmp 64), none, [], []⟩])
 (.ghost (.kill [62, 63, 64, 65]))))))
 (.seq (.region false [
 ⟨some 50, .mv (.tmp 7), none, [], []⟩,
 ⟨some 51, .bin .add (.tmp 50) (.cst (.int .i64 1)), none, [], []⟩,
 ⟨some 7, .mv (.tmp 51), none, [], []⟩])
 (.ghost (.kill [50, 51])))))
def X67.c1 : ACode := (.seq (.seq (.region false [
 ⟨some 7, .mv (.cst (.int .i64 0)), none, [], []⟩])
 (.seq (.block 2 (.loop X67.b1))
 (.ghost (.kill [3, 7, 49]))))
 X67.c0)
def X67.b0 : ACode := (.seq (.seq (.seq (.region false [
 ⟨some 21, .mv (.tmp 6), none, [], []⟩,
 ⟨some 22, .iaddrA 4 1 (.tmp 3) (.cst (.int .i64 1)), none, [], []⟩,
 ⟨some 23, .load false 1 (.tmp 22), none, [], []⟩,
 ⟨some 24, .bin .rem (.tmp 23) (.cst (.int .u8 3)), none, [], []⟩,
 ⟨some 25, .conv .i64 (.tmp 24), none, [], []⟩,
 ⟨some 26, .bin .lss (.tmp 21) (.tmp 25), none, [], []⟩])
 (.ghost (.kill [21, 22, 23, 24, 25])))
 (.cond (.tmp 26) .skip
 (.exit 0)))
 (.seq (.trunc (.block 1 (.seq (.seq (.region false [
 ⟨some 29, .faddr 2 (.tmp 5), none, [], []⟩,
 ⟨some 30, .load false 1 (.tmp 29), none, [], []⟩,
 ⟨some 31, .iaddrA 4 1 (.tmp 3) (.cst (.int .i64 2)), none, [], []⟩,
 ⟨some 32, .load false 1 (.tmp 31), none, [], []⟩,
 ⟨some 33, .bin .quo (.tmp 32) (.cst (.int .u8 4)), none, [], []⟩,
 ⟨some 34, .conv .i64 (.tmp 33), none, [], []⟩,
 ⟨some 35, .bin .rem (.tmp 34) (.cst (.int .i64 4)), none, [], []⟩,
 ⟨some 36, .bslice 1 1 [(.int .i64 0)] [(0, (.tmp 35))], none, [], []⟩,
 ⟨some 37, .append 1 8 (.tmp 30) (.tmp 36), none, [], []⟩,
 ⟨some 38, .faddr 2 (.tmp 5), none, [], []⟩,
 ⟨none, .store 1 (.tmp 38) (.tmp 37), none, [], []⟩])
 (.ghost (.kill [26, 29, 30, 31, 32, 33, 34, 35, 36, 37, 38])))
 (.seq (.region false [
 ⟨some 39, .iaddrA 4 1 (.tmp 3) (.cst (.int .i64 2)), none, [], []⟩,
 ⟨some 40, .load false 1 (.tmp 39), none, [], []⟩,
 ⟨some 41, .bin .quo (.tmp 40) (.cst (.int .u8 2)), none, [], []⟩,
 ⟨some 42, .iaddrA 4 1 (.tmp 3) (.cst (.int .i64 2)), none, [], []⟩,
 ⟨none, .store 1 (.tmp 42) (.tmp 41), none, [], []⟩])
 (.ghost (.kill [39, 40, 41, 42]))))))
 (.seq (.region false [
 ⟨some 27, .mv (.tmp 6), none, [], []⟩,
 ⟨some 28, .bin .add (.tmp 27) (.cst (.int .i64 1)), none, [], []⟩,
 ⟨some 6, .mv (.tmp 28), none, [], []⟩])
 (.ghost (.kill [27, 28])))))
def X67.c2 : ACode := (.seq (.seq (.region false [
 ⟨some 6, .mv (.cst (.int .i64 0)), none, [], []⟩])
 (.seq (.block 0 (.loop X67.b0))
 (.ghost (.kill [6, 26]))))
 X67.c1)
def X67.main : ACode := (.seq (.seq (.region false [
 ⟨some 3, .box 4 (.tmp 1), none, [], []⟩,
 ⟨some 4, .alloc [(.int .i64 0), (.int .i64 0), .nils, .nils], none, [], []⟩])
 (.ghost (.kill [1])))
 (.seq (.seq (.regionG [
  .op ⟨some 8, .mv (.tmp 0), none, [], []⟩,
  .op ⟨some 9, .iaddrA 4 1 (.tmp 3) (.cst (.int .i64 0)), none, [], []⟩,
  .op ⟨some 10, .load false 1 (.tmp 9), none, [], []⟩,
  .op ⟨some 11, .bin .rem (.tmp 10) (.cst (.int .u8 4)), none, [], []⟩,
  .op ⟨some 12, .conv .i64 (.tmp 11), none, [], []⟩,
  .op ⟨some 13, .build [(.int .i64 0), (.int .i64 0), .nils, .nils] [(0, 1, (.tmp 8)), (1, 1, (.tmp 12))], none, [], []⟩,
  .gh (.nilagg 13 2 1),
  .gh (.nilagg 13 3 1),
  .op ⟨some 5, .alloc [(.int .i64 0), (.int .i64 0), .nils, .nils], none, [], []⟩,
  .op ⟨none, .store 4 (.tmp 5) (.tmp 13), none, [], []⟩])
 (.ghost (.kill [8, 9, 10, 11, 12, 13])))
 (.seq (.seq (.seq (.region false [
 ⟨some 14, .mv (.tmp 0), none, [], []⟩,
 ⟨some 15, .bin .eql (.tmp 14) (.cst (.int .i64 3)), none, [], []⟩])
 (.ghost (.kill [0, 14])))
 (.seq (.cond (.tmp 15) (.seq (.region false [
   ⟨some 16, .iaddrA 4 1 (.tmp 3) (.cst (.int .i64 0)), none, [], []⟩,
   ⟨some 17, .load false 1 (.tmp 16), none, [], []⟩,
   ⟨some 18, .bin .rem (.tmp 17) (.cst (.int .u8 2)), none, [], []⟩,
   ⟨some 19, .conv .i64 (.tmp 18), none, [], []⟩,
   ⟨some 20, .faddr 1 (.tmp 5), none, [], []⟩,
   ⟨none, .store 1 (.tmp 20) (.tmp 19), none, [], []⟩])
  (.ghost (.kill [15, 16, 17, 18, 19, 20])))
 .skip)
 (.ghost (.kill [15]))))
 X67.c2)))
def X67.k1 : List Item := [.inBlock 2, .code (.ghost (.kill [3, 7, 49])), .code X67.c0]
def X67.k0 : List Item := [.inBlock 0, .code (.ghost (.kill [6, 26])), .code X67.c1]
def X67 : AFunc := ⟨67, [.cell 4 true 4], X67.main, false⟩
def X65.c0 : ACode := (.seq (.region false [
 ⟨some 6, .mv (.cst (.int .i64 0)), none, [], []⟩])
 .ret)
def X65.c1 : ACode := (.ghost (.kill [0, 1, 2, 7, 12]))
def X65.b0 : ACode := (.seq (.seq (.seq (.region false [
 ⟨some 9, .mv (.tmp 7), none, [], []⟩,
 ⟨some 10, .mv (.tmp 2), none, [], []⟩,
 ⟨some 11, .len .sl (.tmp 10), none, [], []⟩,
 ⟨some 12, .bin .lss (.tmp 9) (.tmp 11), none, [], []⟩])
 (.ghost (.kill [9, 10, 11])))
 (.cond (.tmp 12) .skip
 (.exit 0)))
 (.seq (.seq (.block 1 (.seq (.seq (.region true [
 ⟨some 15, .mv (.tmp 0), none, [], [0]⟩,
 ⟨some 16, .mv (.tmp 2), none, [], [2]⟩,
 ⟨some 17, .mv (.tmp 7), none, [], [7]⟩,
 ⟨some 18, .iaddr 1 (.tmp 16) (.tmp 17), none, [1, 2], [16, 17]⟩,
 ⟨some 19, .load false 1 (.tmp 18), none, [3], [18]⟩,
 ⟨some 20, .iaddr 3 (.tmp 15) (.tmp 19), none, [0, 4], [15, 19]⟩,
 ⟨some 21, .load true 3 (.tmp 20), none, [5], [20]⟩,
 ⟨some 22, .mv (.tmp 1), none, [], [1]⟩,
 ⟨some 23, .mv (.tmp 2), none, [], [2]⟩,
 ⟨some 24, .mv (.tmp 7), none, [], [7]⟩,
 ⟨some 25, .iaddr 1 (.tmp 23) (.tmp 24), none, [8, 9], [23, 24]⟩,
 ⟨some 26, .load false 1 (.tmp 25), none, [10], [25]⟩,
 ⟨some 27, .iaddr 3 (.tmp 22) (.tmp 26), none, [7, 11], [22, 26]⟩,
 ⟨some 28, .load true 3 (.tmp 27), none, [12], [27]⟩,
 ⟨some 29, .call true i_X68 [(.tmp 21), (.tmp 28)], none, [6, 13], [21, 28]⟩,
 ⟨some 8, .mv (.tmp 29), none, [14, 14, 0, 1, 2, 3, 4, 5, 6, 7, 8, 9, 10, 11, 12, 13, 14], [29]⟩])
 (.ghost (.kill [12, 15, 16, 17, 18, 19, 20, 21, 22, 23, 24, 25, 26, 27, 28, 29])))
 (.seq (.seq (.region false [
 ⟨some 30, .mv (.tmp 8), none, [], []⟩,
 ⟨some 31, .bin .neq (.tmp 30) (.cst (.int .i64 0)), none, [], []⟩])
 (.ghost (.kill [30])))
 (.cond (.tmp 31) (.seq (.region false [
   ⟨some 32, .mv (.tmp 8), none, [], []⟩,
   ⟨some 6, .mv (.tmp 32), none, [], []⟩])
  .ret)
 .skip))))
 (.ghost (.kill [8, 31])))
 (.seq (.region false [
 ⟨some 13, .mv (.tmp 7), none, [], []⟩,
 ⟨some 14, .bin .add (.tmp 13) (.cst (.int .i64 1)), none, [], []⟩,
 ⟨some 7, .mv (.tmp 14), none, [], []⟩])
 (.ghost (.kill [13, 14])))))
def X65.main : ACode := (.seq (.seq (.region false [
 ⟨some 6, .mv (.cst (.int .i64 0)), none, [], []⟩])
 (.ghost (.kill [6])))
 (.seq (.seq (.region false [
 ⟨some 7, .mv (.cst (.int .i64 0)), none, [], []⟩])
 (.seq (.block 0 (.loop X65.b0))
 X65.c1))
 X65.c0))
def X65.k0 : List Item := [.inBlock 0, .code X65.c1, .code X65.c0]
def X65 : AFunc := ⟨33, [.tmp 6], X65.main, false⟩
def X53.main : ACode := (.seq (.region false [
 ⟨some 2, .alloc [(.int .i64 0), (.int .i64 0), (.str ⟨#[]⟩)], none, [], []⟩])
 (.seq (.region false [
 ⟨some 3, .mv (.tmp 0), none, [], []⟩,
 ⟨some 4, .bin .mul (.tmp 3) (.cst (.int .i64 1000000)), none, [], []⟩,
 ⟨some 5, .call true i_X66 [(.tmp 4)], none, [], []⟩,
 ⟨none, .store 3 (.tmp 2) (.tmp 5), none, [], []⟩])
 .ret))
def X53 : AFunc := ⟨6, [.cell 2 true 3], X53.main, false⟩
def X68.main : ACode := (.seq (.seq (.region false [
 ⟨some 2, .box 3 (.tmp 0), none, [], []⟩,
 ⟨some 3, .box 3 (.tmp 1), none, [], []⟩,
 ⟨some 4, .mv (.cst (.int .i64 0)), none, [], []⟩])
 (.ghost (.kill [0, 1, 4])))
 (.seq (.seq (.seq (.region false [
 ⟨some 5, .faddr 0 (.tmp 2), none, [], []⟩,
 ⟨some 6, .load false 1 (.tmp 5), none, [], []⟩,
 ⟨some 7, .faddr 0 (.tmp 3), none, [], []⟩,
 ⟨some 8, .load false 1 (.tmp 7), none, [], []⟩,
 ⟨some 9, .bin .neq (.tmp 6) (.tmp 8), none, [], []⟩])
 (.ghost (.kill [5, 6, 7, 8])))
 (.cond (.tmp 9) (.seq (.region false [
   ⟨some 10, .faddr 0 (.tmp 2), none, [], []⟩,
   ⟨some 11, .load false 1 (.tmp 10), none, [], []⟩,
   ⟨some 12, .faddr 0 (.tmp 3), none, [], []⟩,
   ⟨some 13, .load false 1 (.tmp 12), none, [], []⟩,
   ⟨some 14, .call true i_X61 [(.tmp 11), (.tmp 13)], none, [], []⟩,
   ⟨some 4, .mv (.tmp 14), none, [], []⟩])
  .ret)
 .skip))
 (.seq (.seq (.seq (.region false [
 ⟨some 15, .faddr 1 (.tmp 2), none, [], []⟩,
 ⟨some 16, .load false 1 (.tmp 15), none, [], []⟩,
 ⟨some 17, .faddr 1 (.tmp 3), none, [], []⟩,
 ⟨some 18, .load false 1 (.tmp 17), none, [], []⟩,
 ⟨some 19, .bin .neq (.tmp 16) (.tmp 18), none, [], []⟩])
 (.ghost (.kill [9, 15, 16, 17, 18])))
 (.cond (.tmp 19) (.seq (.region false [
   ⟨some 20, .faddr 1 (.tmp 2), none, [], []⟩,
   ⟨some 21, .load false 1 (.tmp 20), none, [], []⟩,
   ⟨some 22, .faddr 1 (.tmp 3), none, [], []⟩,
   ⟨some 23, .load false 1 (.tmp 22), none, [], []⟩,
   ⟨some 24, .call true i_X61 [(.tmp 21), (.tmp 23)], none, [], []⟩,
   ⟨some 4, .mv (.tmp 24), none, [], []⟩])
  .ret)
 .skip))
 (.seq (.region false [
 ⟨some 25, .faddr 2 (.tmp 2), none, [], []⟩,
 ⟨some 26, .load false 1 (.tmp 25), none, [], []⟩,
 ⟨some 27, .faddr 2 (.tmp 3), none, [], []⟩,
 ⟨some 28, .load false 1 (.tmp 27), none, [], []⟩,
 ⟨some 29, .call true i_X48 [(.tmp 26), (.tmp 28)], none, [], []⟩,
 ⟨some 4, .mv (.tmp 29), none, [], []⟩])
 .ret))))
def X68 : AFunc := ⟨30, [.tmp 4], X68.main, false⟩
def X66.main : ACode := (.seq (.region false [
 ⟨some 2, .alloc [(.int .i64 0), (.int .i64 0), (.str ⟨#[]⟩)], none, [], []⟩])
 (.seq (.region false [
 ⟨some 3, .mv (.tmp 0), none, [], []⟩,
 ⟨some 4, .build [(.int .i64 0), (.int .i64 0), (.str ⟨#[]⟩)] [(0, 1, (.cst (.int .i64 2))), (1, 1, (.tmp 3))], none, [], []⟩,
 ⟨none, .store 3 (.tmp 2) (.tmp 4), none, [], []⟩])
 .ret))
def X66 : AFunc := ⟨5, [.cell 2 true 3], X66.main, false⟩
def X62.main : ACode := (.seq (.region false [
 ⟨some 0, .alloc [(.int .i64 0), (.int .i64 0), (.str ⟨#[]⟩)], none, [], []⟩])
 (.seq (.region false [
 ⟨some 1, .build [(.int .i64 0), (.int .i64 0), (.str ⟨#[]⟩)] [], none, [], []⟩,
 ⟨none, .store 3 (.tmp 0) (.tmp 1), none, [], []⟩])
 .ret))
def X62 : AFunc := ⟨2, [.cell 0 true 3], X62.main, false⟩
def X40.c0 : ACode := (.seq (.region false [
 ⟨some 39, .mv (.tmp 5), none, [], []⟩,
 ⟨some 4, .mv (.tmp 39), none, [], []⟩])
 .ret)
def X40.c1 : ACode := (.ghost (.kill [0, 1, 6, 11]))
def X40.c2 : ACode := (.seq (.region false [
 ⟨some 12, .mv (.tmp 6), none, [], []⟩,
 ⟨some 13, .bin .add (.tmp 12) (.cst (.int .i64 1)), none, [], []⟩,
 ⟨some 6, .mv (.tmp 13), none, [], []⟩])
 (.ghost (.kill [12, 13])))
def X40.c3 : ACode := (.seq (.regionD ⟨[27, 31, 34], [], [([27], [32, 33, 35, 36]), ([31], [35, 36])]⟩ [
 ⟨some 27, .bslice 1 0 [(.int .i64 0)] [], none, [], []⟩,
 ⟨some 28, .mv (.tmp 5), none, [], [5]⟩,
 ⟨some 29, .mv (.tmp 7), none, [], [7]⟩,
 ⟨some 30, .slice 1 (.tmp 28) none (some (.tmp 29)) none, none, [1, 2], [28, 29]⟩,
 ⟨some 31, .append 1 8 (.tmp 27) (.tmp 30), none, [0, 3], [27, 30]⟩,
 ⟨some 32, .mv (.tmp 6), none, [], [6]⟩,
 ⟨some 33, .bslice 1 1 [(.int .i64 0)] [(0, (.tmp 32))], none, [5], [32]⟩,
 ⟨some 34, .append 1 8 (.tmp 31) (.tmp 33), none, [4, 6, 4], [31, 33]⟩,
 ⟨some 35, .mv (.tmp 5), none, [], [5]⟩,
 ⟨some 36, .mv (.tmp 7), none, [], [7]⟩,
 ⟨some 37, .slice 1 (.tmp 35) (some (.tmp 36)) none none, none, [8, 9], [35, 36]⟩,
 ⟨some 38, .append 1 8 (.tmp 34) (.tmp 37), none, [7, 10, 7], [34, 37]⟩,
 ⟨some 5, .mv (.tmp 38), none, [11, 11, 0, 1, 2, 3, 4, 5, 6, 7, 8, 9, 10, 11], [38]⟩])
 (.ghost (.kill [7, 27, 28, 29, 30, 31, 32, 33, 34, 35, 36, 37, 38])))
def X40.b0 : ACode := (.seq (.seq (.seq (.region false [
 ⟨some 9, .mv (.tmp 6), none, [], []⟩,
 ⟨some 10, .mv (.tmp 0), none, [], []⟩,
 ⟨some 11, .bin .lss (.tmp 9) (.tmp 10), none, [], []⟩])
 (.ghost (.kill [9, 10])))
 (.cond (.tmp 11) .skip
 (.exit 0)))
 (.seq (.block 1 (.seq (.seq (.region false [
 ⟨some 14, .mv (.tmp 6), none, [], []⟩,
 ⟨some 7, .mv (.tmp 14), none, [], []⟩])
 (.ghost (.kill [11, 14])))
 (.seq (.seq (.seq (.region false [
 ⟨some 15, .mv (.tmp 6), none, [], []⟩,
 ⟨some 16, .mv (.tmp 1), none, [], []⟩,
 ⟨some 17, .len .sl (.tmp 16), none, [], []⟩,
 ⟨some 18, .bin .lss (.tmp 15) (.tmp 17), none, [], []⟩])
 (.ghost (.kill [15, 16, 17])))
 (.seq (.cond (.tmp 18) (.seq (.region false [
   ⟨some 19, .mv (.tmp 1), none, [], []⟩,
   ⟨some 20, .mv (.tmp 6), none, [], []⟩,
   ⟨some 21, .iaddr 1 (.tmp 19) (.tmp 20), none, [], []⟩,
   ⟨some 22, .load false 1 (.tmp 21), none, [], []⟩,
   ⟨some 23, .conv .i64 (.tmp 22), none, [], []⟩,
   ⟨some 24, .mv (.tmp 6), none, [], []⟩,
   ⟨some 25, .bin .add (.tmp 24) (.cst (.int .i64 1)), none, [], []⟩,
   ⟨some 26, .bin .rem (.tmp 23) (.tmp 25), none, [], []⟩,
   ⟨some 7, .mv (.tmp 26), none, [], []⟩])
  (.ghost (.kill [18, 19, 20, 21, 22, 23, 24, 25, 26])))
 .skip)
 (.ghost (.kill [18]))))
 X40.c3)))
 X40.c2))
def X40.main : ACode := (.seq (.seq (.region false [
 ⟨some 4, .mv (.cst .nils), none, [], []⟩])
 (.ghost (.kill [4])))
 (.seq (.seq (.region false [
 ⟨some 8, .bslice 1 0 [(.int .i64 0)] [], none, [], []⟩,
 ⟨some 5, .mv (.tmp 8), none, [], []⟩])
 (.ghost (.kill [8])))
 (.seq (.seq (.region false [
 ⟨some 6, .mv (.cst (.int .i64 0)), none, [], []⟩])
 (.seq (.block 0 (.loop X40.b0))
 X40.c1))
 X40.c0)))
def X40.k0 : List Item := [.inBlock 0, .code X40.c1, .code X40.c0]
def X40 : AFunc := ⟨40, [.tmp 4], X40.main, false⟩
def X59.main : ACode := (.seq (.seq (.region false [
 ⟨some 4, .mv (.cst (.bool false)), none, [], []⟩])
 (.ghost (.kill [4])))
 (.seq (.region false [
 ⟨some 5, .mv (.tmp 0), none, [], []⟩,
 ⟨some 6, .mv (.tmp 1), none, [], []⟩,
 ⟨some 7, .call true i_X47 [(.tmp 5), (.tmp 6)], none, [], []⟩,
 ⟨some 8, .bin .eql (.tmp 7) (.cst (.int .i64 0)), none, [], []⟩,
 ⟨some 4, .mv (.tmp 8), none, [], []⟩])
 .ret))
def X59 : AFunc := ⟨9, [.tmp 4], X59.main, false⟩
def X51.c0 : ACode := (.seq (.region false [
 ⟨some 20, .mv (.tmp 3), none, [], []⟩,
 ⟨some 2, .mv (.tmp 20), none, [], []⟩])
 .ret)
def X51.b0 : ACode := (.seq (.seq (.seq (.region false [
 ⟨some 6, .mv (.tmp 4), none, [], []⟩,
 ⟨some 7, .mv (.tmp 0), none, [], []⟩,
 ⟨some 8, .len .sl (.tmp 7), none, [], []⟩,
 ⟨some 9, .bin .lss (.tmp 6) (.tmp 8), none, [], []⟩])
 (.ghost (.kill [6, 7, 8])))
 (.cond (.tmp 9) .skip
 (.exit 0)))
 (.seq (.trunc (.block 1 (.seq (.region false [
 ⟨some 12, .mv (.tmp 3), none, [], []⟩,
 ⟨some 13, .mv (.tmp 0), none, [], []⟩,
 ⟨some 14, .mv (.tmp 4), none, [], []⟩,
 ⟨some 15, .iaddr 1 (.tmp 13) (.tmp 14), none, [], []⟩,
 ⟨some 16, .load false 1 (.tmp 15), none, [], []⟩,
 ⟨some 17, .call true i_X53 [(.tmp 16)], none, [], []⟩,
 ⟨some 18, .bslice 3 1 [(.int .i64 0), (.int .i64 0), (.str ⟨#[]⟩)] [(0, (.tmp 17))], none, [], []⟩,
 ⟨some 19, .append 3 32 (.tmp 12) (.tmp 18), none, [], []⟩,
 ⟨some 3, .mv (.tmp 19), none, [], []⟩])
 (.ghost (.kill [9, 12, 13, 14, 15, 16, 17, 18, 19])))))
 (.seq (.region false [
 ⟨some 10, .mv (.tmp 4), none, [], []⟩,
 ⟨some 11, .bin .add (.tmp 10) (.cst (.int .i64 1)), none, [], []⟩,
 ⟨some 4, .mv (.tmp 11), none, [], []⟩])
 (.ghost (.kill [10, 11])))))
def X51.main : ACode := (.seq (.seq (.region false [
 ⟨some 2, .mv (.cst .nils), none, [], []⟩])
 (.ghost (.kill [2])))
 (.seq (.seq (.region false [
 ⟨some 5, .bslice 3 0 [(.int .i64 0), (.int .i64 0), (.str ⟨#[]⟩)] [], none, [], []⟩,
 ⟨some 3, .mv (.tmp 5), none, [], []⟩])
 (.ghost (.kill [5])))
 (.seq (.seq (.region false [
 ⟨some 4, .mv (.cst (.int .i64 0)), none, [], []⟩])
 (.seq (.block 0 (.loop X51.b0))
 (.ghost (.kill [0, 4, 9]))))
 X51.c0)))
def X51.k0 : List Item := [.inBlock 0, .code (.ghost (.kill [0, 4, 9])), .code X51.c0]
def X51 : AFunc := ⟨21, [.tmp 2], X51.main, false⟩
def X64.main : ACode := (.seq (.region false [
 ⟨some 2, .alloc [(.int .i64 0), (.int .i64 0), (.str ⟨#[]⟩)], none, [], []⟩])
 (.seq (.region false [
 ⟨some 3, .mv (.tmp 0), none, [], []⟩,
 ⟨some 4, .build [(.int .i64 0), (.int .i64 0), (.str ⟨#[]⟩)] [(0, 1, (.cst (.int .i64 3))), (2, 1, (.tmp 3))], none, [], []⟩,
 ⟨none, .store 3 (.tmp 2) (.tmp 4), none, [], []⟩])
 .ret))
def X64 : AFunc := ⟨5, [.cell 2 true 3], X64.main, false⟩
def X58.main : ACode := (.seq (.region false [
 ⟨some 2, .alloc [(.int .i64 0), (.int .i64 0), (.str ⟨#[]⟩)], none, [], []⟩])
 (.seq (.seq (.seq (.region false [
 ⟨some 3, .mv (.tmp 0), none, [], []⟩])
 (.ghost (.kill [0])))
 (.cond (.tmp 3) (.seq (.region false [
   ⟨some 4, .build [(.int .i64 0), (.int .i64 0), (.str ⟨#[]⟩)] [(0, 1, (.cst (.int .i64 1))), (1, 1, (.cst (.int .i64 1)))], none, [], []⟩,
   ⟨none, .store 3 (.tmp 2) (.tmp 4), none, [], []⟩])
  .ret)
 .skip))
 (.seq (.region false [
 ⟨some 5, .build [(.int .i64 0), (.int .i64 0), (.str ⟨#[]⟩)] [(0, 1, (.cst (.int .i64 1)))], none, [], []⟩,
 ⟨none, .store 3 (.tmp 2) (.tmp 5), none, [], []⟩])
 .ret)))
def X58 : AFunc := ⟨6, [.cell 2 true 3], X58.main, false⟩
def X57.c0 : ACode := (.seq (.region false [
 ⟨some 4, .mv (.cst (.bool true)), none, [], []⟩])
 .ret)
def X57.c1 : ACode := (.ghost (.kill [0, 1, 5, 14]))
def X57.b0 : ACode := (.seq (.seq (.seq (.region false [
 ⟨some 11, .mv (.tmp 5), none, [], []⟩,
 ⟨some 12, .mv (.tmp 0), none, [], []⟩,
 ⟨some 13, .len .sl (.tmp 12), none, [], []⟩,
 ⟨some 14, .bin .lss (.tmp 11) (.tmp 13), none, [], []⟩])
 (.ghost (.kill [11, 12, 13])))
 (.cond (.tmp 14) .skip
 (.exit 0)))
 (.seq (.seq (.block 1 (.seq (.seq (.region true [
 ⟨some 17, .mv (.tmp 0), none, [], [0]⟩,
 ⟨some 18, .mv (.tmp 5), none, [], [5]⟩,
 ⟨some 19, .iaddr 1 (.tmp 17) (.tmp 18), none, [0, 1], [17, 18]⟩,
 ⟨some 20, .load false 1 (.tmp 19), none, [2], [19]⟩,
 ⟨some 21, .mv (.tmp 1), none, [], [1]⟩,
 ⟨some 22, .mv (.tmp 5), none, [], [5]⟩,
 ⟨some 23, .iaddr 1 (.tmp 21) (.tmp 22), none, [4, 5], [21, 22]⟩,
 ⟨some 24, .load false 1 (.tmp 23), none, [6], [23]⟩,
 ⟨some 25, .bin .neq (.tmp 20) (.tmp 24), none, [3, 7], [20, 24]⟩])
 (.ghost (.kill [14, 17, 18, 19, 20, 21, 22, 23, 24])))
 (.cond (.tmp 25) (.seq (.region false [
   ⟨some 4, .mv (.cst (.bool false)), none, [], []⟩])
  .ret)
 .skip)))
 (.ghost (.kill [25])))
 (.seq (.region false [
 ⟨some 15, .mv (.tmp 5), none, [], []⟩,
 ⟨some 16, .bin .add (.tmp 15) (.cst (.int .i64 1)), none, [], []⟩,
 ⟨some 5, .mv (.tmp 16), none, [], []⟩])
 (.ghost (.kill [15, 16])))))
def X57.main : ACode := (.seq (.seq (.region false [
 ⟨some 4, .mv (.cst (.bool false)), none, [], []⟩])
 (.ghost (.kill [4])))
 (.seq (.seq (.seq (.region false [
 ⟨some 6, .mv (.tmp 0), none, [], []⟩,
 ⟨some 7, .len .sl (.tmp 6), none, [], []⟩,
 ⟨some 8, .mv (.tmp 1), none, [], []⟩,
 ⟨some 9, .len .sl (.tmp 8), none, [], []⟩,
 ⟨some 10, .bin .neq (.tmp 7) (.tmp 9), none, [], []⟩])
 (.ghost (.kill [6, 7, 8, 9])))
 (.cond (.tmp 10) (.seq (.region false [
   ⟨some 4, .mv (.cst (.bool false)), none, [], []⟩])
  .ret)
 .skip))
 (.seq (.seq (.seq (.region false [
 ⟨some 5, .mv (.cst (.int .i64 0)), none, [], []⟩])
 (.ghost (.kill [10])))
 (.seq (.block 0 (.loop X57.b0))
 X57.c1))
 X57.c0)))
def X57.k0 : List Item := [.inBlock 0, .code X57.c1, .code X57.c0]
def X57 : AFunc := ⟨26, [.tmp 4], X57.main, false⟩
def X46.c0 : ACode := (.seq (.region false [
 ⟨some 4, .mv (.cst (.bool true)), none, [], []⟩])
 .ret)
def X46.c1 : ACode := (.ghost (.kill [0, 1, 5, 14]))
def X46.b0 : ACode := (.seq (.seq (.seq (.region false [
 ⟨some 11, .mv (.tmp 5), none, [], []⟩,
 ⟨some 12, .mv (.tmp 0), none, [], []⟩,
 ⟨some 13, .len .sl (.tmp 12), none, [], []⟩,
 ⟨some 14, .bin .lss (.tmp 11) (.tmp 13), none, [], []⟩])
 (.ghost (.kill [11, 12, 13])))
 (.cond (.tmp 14) .skip
 (.exit 0)))
 (.seq (.seq (.block 1 (.seq (.seq (.region true [
 ⟨some 17, .mv (.tmp 0), none, [], [0]⟩,
 ⟨some 18, .mv (.tmp 5), none, [], [5]⟩,
 ⟨some 19, .iaddr 1 (.tmp 17) (.tmp 18), none, [0, 1], [17, 18]⟩,
 ⟨some 20, .load false 1 (.tmp 19), none, [2], [19]⟩,
 ⟨some 21, .mv (.tmp 1), none, [], [1]⟩,
 ⟨some 22, .mv (.tmp 5), none, [], [5]⟩,
 ⟨some 23, .iaddr 1 (.tmp 21) (.tmp 22), none, [4, 5], [21, 22]⟩,
 ⟨some 24, .load false 1 (.tmp 23), none, [6], [23]⟩,
 ⟨some 25, .call true i_X59 [(.tmp 20), (.tmp 24)], none, [3, 7], [20, 24]⟩,
 ⟨some 26, .un .not (.tmp 25), none, [8], [25]⟩])
 (.ghost (.kill [14, 17, 18, 19, 20, 21, 22, 23, 24, 25])))
 (.cond (.tmp 26) (.seq (.region false [
   ⟨some 4, .mv (.cst (.bool false)), none, [], []⟩])
  .ret)
 .skip)))
 (.ghost (.kill [26])))
 (.seq (.region false [
 ⟨some 15, .mv (.tmp 5), none, [], []⟩,
 ⟨some 16, .bin .add (.tmp 15) (.cst (.int .i64 1)), none, [], []⟩,
 ⟨some 5, .mv (.tmp 16), none, [], []⟩])
 (.ghost (.kill [15, 16])))))
def X46.main : ACode := (.seq (.seq (.region false [
 ⟨some 4, .mv (.cst (.bool false)), none, [], []⟩])
 (.ghost (.kill [4])))
 (.seq (.seq (.seq (.region false [
 ⟨some 6, .mv (.tmp 0), none, [], []⟩,
 ⟨some 7, .len .sl (.tmp 6), none, [], []⟩,
 ⟨some 8, .mv (.tmp 1), none, [], []⟩,
 ⟨some 9, .len .sl (.tmp 8), none, [], []⟩,
 ⟨some 10, .bin .neq (.tmp 7) (.tmp 9), none, [], []⟩])
 (.ghost (.kill [6, 7, 8, 9])))
 (.cond (.tmp 10) (.seq (.region false [
   ⟨some 4, .mv (.cst (.bool false)), none, [], []⟩])
  .ret)
 .skip))
 (.seq (.seq (.seq (.region false [
 ⟨some 5, .mv (.cst (.int .i64 0)), none, [], []⟩])
 (.ghost (.kill [10])))
 (.seq (.block 0 (.loop X46.b0))
 X46.c1))
 X46.c0)))
def X46.k0 : List Item := [.inBlock 0, .code X46.c1, .code X46.c0]
def X46 : AFunc := ⟨27, [.tmp 4], X46.main, false⟩
def X34.c0 : ACode := (.seq (.region false [
 ⟨some 111, .mv (.tmp 9), none, [], []⟩,
 ⟨some 4, .mv (.tmp 111), none, [], []⟩,
 ⟨some 5, .mv (.cst (.int .i64 0)), none, [], []⟩])
 .ret)
def X34.c1 : ACode := (.ghost (.kill [0, 3, 7, 8, 72, 73, 74, 75]))
def X34.c2 : ACode := (.seq (.region false [
 ⟨some 110, .bin .add (.tmp 74) (.cst (.int .i64 1)), none, [], []⟩,
 ⟨some 74, .mv (.tmp 110), none, [], []⟩])
 (.ghost (.kill [110])))
def X34.c3 : ACode := (.trunc (.seq (.seq (.regionA 6 10 [
 ⟨some 95, .mv (.tmp 12), none, [], [12]⟩,
 ⟨some 96, .mv (.tmp 0), none, [], [0]⟩,
 ⟨some 97, .mv (.tmp 11), none, [], [11]⟩,
 ⟨some 98, .iaddr 1 (.tmp 96) (.tmp 97), none, [1, 2], [96, 97]⟩,
 ⟨some 99, .load false 1 (.tmp 98), none, [3], [98]⟩,
 ⟨some 100, .load true 4 (.tmp 3), none, [], [3]⟩,
 ⟨some 101, .call false i_X25 [(.tmp 95), (.tmp 99), (.tmp 100)], none, [0, 4, 5], [95, 99, 100]⟩,
 ⟨some 94, .mv (.tmp 101), none, [6], [101]⟩,
 ⟨some 102, .extr (.tmp 94) 0, none, [7], [94]⟩,
 ⟨some 103, .extr (.tmp 94) 1, none, [7], [94]⟩,
 ⟨some 13, .alloc [(.int .i64 0), (.int .i64 0), (.str ⟨#[]⟩)], none, [], []⟩,
 ⟨none, .store 3 (.tmp 13) (.tmp 102), none, [10, 8, 6, 0, 1, 2, 3, 4, 5, 6, 7, 8, 10], [13, 102]⟩,
 ⟨some 14, .mv (.tmp 103), none, [9, 11, 0, 1, 2, 3, 4, 5, 6, 7, 8, 9, 10, 11], [103]⟩])
 (.ghost (.kill [12, 94, 95, 96, 97, 98, 99, 100, 101, 102, 103])))
 (.seq (.seq (.seq (.region false [
 ⟨some 104, .mv (.tmp 14), none, [], []⟩,
 ⟨some 105, .un .not (.tmp 104), none, [], []⟩])
 (.ghost (.kill [14, 104])))
 (.cond (.tmp 105) (.seq (.region false [
   ⟨some 4, .mv (.cst .nils), none, [], []⟩,
   ⟨some 5, .mv (.cst (.int .i64 2)), none, [], []⟩])
  .ret)
 .skip))
 (.seq (.region false [
 ⟨some 106, .mv (.tmp 9), none, [], []⟩,
 ⟨some 107, .mv (.tmp 11), none, [], []⟩,
 ⟨some 108, .load true 3 (.tmp 13), none, [], []⟩,
 ⟨some 109, .iaddr 3 (.tmp 106) (.tmp 107), none, [], []⟩,
 ⟨none, .store 3 (.tmp 109) (.tmp 108), none, [], []⟩])
 (.ghost (.kill [11, 13, 105, 106, 107, 108, 109]))))))
def X34.b0 : ACode := (.seq (.region false [
 ⟨some 75, .bin .lss (.tmp 74) (.tmp 73), none, [], []⟩])
 (.seq (.cond (.tmp 75) .skip
 (.exit 0))
 (.seq (.block 1 (.seq (.seq (.region false [
 ⟨some 76, .iaddr 1 (.tmp 72) (.tmp 74), none, [], []⟩,
 ⟨some 77, .load false 1 (.tmp 76), none, [], []⟩,
 ⟨some 11, .mv (.tmp 77), none, [], []⟩])
 (.ghost (.kill [75, 76, 77])))
 (.seq (.seq (.region false [
 ⟨some 78, .mv (.tmp 7), none, [], []⟩,
 ⟨some 79, .mv (.tmp 8), none, [], []⟩,
 ⟨some 80, .mv (.tmp 11), none, [], []⟩,
 ⟨some 81, .iaddr 1 (.tmp 79) (.tmp 80), none, [], []⟩,
 ⟨some 82, .load false 1 (.tmp 81), none, [], []⟩,
 ⟨some 83, .lookup (.int .i64) .nilp false (.tmp 78) (.tmp 82), none, [], []⟩,
 ⟨some 12, .mv (.tmp 83), none, [], []⟩])
 (.ghost (.kill [78, 79, 80, 81, 82, 83])))
 (.seq (.seq (.seq (.region false [
 ⟨some 84, .mv (.tmp 12), none, [], []⟩,
 ⟨some 85, .eqnil false .pt (.tmp 84), none, [], []⟩])
 (.ghost (.kill [84])))
 (.seq (.cond (.tmp 85) (.seq (.seq (.region false [
   ⟨some 86, .build [(.int .i64 0), (.int .i64 0), .nils, (.int .i64 0), (.int .i64 0), (.str ⟨#[]⟩)] [], none, [], []⟩,
   ⟨some 87, .box 6 (.tmp 86), none, [], []⟩,
   ⟨some 12, .mv (.tmp 87), none, [], []⟩])
  (.ghost (.kill [85, 86, 87])))
  (.seq (.region false [
   ⟨some 88, .mv (.tmp 7), none, [], []⟩,
   ⟨some 89, .mv (.tmp 8), none, [], []⟩,
   ⟨some 90, .mv (.tmp 11), none, [], []⟩,
   ⟨some 91, .iaddr 1 (.tmp 89) (.tmp 90), none, [], []⟩,
   ⟨some 92, .load false 1 (.tmp 91), none, [], []⟩,
   ⟨some 93, .mv (.tmp 12), none, [], []⟩,
   ⟨none, .mapup (.int .i64) (.tmp 88) (.tmp 92) (.tmp 93), none, [], []⟩])
  (.ghost (.kill [88, 89, 90, 91, 92, 93]))))
 .skip)
 (.ghost (.kill [85]))))
 X34.c3))))
 X34.c2)))
def X34.main : ACode := (.seq (.seq (.region false [
 ⟨some 3, .box 4 (.tmp 1), none, [], []⟩,
 ⟨some 4, .mv (.cst .nils), none, [], []⟩,
 ⟨some 5, .mv (.cst (.int .i64 0)), none, [], []⟩])
 (.ghost (.kill [1, 4, 5])))
 (.seq (.seq (.seq (.region false [
 ⟨some 15, .faddr 0 (.tmp 3), none, [], []⟩,
 ⟨some 16, .load false 1 (.tmp 15), none, [], []⟩,
 ⟨some 17, .bin .lss (.tmp 16) (.cst (.int .i64 1)), none, [], []⟩,
 ⟨some 18, .mv (.tmp 17), none, [], []⟩,
 ⟨some 19, .faddr 0 (.tmp 3), (some ((some 18), false)), [], []⟩,
 ⟨some 20, .load false 1 (.tmp 19), (some ((some 18), false)), [], []⟩,
 ⟨some 21, .bin .gtr (.tmp 20) (.cst (.int .i64 4)), (some ((some 18), false)), [], []⟩,
 ⟨some 22, .pick (.tmp 18) (.cst (.bool true)) (.tmp 21), none, [], []⟩,
 ⟨some 23, .mv (.tmp 22), none, [], []⟩,
 ⟨some 24, .faddr 2 (.tmp 3), (some ((some 23), false)), [], []⟩,
 ⟨some 25, .load false 1 (.tmp 24), (some ((some 23), false)), [], []⟩,
 ⟨some 26, .len .sl (.tmp 25), (some ((some 23), false)), [], []⟩,
 ⟨some 27, .bin .gtr (.tmp 26) (.cst (.int .i64 8)), (some ((some 23), false)), [], []⟩,
 ⟨some 28, .pick (.tmp 23) (.cst (.bool true)) (.tmp 27), none, [], []⟩,
 ⟨some 29, .mv (.tmp 28), none, [], []⟩,
 ⟨some 30, .faddr 3 (.tmp 3), (some ((some 29), false)), [], []⟩,
 ⟨some 31, .load false 1 (.tmp 30), (some ((some 29), false)), [], []⟩,
 ⟨some 32, .len .sl (.tmp 31), (some ((some 29), false)), [], []⟩,
 ⟨some 33, .bin .gtr (.tmp 32) (.cst (.int .i64 8)), (some ((some 29), false)), [], []⟩,
 ⟨some 34, .pick (.tmp 29) (.cst (.bool true)) (.tmp 33), none, [], []⟩,
 ⟨some 35, .mv (.tmp 34), none, [], []⟩,
 ⟨some 36, .mv (.tmp 0), (some ((some 35), false)), [], []⟩,
 ⟨some 37, .faddr 1 (.tmp 3), (some ((some 35), false)), [], []⟩,
 ⟨some 38, .load false 1 (.tmp 37), (some ((some 35), false)), [], []⟩,
 ⟨some 39, .flist 1 1 [(.int .i64 0)] [(0, (.tmp 38))], (some ((some 35), false)), [], []⟩,
 ⟨some 40, .faddr 2 (.tmp 3), (some ((some 35), false)), [], []⟩,
 ⟨some 41, .load false 1 (.tmp 40), (some ((some 35), false)), [], []⟩,
 ⟨some 42, .faddr 3 (.tmp 3), (some ((some 35), false)), [], []⟩,
 ⟨some 43, .load false 1 (.tmp 42), (some ((some 35), false)), [], []⟩,
 ⟨some 44, .flist 1 3 [.nils] [(0, (.tmp 39)), (1, (.tmp 41)), (2, (.tmp 43))], (some ((some 35), false)), [], []⟩,
 ⟨some 45, .call true i_X24 [(.tmp 44)], (some ((some 35), false)), [], []⟩,
 ⟨some 46, .call true i_X41 [(.tmp 36), (.tmp 45)], (some ((some 35), false)), [], []⟩,
 ⟨some 47, .un .not (.tmp 46), (some ((some 35), false)), [], []⟩,
 ⟨some 48, .pick (.tmp 35) (.cst (.bool true)) (.tmp 47), none, [], []⟩])
 (.ghost (.kill [15, 16, 17, 18, 19, 20, 21, 22, 23, 24, 25, 26, 27, 28, 29, 30, 31, 32, 33, 34, 35, 36, 37, 38, 39, 40, 41, 42, 43, 44, 45, 46, 47])))
 (.cond (.tmp 48) (.seq (.region false [
   ⟨some 4, .mv (.cst .nils), none, [], []⟩,
   ⟨some 5, .mv (.cst (.int .i64 1)), none, [], []⟩])
  .ret)
 .skip))
 (.seq (.seq (.seq (.region false [
 ⟨some 49, .mv (.tmp 0), none, [], []⟩,
 ⟨some 50, .len .sl (.tmp 49), none, [], []⟩,
 ⟨some 51, .bin .gtr (.tmp 50) (.cst (.int .i64 4096)), none, [], []⟩])
 (.ghost (.kill [48, 49, 50])))
 (.cond (.tmp 51) (.seq (.region false [
   ⟨some 4, .mv (.cst .nils), none, [], []⟩,
   ⟨some 5, .mv (.cst (.int .i64 2)), none, [], []⟩])
  .ret)
 .skip))
 (.seq (.seq (.region false [
 ⟨some 52, .mkfn (.func i_X28) [] [(.tmp 3)], none, [], []⟩,
 ⟨some 6, .mv (.tmp 52), none, [], []⟩])
 (.ghost (.kill [51, 52])))
 (.seq (.seq (.seq (.region false [
 ⟨some 53, .faddr 0 (.tmp 3), none, [], []⟩,
 ⟨some 54, .load false 1 (.tmp 53), none, [], []⟩,
 ⟨some 55, .bin .eql (.tmp 54) (.cst (.int .i64 3)), none, [], []⟩,
 ⟨some 56, .mv (.tmp 55), none, [], []⟩,
 ⟨some 57, .mv (.tmp 0), (some ((some 56), true)), [], []⟩,
 ⟨some 58, .mv (.tmp 6), (some ((some 56), true)), [], []⟩,
 ⟨some 59, .call true i_X11 [(.tmp 57), (.tmp 58)], (some ((some 56), true)), [], []⟩,
 ⟨some 60, .pick (.tmp 56) (.tmp 59) (.cst (.bool false)), none, [], []⟩])
 (.ghost (.kill [6, 53, 54, 55, 56, 57, 58, 59])))
 (.cond (.tmp 60) (.seq (.region false [
   ⟨some 4, .mv (.cst .nils), none, [], []⟩,
   ⟨some 5, .mv (.cst (.int .i64 6)), none, [], []⟩])
  .ret)
 .skip))
 (.seq (.seq (.region false [
 ⟨some 61, .mkmap, none, [], []⟩,
 ⟨some 7, .mv (.tmp 61), none, [], []⟩])
 (.ghost (.kill [60, 61])))
 (.seq (.seq (.region false [
 ⟨some 62, .mv (.tmp 0), none, [], []⟩,
 ⟨some 63, .faddr 2 (.tmp 3), none, [], []⟩,
 ⟨some 64, .load false 1 (.tmp 63), none, [], []⟩,
 ⟨some 65, .call true i_X26 [(.tmp 62), (.tmp 64)], none, [], []⟩,
 ⟨some 8, .mv (.tmp 65), none, [], []⟩])
 (.ghost (.kill [62, 63, 64, 65])))
 (.seq (.seq (.region false [
 ⟨some 66, .mv (.tmp 0), none, [], []⟩,
 ⟨some 67, .len .sl (.tmp 66), none, [], []⟩,
 ⟨some 68, .mkslice 3 32 [(.int .i64 0), (.int .i64 0), (.str ⟨#[]⟩)] (.tmp 67) (.tmp 67), none, [], []⟩,
 ⟨some 9, .mv (.tmp 68), none, [], []⟩])
 (.ghost (.kill [66, 67, 68])))
 (.seq (.seq (.seq (.region false [
 ⟨some 69, .mv (.tmp 0), none, [], []⟩,
 ⟨some 70, .faddr 3 (.tmp 3), none, [], []⟩,
 ⟨some 71, .load false 1 (.tmp 70), none, [], []⟩,
 ⟨some 72, .call true i_X38 [(.tmp 69), (.tmp 71)], none, [], []⟩,
 ⟨some 73, .len .sl (.tmp 72), none, [], []⟩,
 ⟨some 74, .mv (.cst (.int .i64 0)), none, [], []⟩])
 (.ghost (.kill [69, 70, 71])))
 (.seq (.block 0 (.loop X34.b0))
 X34.c1))
 X34.c0)))))))))
def X34.k0 : List Item := [.inBlock 0, .code X34.c1, .code X34.c0]
@[go_sem] theorem X34.alt18 : altOps 6 10 ([⟨some 95, .mv (.tmp 12), none, [], [12]⟩,
 ⟨some 96, .mv (.tmp 0), none, [], [0]⟩,
 ⟨some 97, .mv (.tmp 11), none, [], [11]⟩,
 ⟨some 98, .iaddr 1 (.tmp 96) (.tmp 97), none, [1, 2], [96, 97]⟩,
 ⟨some 99, .load false 1 (.tmp 98), none, [3], [98]⟩,
 ⟨some 100, .load true 4 (.tmp 3), none, [], [3]⟩,
 ⟨some 101, .call false i_X25 [(.tmp 95), (.tmp 99), (.tmp 100)], none, [0, 4, 5], [95, 99, 100]⟩,
 ⟨some 94, .mv (.tmp 101), none, [6], [101]⟩,
 ⟨some 102, .extr (.tmp 94) 0, none, [7], [94]⟩,
 ⟨some 103, .extr (.tmp 94) 1, none, [7], [94]⟩,
 ⟨some 13, .alloc [(.int .i64 0), (.int .i64 0), (.str ⟨#[]⟩)], none, [], []⟩,
 ⟨none, .store 3 (.tmp 13) (.tmp 102), none, [10, 8, 6, 0, 1, 2, 3, 4, 5, 6, 7, 8, 10], [13, 102]⟩,
 ⟨some 14, .mv (.tmp 103), none, [9, 11, 0, 1, 2, 3, 4, 5, 6, 7, 8, 9, 10, 11], [103]⟩] : List AOper) = [⟨some 95, .mv (.tmp 12), none, [], [12]⟩,
 ⟨some 96, .mv (.tmp 0), none, [], [0]⟩,
 ⟨some 97, .mv (.tmp 11), none, [], [11]⟩,
 ⟨some 98, .iaddr 1 (.tmp 96) (.tmp 97), none, [1, 2], [96, 97]⟩,
 ⟨some 99, .load false 1 (.tmp 98), none, [3], [98]⟩,
 ⟨some 100, .load true 4 (.tmp 3), none, [], [3]⟩,
 ⟨some 13, .alloc [(.int .i64 0), (.int .i64 0), (.str ⟨#[]⟩)], none, [], []⟩,
 ⟨some 101, .call false i_X25 [(.tmp 95), (.tmp 99), (.tmp 100)], none, [0, 4, 5], [95, 99, 100]⟩,
 ⟨some 94, .mv (.tmp 101), none, [6], [101]⟩,
 ⟨some 102, .extr (.tmp 94) 0, none, [7], [94]⟩,
 ⟨some 103, .extr (.tmp 94) 1, none, [7], [94]⟩,
 ⟨none, .store 3 (.tmp 13) (.tmp 102), none, [10, 8, 6, 0, 1, 2, 3, 4, 5, 6, 7, 8, 10], [13, 102]⟩,
 ⟨some 14, .mv (.tmp 103), none, [9, 11, 0, 1, 2, 3, 4, 5, 6, 7, 8, 9, 10, 11], [103]⟩] := rfl
def X34 : AFunc := ⟨112, [.tmp 4, .tmp 5], X34.main, false⟩
def X44.main : ACode := (.seq (.seq (.region false [
 ⟨some 4, .mv (.cst .nils), none, [], []⟩,
 ⟨some 5, .mv (.cst (.int .i64 0)), none, [], []⟩])
 (.ghost (.kill [4, 5])))
 (.seq (.seq (.seq (.region false [
 ⟨some 6, .mv (.tmp 0), none, [], []⟩,
 ⟨some 7, .mv (.tmp 1), none, [], []⟩,
 ⟨some 8, .call true i_X41 [(.tmp 6), (.tmp 7)], none, [], []⟩,
 ⟨some 9, .un .not (.tmp 8), none, [], []⟩])
 (.ghost (.kill [6, 7, 8])))
 (.cond (.tmp 9) (.seq (.region false [
   ⟨some 4, .mv (.cst .nils), none, [], []⟩,
   ⟨some 5, .mv (.cst (.int .i64 1)), none, [], []⟩])
  .ret)
 .skip))
 (.seq (.seq (.seq (.region false [
 ⟨some 10, .mv (.tmp 0), none, [], []⟩,
 ⟨some 11, .len .sl (.tmp 10), none, [], []⟩,
 ⟨some 12, .bin .gtr (.tmp 11) (.cst (.int .i64 4096)), none, [], []⟩])
 (.ghost (.kill [9, 10, 11])))
 (.cond (.tmp 12) (.seq (.region false [
   ⟨some 4, .mv (.cst .nils), none, [], []⟩,
   ⟨some 5, .mv (.cst (.int .i64 2)), none, [], []⟩])
  .ret)
 .skip))
 (.seq (.region false [
 ⟨some 13, .mv (.tmp 0), none, [], []⟩,
 ⟨some 14, .mv (.tmp 1), none, [], []⟩,
 ⟨some 15, .call true i_X38 [(.tmp 13), (.tmp 14)], none, [], []⟩,
 ⟨some 4, .mv (.tmp 15), none, [], []⟩,
 ⟨some 5, .mv (.cst (.int .i64 0)), none, [], []⟩])
 .ret))))
def X44 : AFunc := ⟨16, [.tmp 4, .tmp 5], X44.main, false⟩
def X35.c0 : ACode := (.seq (.region false [
 ⟨some 65, .mv (.tmp 6), none, [], []⟩,
 ⟨some 4, .mv (.tmp 65), none, [], []⟩,
 ⟨some 5, .mv (.cst (.int .i64 0)), none, [], []⟩])
 .ret)
def X35.c1 : ACode := (.ghost (.kill [0, 31, 32, 33, 34]))
def X35.c2 : ACode := (.seq (.region false [
 ⟨some 64, .bin .add (.tmp 33) (.cst (.int .i64 1)), none, [], []⟩,
 ⟨some 33, .mv (.tmp 64), none, [], []⟩])
 (.ghost (.kill [64])))
def X35.c3 : ACode := (.ghost (.kill [46, 47, 48, 49]))
def X35.b2 : ACode := (.seq (.region false [
 ⟨some 49, .bin .lss (.tmp 48) (.tmp 47), none, [], []⟩])
 (.seq (.cond (.tmp 49) .skip
 (.exit 4))
 (.seq (.trunc (.block 5 (.seq (.seq (.region false [
 ⟨some 50, .mv (.tmp 48), none, [], []⟩,
 ⟨some 51, .iaddr 3 (.tmp 46) (.tmp 48), none, [], []⟩,
 ⟨some 52, .load true 3 (.tmp 51), none, [], []⟩,
 ⟨some 14, .alloc [(.int .i64 0), (.int .i64 0), (.str ⟨#[]⟩)], none, [], []⟩,
 ⟨some 13, .mv (.tmp 50), none, [], []⟩,
 ⟨none, .store 3 (.tmp 14) (.tmp 52), none, [], []⟩])
 (.ghost (.kill [49, 50, 51, 52])))
 (.seq (.region true [
 ⟨some 53, .mv (.tmp 6), none, [], [6]⟩,
 ⟨some 54, .mv (.tmp 13), none, [], [13]⟩,
 ⟨some 55, .mv (.tmp 6), none, [], [6]⟩,
 ⟨some 56, .mv (.tmp 13), none, [], [13]⟩,
 ⟨some 57, .iaddr 1 (.tmp 55) (.tmp 56), none, [2, 3], [55, 56]⟩,
 ⟨some 58, .load false 1 (.tmp 57), none, [4], [57]⟩,
 ⟨some 59, .load true 3 (.tmp 14), none, [], [14]⟩,
 ⟨some 60, .bslice 3 1 [(.int .i64 0), (.int .i64 0), (.str ⟨#[]⟩)] [(0, (.tmp 59))], none, [6], [59]⟩,
 ⟨some 61, .append 3 32 (.tmp 58) (.tmp 60), none, [5, 7], [58, 60]⟩,
 ⟨some 62, .iaddr 1 (.tmp 53) (.tmp 54), none, [0, 1, 0, 1, 2, 3, 4, 5, 6, 7, 8], [53, 54]⟩,
 ⟨none, .store 1 (.tmp 62) (.tmp 61), none, [9, 8, 8, 0, 1, 2, 3, 4, 5, 6, 7, 8], [62, 61]⟩])
 (.ghost (.kill [13, 14, 53, 54, 55, 56, 57, 58, 59, 60, 61, 62]))))))
 (.seq (.region false [
 ⟨some 63, .bin .add (.tmp 48) (.cst (.int .i64 1)), none, [], []⟩,
 ⟨some 48, .mv (.tmp 63), none, [], []⟩])
 (.ghost (.kill [63]))))))
def X35.b1 : ACode := (.seq (.region false [
 ⟨some 34, .bin .lss (.tmp 33) (.tmp 32), none, [], []⟩])
 (.seq (.cond (.tmp 34) .skip
 (.exit 2))
 (.seq (.trunc (.block 3 (.seq (.seq (.region false [
 ⟨some 35, .iaddr 4 (.tmp 31) (.tmp 33), none, [], []⟩,
 ⟨some 36, .load true 4 (.tmp 35), none, [], []⟩,
 ⟨some 10, .alloc [(.int .i64 0), (.int .i64 0), .nils, .nils], none, [], []⟩,
 ⟨none, .store 4 (.tmp 10) (.tmp 36), none, [], []⟩])
 (.ghost (.kill [34, 35, 36])))
 (.seq (.seq (.region false [
 ⟨some 38, .mv (.tmp 0), none, [], []⟩,
 ⟨some 39, .load true 4 (.tmp 10), none, [], []⟩,
 ⟨some 40, .call true i_X34 [(.tmp 38), (.tmp 39)], none, [], []⟩,
 ⟨some 37, .mv (.tmp 40), none, [], []⟩,
 ⟨some 41, .extr (.tmp 37) 0, none, [], []⟩,
 ⟨some 42, .extr (.tmp 37) 1, none, [], []⟩,
 ⟨some 11, .mv (.tmp 41), none, [], []⟩,
 ⟨some 12, .mv (.tmp 42), none, [], []⟩])
 (.ghost (.kill [10, 37, 38, 39, 40, 41, 42])))
 (.seq (.seq (.seq (.region false [
 ⟨some 43, .mv (.tmp 12), none, [], []⟩,
 ⟨some 44, .bin .neq (.tmp 43) (.cst (.int .i64 0)), none, [], []⟩])
 (.ghost (.kill [43])))
 (.cond (.tmp 44) (.seq (.region false [
   ⟨some 45, .mv (.tmp 12), none, [], []⟩,
   ⟨some 4, .mv (.cst .nils), none, [], []⟩,
   ⟨some 5, .mv (.tmp 45), none, [], []⟩])
  .ret)
 .skip))
 (.seq (.seq (.region false [
 ⟨some 46, .mv (.tmp 11), none, [], []⟩,
 ⟨some 47, .len .sl (.tmp 46), none, [], []⟩,
 ⟨some 48, .mv (.cst (.int .i64 0)), none, [], []⟩])
 (.ghost (.kill [11, 12, 44])))
 (.seq (.block 4 (.loop X35.b2))
 X35.c3)))))))
 X35.c2)))
def X35.c4 : ACode := (.seq (.seq (.seq (.region false [
 ⟨some 31, .mv (.tmp 1), none, [], []⟩,
 ⟨some 32, .len .sl (.tmp 31), none, [], []⟩,
 ⟨some 33, .mv (.cst (.int .i64 0)), none, [], []⟩])
 (.ghost (.kill [1])))
 (.seq (.block 2 (.loop X35.b1))
 X35.c1))
 X35.c0)
def X35.c5 : ACode := (.ghost (.kill [18, 19, 20, 21]))
def X35.b0 : ACode := (.seq (.region false [
 ⟨some 21, .bin .lss (.tmp 20) (.tmp 19), none, [], []⟩])
 (.seq (.cond (.tmp 21) .skip
 (.exit 0))
 (.seq (.block 1 (.seq (.seq (.region false [
 ⟨some 22, .mv (.tmp 20), none, [], []⟩,
 ⟨some 23, .iaddr 1 (.tmp 18) (.tmp 20), none, [], []⟩,
 ⟨some 24, .load false 1 (.tmp 23), none, [], []⟩,
 ⟨some 7, .mv (.tmp 22), none, [], []⟩,
 ⟨some 8, .mv (.tmp 24), none, [], []⟩])
 (.ghost (.kill [21, 22, 23, 24])))
 (.seq (.region false [
 ⟨some 25, .mv (.tmp 6), none, [], []⟩,
 ⟨some 26, .mv (.tmp 7), none, [], []⟩,
 ⟨some 27, .mv (.tmp 8), none, [], []⟩,
 ⟨some 28, .call false i_X22 [(.tmp 27)], none, [], []⟩,
 ⟨some 29, .iaddr 1 (.tmp 25) (.tmp 26), none, [], []⟩,
 ⟨none, .store 1 (.tmp 29) (.tmp 28), none, [], []⟩])
 (.ghost (.kill [7, 8, 25, 26, 27, 28, 29])))))
 (.seq (.region false [
 ⟨some 30, .bin .add (.tmp 20) (.cst (.int .i64 1)), none, [], []⟩,
 ⟨some 20, .mv (.tmp 30), none, [], []⟩])
 (.ghost (.kill [30]))))))
def X35.main : ACode := (.seq (.seq (.region false [
 ⟨some 4, .mv (.cst .nils), none, [], []⟩,
 ⟨some 5, .mv (.cst (.int .i64 0)), none, [], []⟩])
 (.ghost (.kill [4, 5])))
 (.seq (.seq (.region false [
 ⟨some 15, .mv (.tmp 0), none, [], []⟩,
 ⟨some 16, .len .sl (.tmp 15), none, [], []⟩,
 ⟨some 17, .mkslice 1 24 [.nils] (.tmp 16) (.tmp 16), none, [], []⟩,
 ⟨some 6, .mv (.tmp 17), none, [], []⟩])
 (.ghost (.kill [15, 16, 17])))
 (.seq (.seq (.region false [
 ⟨some 18, .mv (.tmp 0), none, [], []⟩,
 ⟨some 19, .len .sl (.tmp 18), none, [], []⟩,
 ⟨some 20, .mv (.cst (.int .i64 0)), none, [], []⟩])
 (.seq (.block 0 (.loop X35.b0))
 X35.c5))
 X35.c4)))
def X35.k2 (m0 : Nat) : List Item := [.inBlock 4, .code X35.c3, .inBlock 3, .inTrunc m0, .code X35.c2, .inLoop X35.b1, .inBlock 2, .code X35.c1, .code X35.c0]
def X35.k1 : List Item := [.inBlock 2, .code X35.c1, .code X35.c0]
def X35.k0 : List Item := [.inBlock 0, .code X35.c5, .code X35.c4]
def X35 : AFunc := ⟨66, [.tmp 4, .tmp 5], X35.main, false⟩
def X61.main : ACode := (.seq (.seq (.region false [
 ⟨some 4, .mv (.cst (.int .i64 0)), none, [], []⟩])
 (.ghost (.kill [4])))
 (.seq (.seq (.seq (.region false [
 ⟨some 5, .mv (.tmp 0), none, [], []⟩,
 ⟨some 6, .mv (.tmp 1), none, [], []⟩,
 ⟨some 7, .bin .lss (.tmp 5) (.tmp 6), none, [], []⟩])
 (.ghost (.kill [5, 6])))
 (.cond (.tmp 7) (.seq (.region false [
   ⟨some 4, .mv (.cst (.int .i64 (-1))), none, [], []⟩])
  .ret)
 .skip))
 (.seq (.seq (.seq (.region false [
 ⟨some 8, .mv (.tmp 0), none, [], []⟩,
 ⟨some 9, .mv (.tmp 1), none, [], []⟩,
 ⟨some 10, .bin .gtr (.tmp 8) (.tmp 9), none, [], []⟩])
 (.ghost (.kill [0, 1, 7, 8, 9])))
 (.cond (.tmp 10) (.seq (.region false [
   ⟨some 4, .mv (.cst (.int .i64 1)), none, [], []⟩])
  .ret)
 .skip))
 (.seq (.region false [
 ⟨some 4, .mv (.cst (.int .i64 0)), none, [], []⟩])
 .ret))))
def X61 : AFunc := ⟨11, [.tmp 4], X61.main, false⟩
def X48.c0 : ACode := (.seq (.region false [
 ⟨some 34, .mv (.tmp 0), none, [], []⟩,
 ⟨some 35, .len .str (.tmp 34), none, [], []⟩,
 ⟨some 36, .mv (.tmp 1), none, [], []⟩,
 ⟨some 37, .len .str (.tmp 36), none, [], []⟩,
 ⟨some 38, .call true i_X61 [(.tmp 35), (.tmp 37)], none, [], []⟩,
 ⟨some 4, .mv (.tmp 38), none, [], []⟩])
 .ret)
def X48.b0 : ACode := (.seq (.seq (.seq (.region false [
 ⟨some 6, .mv (.tmp 5), none, [], []⟩,
 ⟨some 7, .mv (.tmp 0), none, [], []⟩,
 ⟨some 8, .len .str (.tmp 7), none, [], []⟩,
 ⟨some 9, .bin .lss (.tmp 6) (.tmp 8), none, [], []⟩,
 ⟨some 10, .mv (.tmp 9), none, [], []⟩,
 ⟨some 11, .mv (.tmp 5), (some ((some 10), true)), [], []⟩,
 ⟨some 12, .mv (.tmp 1), (some ((some 10), true)), [], []⟩,
 ⟨some 13, .len .str (.tmp 12), (some ((some 10), true)), [], []⟩,
 ⟨some 14, .bin .lss (.tmp 11) (.tmp 13), (some ((some 10), true)), [], []⟩,
 ⟨some 15, .pick (.tmp 10) (.tmp 14) (.cst (.bool false)), none, [], []⟩])
 (.ghost (.kill [6, 7, 8, 9, 10, 11, 12, 13, 14])))
 (.cond (.tmp 15) .skip
 (.exit 0)))
 (.seq (.seq (.block 1 (.seq (.seq (.region true [
 ⟨some 18, .mv (.tmp 0), none, [], [0]⟩,
 ⟨some 19, .mv (.tmp 5), none, [], [5]⟩,
 ⟨some 20, .idxS (.tmp 18) (.tmp 19), none, [0, 1], [18, 19]⟩,
 ⟨some 21, .mv (.tmp 1), none, [], [1]⟩,
 ⟨some 22, .mv (.tmp 5), none, [], [5]⟩,
 ⟨some 23, .idxS (.tmp 21) (.tmp 22), none, [3, 4], [21, 22]⟩,
 ⟨some 24, .bin .neq (.tmp 20) (.tmp 23), none, [2, 5], [20, 23]⟩])
 (.ghost (.kill [15, 18, 19, 20, 21, 22, 23])))
 (.cond (.tmp 24) (.seq (.region true [
   ⟨some 25, .mv (.tmp 0), none, [], [0]⟩,
   ⟨some 26, .mv (.tmp 5), none, [], [5]⟩,
   ⟨some 27, .idxS (.tmp 25) (.tmp 26), none, [0, 1], [25, 26]⟩,
   ⟨some 28, .conv .i64 (.tmp 27), none, [2], [27]⟩,
   ⟨some 29, .mv (.tmp 1), none, [], [1]⟩,
   ⟨some 30, .mv (.tmp 5), none, [], [5]⟩,
   ⟨some 31, .idxS (.tmp 29) (.tmp 30), none, [4, 5], [29, 30]⟩,
   ⟨some 32, .conv .i64 (.tmp 31), none, [6], [31]⟩,
   ⟨some 33, .call true i_X61 [(.tmp 28), (.tmp 32)], none, [3, 7], [28, 32]⟩,
   ⟨some 4, .mv (.tmp 33), none, [8, 8, 0, 1, 2, 3, 4, 5, 6, 7, 8], [33]⟩])
  .ret)
 .skip)))
 (.ghost (.kill [24])))
 (.seq (.region false [
 ⟨some 16, .mv (.tmp 5), none, [], []⟩,
 ⟨some 17, .bin .add (.tmp 16) (.cst (.int .i64 1)), none, [], []⟩,
 ⟨some 5, .mv (.tmp 17), none, [], []⟩])
 (.ghost (.kill [16, 17])))))
def X48.main : ACode := (.seq (.seq (.region false [
 ⟨some 4, .mv (.cst (.int .i64 0)), none, [], []⟩])
 (.ghost (.kill [4])))
 (.seq (.seq (.region false [
 ⟨some 5, .mv (.cst (.int .i64 0)), none, [], []⟩])
 (.seq (.block 0 (.loop X48.b0))
 (.ghost (.kill [5, 15]))))
 X48.c0))
def X48.k0 : List Item := [.inBlock 0, .code (.ghost (.kill [5, 15])), .code X48.c0]
def X48 : AFunc := ⟨39, [.tmp 4], X48.main, false⟩
def X47.c0 : ACode := (.seq (.region false [
 ⟨some 31, .mv (.tmp 0), none, [], []⟩,
 ⟨some 32, .len .sl (.tmp 31), none, [], []⟩,
 ⟨some 33, .mv (.tmp 1), none, [], []⟩,
 ⟨some 34, .len .sl (.tmp 33), none, [], []⟩,
 ⟨some 35, .call true i_X61 [(.tmp 32), (.tmp 34)], none, [], []⟩,
 ⟨some 4, .mv (.tmp 35), none, [], []⟩])
 .ret)
def X47.b0 : ACode := (.seq (.seq (.seq (.region false [
 ⟨some 7, .mv (.tmp 5), none, [], []⟩,
 ⟨some 8, .mv (.tmp 0), none, [], []⟩,
 ⟨some 9, .len .sl (.tmp 8), none, [], []⟩,
 ⟨some 10, .bin .lss (.tmp 7) (.tmp 9), none, [], []⟩,
 ⟨some 11, .mv (.tmp 10), none, [], []⟩,
 ⟨some 12, .mv (.tmp 5), (some ((some 11), true)), [], []⟩,
 ⟨some 13, .mv (.tmp 1), (some ((some 11), true)), [], []⟩,
 ⟨some 14, .len .sl (.tmp 13), (some ((some 11), true)), [], []⟩,
 ⟨some 15, .bin .lss (.tmp 12) (.tmp 14), (some ((some 11), true)), [], []⟩,
 ⟨some 16, .pick (.tmp 11) (.tmp 15) (.cst (.bool false)), none, [], []⟩])
 (.ghost (.kill [7, 8, 9, 10, 11, 12, 13, 14, 15])))
 (.cond (.tmp 16) .skip
 (.exit 0)))
 (.seq (.seq (.block 1 (.seq (.seq (.region true [
 ⟨some 19, .mv (.tmp 0), none, [], [0]⟩,
 ⟨some 20, .mv (.tmp 5), none, [], [5]⟩,
 ⟨some 21, .iaddr 3 (.tmp 19) (.tmp 20), none, [0, 1], [19, 20]⟩,
 ⟨some 22, .load true 3 (.tmp 21), none, [2], [21]⟩,
 ⟨some 23, .mv (.tmp 1), none, [], [1]⟩,
 ⟨some 24, .mv (.tmp 5), none, [], [5]⟩,
 ⟨some 25, .iaddr 3 (.tmp 23) (.tmp 24), none, [4, 5], [23, 24]⟩,
 ⟨some 26, .load true 3 (.tmp 25), none, [6], [25]⟩,
 ⟨some 27, .call true i_X68 [(.tmp 22), (.tmp 26)], none, [3, 7], [22, 26]⟩,
 ⟨some 6, .mv (.tmp 27), none, [8, 8, 0, 1, 2, 3, 4, 5, 6, 7, 8], [27]⟩])
 (.ghost (.kill [16, 19, 20, 21, 22, 23, 24, 25, 26, 27])))
 (.seq (.seq (.region false [
 ⟨some 28, .mv (.tmp 6), none, [], []⟩,
 ⟨some 29, .bin .neq (.tmp 28) (.cst (.int .i64 0)), none, [], []⟩])
 (.ghost (.kill [28])))
 (.cond (.tmp 29) (.seq (.region false [
   ⟨some 30, .mv (.tmp 6), none, [], []⟩,
   ⟨some 4, .mv (.tmp 30), none, [], []⟩])
  .ret)
 .skip))))
 (.ghost (.kill [6, 29])))
 (.seq (.region false [
 ⟨some 17, .mv (.tmp 5), none, [], []⟩,
 ⟨some 18, .bin .add (.tmp 17) (.cst (.int .i64 1)), none, [], []⟩,
 ⟨some 5, .mv (.tmp 18), none, [], []⟩])
 (.ghost (.kill [17, 18])))))
def X47.main : ACode := (.seq (.seq (.region false [
 ⟨some 4, .mv (.cst (.int .i64 0)), none, [], []⟩])
 (.ghost (.kill [4])))
 (.seq (.seq (.region false [
 ⟨some 5, .mv (.cst (.int .i64 0)), none, [], []⟩])
 (.seq (.block 0 (.loop X47.b0))
 (.ghost (.kill [5, 16]))))
 X47.c0))
def X47.k0 : List Item := [.inBlock 0, .code (.ghost (.kill [5, 16])), .code X47.c0]
def X47 : AFunc := ⟨36, [.tmp 4], X47.main, false⟩
def X41.c0 : ACode := (.seq (.region false [
 ⟨some 4, .mv (.cst (.bool true)), none, [], []⟩])
 .ret)
def X41.c1 : ACode := (.ghost (.kill [0, 23, 24, 25, 26]))
def X41.b1 : ACode := (.seq (.region false [
 ⟨some 26, .bin .lss (.tmp 25) (.tmp 24), none, [], []⟩])
 (.seq (.cond (.tmp 26) .skip
 (.exit 2))
 (.seq (.seq (.block 3 (.seq (.seq (.region false [
 ⟨some 27, .iaddr 1 (.tmp 23) (.tmp 25), none, [], []⟩,
 ⟨some 28, .load false 1 (.tmp 27), none, [], []⟩,
 ⟨some 8, .mv (.tmp 28), none, [], []⟩])
 (.ghost (.kill [26, 27, 28])))
 (.seq (.seq (.region false [
 ⟨some 29, .mv (.tmp 0), none, [], []⟩,
 ⟨some 30, .len .sl (.tmp 29), none, [], []⟩,
 ⟨some 31, .bin .gtr (.tmp 30) (.cst (.int .i64 0)), none, [], []⟩,
 ⟨some 32, .mv (.tmp 31), none, [], []⟩,
 ⟨some 33, .mv (.tmp 8), (some ((some 32), true)), [], []⟩,
 ⟨some 34, .bin .lss (.tmp 33) (.cst (.int .i64 0)), (some ((some 32), true)), [], []⟩,
 ⟨some 35, .mv (.tmp 34), (some ((some 32), true)), [], []⟩,
 ⟨some 36, .mv (.tmp 8), (some ((some 35), false)), [], []⟩,
 ⟨some 37, .mv (.tmp 0), (some ((some 35), false)), [], []⟩,
 ⟨some 38, .iaddr 1 (.tmp 37) (.cst (.int .i64 0)), (some ((some 35), false)), [], []⟩,
 ⟨some 39, .load false 1 (.tmp 38), (some ((some 35), false)), [], []⟩,
 ⟨some 40, .len .sl (.tmp 39), (some ((some 35), false)), [], []⟩,
 ⟨some 41, .bin .geq (.tmp 36) (.tmp 40), (some ((some 35), false)), [], []⟩,
 ⟨some 42, .pick (.tmp 35) (.cst (.bool true)) (.tmp 41), (some ((some 32), true)), [], []⟩,
 ⟨some 43, .pick (.tmp 32) (.tmp 42) (.cst (.bool false)), none, [], []⟩])
 (.ghost (.kill [8, 29, 30, 31, 32, 33, 34, 35, 36, 37, 38, 39, 40, 41, 42])))
 (.cond (.tmp 43) (.seq (.region false [
   ⟨some 4, .mv (.cst (.bool false)), none, [], []⟩])
  .ret)
 .skip))))
 (.ghost (.kill [43])))
 (.seq (.region false [
 ⟨some 44, .bin .add (.tmp 25) (.cst (.int .i64 1)), none, [], []⟩,
 ⟨some 25, .mv (.tmp 44), none, [], []⟩])
 (.ghost (.kill [44]))))))
def X41.c2 : ACode := (.seq (.seq (.seq (.region false [
 ⟨some 23, .mv (.tmp 1), none, [], []⟩,
 ⟨some 24, .len .sl (.tmp 23), none, [], []⟩,
 ⟨some 25, .mv (.cst (.int .i64 0)), none, [], []⟩])
 (.ghost (.kill [1])))
 (.seq (.block 2 (.loop X41.b1))
 X41.c1))
 X41.c0)
def X41.c3 : ACode := (.ghost (.kill [9, 10, 11, 12]))
def X41.b0 : ACode := (.seq (.region false [
 ⟨some 12, .bin .lss (.tmp 11) (.tmp 10), none, [], []⟩])
 (.seq (.cond (.tmp 12) .skip
 (.exit 0))
 (.seq (.seq (.block 1 (.seq (.seq (.region false [
 ⟨some 13, .iaddr 1 (.tmp 9) (.tmp 11), none, [], []⟩,
 ⟨some 14, .load false 1 (.tmp 13), none, [], []⟩,
 ⟨some 6, .mv (.tmp 14), none, [], []⟩])
 (.ghost (.kill [12, 13, 14])))
 (.seq (.seq (.region false [
 ⟨some 15, .mv (.tmp 6), none, [], []⟩,
 ⟨some 16, .len .sl (.tmp 15), none, [], []⟩,
 ⟨some 17, .mv (.tmp 0), none, [], []⟩,
 ⟨some 18, .iaddr 1 (.tmp 17) (.cst (.int .i64 0)), none, [], []⟩,
 ⟨some 19, .load false 1 (.tmp 18), none, [], []⟩,
 ⟨some 20, .len .sl (.tmp 19), none, [], []⟩,
 ⟨some 21, .bin .neq (.tmp 16) (.tmp 20), none, [], []⟩])
 (.ghost (.kill [6, 15, 16, 17, 18, 19, 20])))
 (.cond (.tmp 21) (.seq (.region false [
   ⟨some 4, .mv (.cst (.bool false)), none, [], []⟩])
  .ret)
 .skip))))
 (.ghost (.kill [21])))
 (.seq (.region false [
 ⟨some 22, .bin .add (.tmp 11) (.cst (.int .i64 1)), none, [], []⟩,
 ⟨some 11, .mv (.tmp 22), none, [], []⟩])
 (.ghost (.kill [22]))))))
def X41.main : ACode := (.seq (.seq (.region false [
 ⟨some 4, .mv (.cst (.bool false)), none, [], []⟩])
 (.ghost (.kill [4])))
 (.seq (.seq (.region false [
 ⟨some 9, .mv (.tmp 0), none, [], []⟩,
 ⟨some 10, .len .sl (.tmp 9), none, [], []⟩,
 ⟨some 11, .mv (.cst (.int .i64 0)), none, [], []⟩])
 (.seq (.block 0 (.loop X41.b0))
 X41.c3))
 X41.c2))
def X41.k1 : List Item := [.inBlock 2, .code X41.c1, .code X41.c0]
def X41.k0 : List Item := [.inBlock 0, .code X41.c3, .code X41.c2]
def X41 : AFunc := ⟨45, [.tmp 4], X41.main, false⟩
def X24.c0 : ACode := (.seq (.region false [
 ⟨some 35, .mv (.tmp 6), none, [], []⟩,
 ⟨some 2, .mv (.tmp 35), none, [], []⟩])
 .ret)
def X24.c1 : ACode := (.ghost (.kill [25, 26, 27, 28]))
def X24.b1 : ACode := (.seq (.region false [
 ⟨some 28, .bin .lss (.tmp 27) (.tmp 26), none, [], []⟩])
 (.seq (.cond (.tmp 28) .skip
 (.exit 2))
 (.seq (.trunc (.block 3 (.seq (.seq (.region false [
 ⟨some 29, .iaddr 1 (.tmp 25) (.tmp 27), none, [], []⟩,
 ⟨some 30, .load false 1 (.tmp 29), none, [], []⟩,
 ⟨some 8, .mv (.tmp 30), none, [], []⟩])
 (.ghost (.kill [28, 29, 30])))
 (.seq (.region false [
 ⟨some 31, .mv (.tmp 6), none, [], []⟩,
 ⟨some 32, .mv (.tmp 8), none, [], []⟩,
 ⟨some 33, .append 1 8 (.tmp 31) (.tmp 32), none, [], []⟩,
 ⟨some 6, .mv (.tmp 33), none, [], []⟩])
 (.ghost (.kill [8, 31, 32, 33]))))))
 (.seq (.region false [
 ⟨some 34, .bin .add (.tmp 27) (.cst (.int .i64 1)), none, [], []⟩,
 ⟨some 27, .mv (.tmp 34), none, [], []⟩])
 (.ghost (.kill [34]))))))
def X24.c2 : ACode := (.seq (.seq (.region false [
 ⟨some 23, .mv (.tmp 3), none, [], []⟩,
 ⟨some 24, .call false i_X30 [(.cst .nils), (.tmp 23)], none, [], []⟩,
 ⟨some 6, .mv (.tmp 24), none, [], []⟩])
 (.ghost (.kill [3, 23, 24])))
 (.seq (.seq (.seq (.region false [
 ⟨some 25, .mv (.tmp 0), none, [], []⟩,
 ⟨some 26, .len .sl (.tmp 25), none, [], []⟩,
 ⟨some 27, .mv (.cst (.int .i64 0)), none, [], []⟩])
 (.ghost (.kill [0])))
 (.seq (.block 2 (.loop X24.b1))
 X24.c1))
 X24.c0))
def X24.c3 : ACode := (.ghost (.kill [9, 10, 11, 12]))
def X24.c4 : ACode := (.seq (.region false [
 ⟨some 22, .bin .add (.tmp 11) (.cst (.int .i64 1)), none, [], []⟩,
 ⟨some 11, .mv (.tmp 22), none, [], []⟩])
 (.ghost (.kill [22])))
def X24.b0 : ACode := (.seq (.region false [
 ⟨some 12, .bin .lss (.tmp 11) (.tmp 10), none, [], []⟩])
 (.seq (.cond (.tmp 12) .skip
 (.exit 0))
 (.seq (.block 1 (.seq (.seq (.region false [
 ⟨some 13, .iaddr 1 (.tmp 9) (.tmp 11), none, [], []⟩,
 ⟨some 14, .load false 1 (.tmp 13), none, [], []⟩,
 ⟨some 5, .mv (.tmp 14), none, [], []⟩])
 (.ghost (.kill [12, 13, 14])))
 (.seq (.seq (.region false [
 ⟨some 15, .mv (.tmp 3), none, [], []⟩,
 ⟨some 16, .mv (.tmp 5), none, [], []⟩,
 ⟨some 17, .len .sl (.tmp 16), none, [], []⟩,
 ⟨some 18, .bin .add (.tmp 15) (.tmp 17), none, [], []⟩,
 ⟨some 3, .mv (.tmp 18), none, [], []⟩])
 (.ghost (.kill [5, 15, 16, 17, 18])))
 (.seq (.seq (.region false [
 ⟨some 19, .mv (.tmp 3), none, [], []⟩,
 ⟨some 20, .bin .lss (.tmp 19) (.cst (.int .i64 0)), none, [], []⟩])
 (.ghost (.kill [19])))
 (.seq (.cond (.tmp 20) (.seq (.region false [
   ⟨some 21, .mkif 9 (.cst (.str ⟨#[108, 101, 110, 32, 111, 117, 116, 32, 111, 102, 32, 114, 97, 110, 103, 101]⟩)), none, [], []⟩,
   ⟨none, .unsup, none, [], []⟩])
  (.ghost (.kill [20, 21])))
 .skip)
 (.ghost (.kill [20])))))))
 X24.c4)))
def X24.main : ACode := (.seq (.seq (.region false [
 ⟨some 2, .mv (.cst .nils), none, [], []⟩])
 (.ghost (.kill [2])))
 (.seq (.region false [
 ⟨some 3, .mv (.cst (.int .i64 0)), none, [], []⟩])
 (.seq (.seq (.region false [
 ⟨some 9, .mv (.tmp 0), none, [], []⟩,
 ⟨some 10, .len .sl (.tmp 9), none, [], []⟩,
 ⟨some 11, .mv (.cst (.int .i64 0)), none, [], []⟩])
 (.seq (.block 0 (.loop X24.b0))
 X24.c3))
 X24.c2)))
def X24.k1 : List Item := [.inBlock 2, .code X24.c1, .code X24.c0]
def X24.k0 : List Item := [.inBlock 0, .code X24.c3, .code X24.c2]
def X24 : AFunc := ⟨36, [.tmp 2], X24.main, false⟩
def X28.main : ACode := (.seq (.seq (.region false [
 ⟨some 3, .mv (.cst (.bool false)), none, [], []⟩])
 (.ghost (.kill [3])))
 (.seq (.region false [
 ⟨some 4, .mv (.tmp 0), none, [], []⟩,
 ⟨some 5, .faddr 1 (.tmp 1), none, [], []⟩,
 ⟨some 6, .load false 1 (.tmp 5), none, [], []⟩,
 ⟨some 7, .iaddr 3 (.tmp 4) (.tmp 6), none, [], []⟩,
 ⟨some 8, .faddr 0 (.tmp 7), none, [], []⟩,
 ⟨some 9, .load false 1 (.tmp 8), none, [], []⟩,
 ⟨some 10, .bin .neq (.tmp 9) (.cst (.int .i64 0)), none, [], []⟩,
 ⟨some 11, .mv (.tmp 10), none, [], []⟩,
 ⟨some 12, .mv (.tmp 0), (some ((some 11), true)), [], []⟩,
 ⟨some 13, .faddr 1 (.tmp 1), (some ((some 11), true)), [], []⟩,
 ⟨some 14, .load false 1 (.tmp 13), (some ((some 11), true)), [], []⟩,
 ⟨some 15, .iaddr 3 (.tmp 12) (.tmp 14), (some ((some 11), true)), [], []⟩,
 ⟨some 16, .faddr 0 (.tmp 15), (some ((some 11), true)), [], []⟩,
 ⟨some 17, .load false 1 (.tmp 16), (some ((some 11), true)), [], []⟩,
 ⟨some 18, .bin .neq (.tmp 17) (.cst (.int .i64 2)), (some ((some 11), true)), [], []⟩,
 ⟨some 19, .pick (.tmp 11) (.tmp 18) (.cst (.bool false)), none, [], []⟩,
 ⟨some 3, .mv (.tmp 19), none, [], []⟩])
 .ret))
def X28 : AFunc := ⟨20, [.tmp 3], X28.main, false⟩
def X11.main : ACode := (.seq (.seq (.region false [
 ⟨some 4, .mv (.cst (.bool false)), none, [], []⟩])
 (.ghost (.kill [4])))
 (.seq (.region false [
 ⟨some 5, .mv (.tmp 0), none, [], []⟩,
 ⟨some 6, .mv (.tmp 1), none, [], []⟩,
 ⟨some 7, .call true i_X15 [(.tmp 5), (.tmp 6)], none, [], []⟩,
 ⟨some 8, .bin .geq (.tmp 7) (.cst (.int .i64 0)), none, [], []⟩,
 ⟨some 4, .mv (.tmp 8), none, [], []⟩])
 .ret))
def X11 : AFunc := ⟨9, [.tmp 4], X11.main, false⟩
def X26.c0 : ACode := (.seq (.region false [
 ⟨some 52, .mv (.tmp 5), none, [], []⟩,
 ⟨some 4, .mv (.tmp 52), none, [], []⟩])
 .ret)
def X26.c1 : ACode := (.ghost (.kill [0, 1, 6, 7, 16, 17, 18, 19]))
def X26.c2 : ACode := (.seq (.region false [
 ⟨some 51, .bin .add (.tmp 18) (.cst (.int .i64 1)), none, [], []⟩,
 ⟨some 18, .mv (.tmp 51), none, [], []⟩])
 (.ghost (.kill [51])))
def X26.c3 : ACode := (.seq (.region false [
 ⟨some 47, .mv (.tmp 5), none, [], []⟩,
 ⟨some 48, .mv (.tmp 9), none, [], []⟩,
 ⟨some 49, .mv (.tmp 6), none, [], []⟩,
 ⟨some 50, .iaddr 1 (.tmp 47) (.tmp 48), none, [], []⟩,
 ⟨none, .store 1 (.tmp 50) (.tmp 49), none, [], []⟩])
 (.ghost (.kill [9, 47, 48, 49, 50])))
def X26.b0 : ACode := (.seq (.region false [
 ⟨some 19, .bin .lss (.tmp 18) (.tmp 17), none, [], []⟩])
 (.seq (.cond (.tmp 19) .skip
 (.exit 0))
 (.seq (.block 1 (.seq (.seq (.region false [
 ⟨some 20, .mv (.tmp 18), none, [], []⟩,
 ⟨some 21, .iaddr 1 (.tmp 16) (.tmp 18), none, [], []⟩,
 ⟨some 22, .load false 1 (.tmp 21), none, [], []⟩,
 ⟨some 8, .mv (.tmp 20), none, [], []⟩,
 ⟨some 9, .mv (.tmp 22), none, [], []⟩])
 (.ghost (.kill [19, 20, 21, 22])))
 (.seq (.seq (.seq (.region true [
 ⟨some 23, .mv (.tmp 8), none, [], [8]⟩,
 ⟨some 24, .bin .gtr (.tmp 23) (.cst (.int .i64 0)), none, [0], [23]⟩,
 ⟨some 25, .mv (.tmp 24), none, [1], [24]⟩,
 ⟨some 26, .mv (.tmp 0), (some ((some 25), true)), [2], [0]⟩,
 ⟨some 27, .mv (.tmp 7), (some ((some 25), true)), [2], [7]⟩,
 ⟨some 28, .mv (.tmp 8), (some ((some 25), true)), [2], [8]⟩,
 ⟨some 29, .bin .sub (.tmp 28) (.cst (.int .i64 1)), (some ((some 25), true)), [5, 2], [28]⟩,
 ⟨some 30, .iaddr 1 (.tmp 27) (.tmp 29), (some ((some 25), true)), [4, 6, 2], [27, 29]⟩,
 ⟨some 31, .load false 1 (.tmp 30), (some ((some 25), true)), [7, 2], [30]⟩,
 ⟨some 32, .iaddr 1 (.tmp 26) (.tmp 31), (some ((some 25), true)), [3, 8, 2], [26, 31]⟩,
 ⟨some 33, .load false 1 (.tmp 32), (some ((some 25), true)), [9, 2], [32]⟩,
 ⟨some 34, .mv (.tmp 1), (some ((some 25), true)), [2], [1]⟩,
 ⟨some 35, .call true i_X37 [(.tmp 33), (.tmp 34)], (some ((some 25), true)), [10, 11, 2, 2], [33, 34]⟩,
 ⟨some 36, .mv (.tmp 0), (some ((some 25), true)), [2], [0]⟩,
 ⟨some 37, .mv (.tmp 9), (some ((some 25), true)), [2], [9]⟩,
 ⟨some 38, .iaddr 1 (.tmp 36) (.tmp 37), (some ((some 25), true)), [13, 14, 2], [36, 37]⟩,
 ⟨some 39, .load false 1 (.tmp 38), (some ((some 25), true)), [15, 2], [38]⟩,
 ⟨some 40, .mv (.tmp 1), (some ((some 25), true)), [2], [1]⟩,
 ⟨some 41, .call true i_X37 [(.tmp 39), (.tmp 40)], (some ((some 25), true)), [16, 17, 12, 2], [39, 40]⟩,
 ⟨some 42, .call true i_X23 [(.tmp 35), (.tmp 41)], (some ((some 25), true)), [12, 18, 18, 2], [35, 41]⟩,
 ⟨some 43, .un .not (.tmp 42), (some ((some 25), true)), [19, 2], [42]⟩,
 ⟨some 44, .pick (.tmp 25) (.tmp 43) (.cst (.bool false)), none, [2, 20], [25, 43]⟩])
 (.ghost (.kill [8, 23, 24, 25, 26, 27, 28, 29, 30, 31, 32, 33, 34, 35, 36, 37, 38, 39, 40, 41, 42, 43])))
 (.seq (.cond (.tmp 44) (.seq (.region false [
   ⟨some 45, .mv (.tmp 6), none, [], []⟩,
   ⟨some 46, .bin .add (.tmp 45) (.cst (.int .i64 1)), none, [], []⟩,
   ⟨some 6, .mv (.tmp 46), none, [], []⟩])
  (.ghost (.kill [44, 45, 46])))
 .skip)
 (.ghost (.kill [44]))))
 X26.c3)))
 X26.c2)))
def X26.main : ACode := (.seq (.seq (.region false [
 ⟨some 4, .mv (.cst .nils), none, [], []⟩])
 (.ghost (.kill [4])))
 (.seq (.seq (.region false [
 ⟨some 10, .mv (.tmp 0), none, [], []⟩,
 ⟨some 11, .len .sl (.tmp 10), none, [], []⟩,
 ⟨some 12, .mkslice 1 8 [(.int .i64 0)] (.tmp 11) (.tmp 11), none, [], []⟩,
 ⟨some 5, .mv (.tmp 12), none, [], []⟩])
 (.ghost (.kill [10, 11, 12])))
 (.seq (.region false [
 ⟨some 6, .mv (.cst (.int .i64 0)), none, [], []⟩])
 (.seq (.seq (.region false [
 ⟨some 13, .mv (.tmp 0), none, [], []⟩,
 ⟨some 14, .mv (.tmp 1), none, [], []⟩,
 ⟨some 15, .call true i_X38 [(.tmp 13), (.tmp 14)], none, [], []⟩,
 ⟨some 7, .mv (.tmp 15), none, [], []⟩])
 (.ghost (.kill [13, 14, 15])))
 (.seq (.seq (.region false [
 ⟨some 16, .mv (.tmp 7), none, [], []⟩,
 ⟨some 17, .len .sl (.tmp 16), none, [], []⟩,
 ⟨some 18, .mv (.cst (.int .i64 0)), none, [], []⟩])
 (.seq (.block 0 (.loop X26.b0))
 X26.c1))
 X26.c0)))))
def X26.k0 : List Item := [.inBlock 0, .code X26.c1, .code X26.c0]
def X26 : AFunc := ⟨53, [.tmp 4], X26.main, false⟩
def X38.c0 : ACode := (.seq (.seq (.region false [
 ⟨some 20, .mv (.tmp 5), none, [], []⟩,
 ⟨some 21, .mkfn (.func i_X32) [] [(.tmp 2), (.tmp 3)], none, [], []⟩,
 ⟨some 22, .call false i_X20 [(.tmp 20), (.tmp 21)], none, [], []⟩])
 (.ghost (.kill [2, 3, 20, 21, 22])))
 (.seq (.region false [
 ⟨some 23, .mv (.tmp 5), none, [], []⟩,
 ⟨some 4, .mv (.tmp 23), none, [], []⟩])
 .ret))
def X38.b0 : ACode := (.seq (.region false [
 ⟨some 13, .bin .lss (.tmp 12) (.tmp 11), none, [], []⟩])
 (.seq (.cond (.tmp 13) .skip
 (.exit 0))
 (.seq (.block 1 (.seq (.seq (.region false [
 ⟨some 14, .mv (.tmp 12), none, [], []⟩,
 ⟨some 6, .mv (.tmp 14), none, [], []⟩])
 (.ghost (.kill [13, 14])))
 (.seq (.region false [
 ⟨some 15, .mv (.tmp 5), none, [], []⟩,
 ⟨some 16, .mv (.tmp 6), none, [], []⟩,
 ⟨some 17, .mv (.tmp 6), none, [], []⟩,
 ⟨some 18, .iaddr 1 (.tmp 15) (.tmp 16), none, [], []⟩,
 ⟨none, .store 1 (.tmp 18) (.tmp 17), none, [], []⟩])
 (.ghost (.kill [6, 15, 16, 17, 18])))))
 (.seq (.region false [
 ⟨some 19, .bin .add (.tmp 12) (.cst (.int .i64 1)), none, [], []⟩,
 ⟨some 12, .mv (.tmp 19), none, [], []⟩])
 (.ghost (.kill [19]))))))
def X38.main : ACode := (.seq (.seq (.region false [
 ⟨some 2, .box 1 (.tmp 0), none, [], []⟩,
 ⟨some 3, .box 1 (.tmp 1), none, [], []⟩,
 ⟨some 4, .mv (.cst .nils), none, [], []⟩])
 (.ghost (.kill [0, 1, 4])))
 (.seq (.seq (.region false [
 ⟨some 7, .load false 1 (.tmp 2), none, [], []⟩,
 ⟨some 8, .len .sl (.tmp 7), none, [], []⟩,
 ⟨some 9, .mkslice 1 8 [(.int .i64 0)] (.tmp 8) (.tmp 8), none, [], []⟩,
 ⟨some 5, .mv (.tmp 9), none, [], []⟩])
 (.ghost (.kill [7, 8, 9])))
 (.seq (.seq (.seq (.region false [
 ⟨some 10, .mv (.tmp 5), none, [], []⟩,
 ⟨some 11, .len .sl (.tmp 10), none, [], []⟩,
 ⟨some 12, .mv (.cst (.int .i64 0)), none, [], []⟩])
 (.ghost (.kill [10])))
 (.seq (.block 0 (.loop X38.b0))
 (.ghost (.kill [11, 12, 13]))))
 X38.c0)))
def X38.k0 : List Item := [.inBlock 0, .code (.ghost (.kill [11, 12, 13])), .code X38.c0]
def X38 : AFunc := ⟨24, [.tmp 4], X38.main, false⟩
def X25.c0 : ACode := (.seq (.regionD ⟨[6], [], [([6], [121])]⟩ [
 ⟨some 107, .mv (.tmp 0), none, [], [0]⟩,
 ⟨some 108, .nilck (.tmp 107), none, [0], [107]⟩,
 ⟨some 109, .faddr 3 (.tmp 108), none, [1], [108]⟩,
 ⟨some 110, .load true 3 (.tmp 109), none, [2], [109]⟩,
 ⟨some 111, .mv (.tmp 0), none, [], [0]⟩,
 ⟨some 112, .nilck (.tmp 111), none, [4], [111]⟩,
 ⟨some 113, .faddr 3 (.tmp 112), none, [5], [112]⟩,
 ⟨some 114, .faddr 1 (.tmp 113), none, [6], [113]⟩,
 ⟨some 115, .load false 1 (.tmp 114), none, [7], [114]⟩,
 ⟨some 116, .bin .leq (.cst (.int .i64 (-4000000000000000000))) (.tmp 115), none, [8], [115]⟩,
 ⟨some 117, .mv (.tmp 116), none, [9], [116]⟩,
 ⟨some 118, .mv (.tmp 0), (some ((some 117), true)), [10], [0]⟩,
 ⟨some 119, .nilck (.tmp 118), (some ((some 117), true)), [11, 10], [118]⟩,
 ⟨some 120, .faddr 3 (.tmp 119), (some ((some 117), true)), [12, 10], [119]⟩,
 ⟨some 121, .faddr 1 (.tmp 120), (some ((some 117), true)), [13, 10], [120]⟩,
 ⟨some 122, .load false 1 (.tmp 121), (some ((some 117), true)), [14, 10], [121]⟩,
 ⟨some 123, .bin .leq (.tmp 122) (.cst (.int .i64 4000000000000000000)), (some ((some 117), true)), [15, 10], [122]⟩,
 ⟨some 124, .pick (.tmp 117) (.tmp 123) (.cst (.bool false)), none, [10, 16], [117, 123]⟩,
 ⟨none, .store 3 (.tmp 6) (.tmp 110), none, [3, 10, 0, 1, 2, 3], [6, 110]⟩,
 ⟨some 7, .mv (.tmp 124), none, [17, 18, 0, 1, 2, 3, 4, 5, 6, 7, 8, 9, 10, 11, 12, 13, 14, 15, 16, 17, 18], [124]⟩])
 .ret)
def X25.c1 : ACode := (.seq (.seq (.region false [
 ⟨some 43, .mv (.tmp 0), none, [], []⟩,
 ⟨some 44, .mv (.tmp 1), none, [], []⟩,
 ⟨some 45, .nilck (.tmp 43), none, [], []⟩,
 ⟨some 46, .faddr 2 (.tmp 45), none, [], []⟩,
 ⟨none, .store 1 (.tmp 46) (.tmp 44), none, [], []⟩])
 (.ghost (.kill [43, 44, 45, 46])))
 (.seq (.region false [
 ⟨some 9, .mv (.cst (.clo (.func i_X19) [] [])), none, [], []⟩])
 (.seq (.seq (.seq (.region false [
 ⟨some 47, .faddr 0 (.tmp 5), none, [], []⟩,
 ⟨some 48, .load false 1 (.tmp 47), none, [], []⟩])
 (.ghost (.kill [47])))
 (.seq (.block 0 (.seq (.seq (.region false [
 ⟨some 50, .bin .eql (.tmp 48) (.cst (.int .i64 1)), none, [], []⟩,
 ⟨some 49, .mv (.tmp 50), none, [], []⟩])
 (.ghost (.kill [50])))
 (.cond (.tmp 49) (.seq (.region false [
   ⟨some 51, .mv (.tmp 9), none, [], []⟩,
   ⟨some 52, .mv (.tmp 0), none, [], []⟩,
   ⟨some 53, .nilck (.tmp 52), none, [], []⟩,
   ⟨some 54, .faddr 0 (.tmp 53), none, [], []⟩,
   ⟨some 55, .load false 1 (.tmp 54), none, [], []⟩,
   ⟨some 56, .callv true (.tmp 51) [(.tmp 55)], none, [], []⟩,
   ⟨none, .store 3 (.tmp 6) (.tmp 56), none, [], []⟩,
   ⟨some 7, .mv (.cst (.bool true)), none, [], []⟩])
  .ret)
 (.seq (.seq (.region false [
   ⟨some 58, .bin .eql (.tmp 48) (.cst (.int .i64 2)), none, [], []⟩,
   ⟨some 57, .mv (.tmp 58), none, [], []⟩])
  (.ghost (.kill [49, 58])))
  (.cond (.tmp 57) (.seq (.region false [
    ⟨some 59, .mv (.tmp 9), none, [], []⟩,
    ⟨some 60, .mv (.tmp 0), none, [], []⟩,
    ⟨some 61, .nilck (.tmp 60), none, [], []⟩,
    ⟨some 62, .faddr 1 (.tmp 61), none, [], []⟩,
    ⟨some 63, .load false 1 (.tmp 62), none, [], []⟩,
    ⟨some 64, .callv true (.tmp 59) [(.tmp 63)], none, [], []⟩,
    ⟨none, .store 3 (.tmp 6) (.tmp 64), none, [], []⟩,
    ⟨some 7, .mv (.cst (.bool true)), none, [], []⟩])
   .ret)
  (.seq (.seq (.region false [
    ⟨some 66, .bin .eql (.tmp 48) (.cst (.int .i64 4)), none, [], []⟩,
    ⟨some 65, .mv (.tmp 66), none, [], []⟩])
   (.ghost (.kill [9, 48, 57, 66])))
   (.cond (.tmp 65) (.seq (.seq (.seq (.region false [
     ⟨some 67, .mv (.tmp 8), none, [], []⟩,
     ⟨some 68, .eqnil false .sl (.tmp 67), none, [], []⟩])
    (.ghost (.kill [0, 1, 65, 67])))
    (.cond (.tmp 68) (.seq (.region false [
      ⟨some 69, .build [(.int .i64 0), (.int .i64 0), (.str ⟨#[]⟩)] [], none, [], []⟩,
      ⟨none, .store 3 (.tmp 6) (.tmp 69), none, [], []⟩,
      ⟨some 7, .mv (.cst (.bool true)), none, [], []⟩])
     .ret)
    .skip))
    (.seq (.region false [
     ⟨some 70, .mv (.tmp 8), none, [], []⟩,
     ⟨some 71, .faddr 1 (.tmp 5), none, [], []⟩,
     ⟨some 72, .load false 1 (.tmp 71), none, [], []⟩,
     ⟨some 73, .iaddr 3 (.tmp 70) (.tmp 72), none, [], []⟩,
     ⟨some 74, .load true 3 (.tmp 73), none, [], []⟩,
     ⟨none, .store 3 (.tmp 6) (.tmp 74), none, [], []⟩,
     ⟨some 7, .mv (.cst (.bool true)), none, [], []⟩])
    .ret))
   .skip)))))))
 (.ghost (.kill [8, 65]))))
 (.seq (.seq (.seq (.region false [
 ⟨some 75, .mv (.tmp 1), none, [], []⟩,
 ⟨some 76, .faddr 1 (.tmp 5), none, [], []⟩,
 ⟨some 77, .load false 1 (.tmp 76), none, [], []⟩,
 ⟨some 78, .iaddr 3 (.tmp 75) (.tmp 77), none, [], []⟩,
 ⟨some 79, .load true 3 (.tmp 78), none, [], []⟩,
 ⟨some 10, .alloc [(.int .i64 0), (.int .i64 0), (.str ⟨#[]⟩)], none, [], []⟩,
 ⟨none, .store 3 (.tmp 10) (.tmp 79), none, [], []⟩])
 (.ghost (.kill [1, 5, 75, 76, 77, 78, 79])))
 (.seq (.seq (.region false [
 ⟨some 80, .faddr 0 (.tmp 10), none, [], []⟩,
 ⟨some 81, .load false 1 (.tmp 80), none, [], []⟩,
 ⟨some 82, .bin .eql (.tmp 81) (.cst (.int .i64 2)), none, [], []⟩])
 (.ghost (.kill [80, 81])))
 (.seq (.cond (.tmp 82) (.seq (.seq (.seq (.region false [
   ⟨some 83, .faddr 1 (.tmp 10), none, [], []⟩,
   ⟨some 84, .load false 1 (.tmp 83), none, [], []⟩,
   ⟨some 85, .bin .gtr (.tmp 84) (.cst (.int .i64 8000000000000000000)), none, [], []⟩,
   ⟨some 86, .mv (.tmp 85), none, [], []⟩,
   ⟨some 87, .faddr 1 (.tmp 10), (some ((some 86), false)), [], []⟩,
   ⟨some 88, .load false 1 (.tmp 87), (some ((some 86), false)), [], []⟩,
   ⟨some 89, .bin .lss (.tmp 88) (.cst (.int .i64 (-8000000000000000000))), (some ((some 86), false)), [], []⟩,
   ⟨some 90, .pick (.tmp 86) (.cst (.bool true)) (.tmp 89), none, [], []⟩])
  (.ghost (.kill [82, 83, 84, 85, 86, 87, 88, 89])))
  (.cond (.tmp 90) (.seq (.region false [
    ⟨some 91, .build [(.int .i64 0), (.int .i64 0), (.str ⟨#[]⟩)] [], none, [], []⟩,
    ⟨none, .store 3 (.tmp 6) (.tmp 91), none, [], []⟩,
    ⟨some 7, .mv (.cst (.bool false)), none, [], []⟩])
   .ret)
  .skip))
  (.seq (.seq (.region false [
   ⟨some 92, .mv (.tmp 0), none, [], []⟩,
   ⟨some 93, .nilck (.tmp 92), none, [], []⟩,
   ⟨some 94, .faddr 3 (.tmp 93), none, [], []⟩,
   ⟨some 95, .faddr 0 (.tmp 94), none, [], []⟩,
   ⟨none, .store 1 (.tmp 95) (.cst (.int .i64 2)), none, [], []⟩])
  (.ghost (.kill [90, 92, 93, 94, 95])))
  (.seq (.region true [
   ⟨some 96, .mv (.tmp 0), none, [], [0]⟩,
   ⟨some 97, .nilck (.tmp 96), none, [0], [96]⟩,
   ⟨some 98, .faddr 3 (.tmp 97), none, [1], [97]⟩,
   ⟨some 99, .faddr 1 (.tmp 98), none, [2], [98]⟩,
   ⟨some 100, .load false 1 (.tmp 99), none, [3], [99]⟩,
   ⟨some 101, .faddr 1 (.tmp 10), none, [], [10]⟩,
   ⟨some 102, .load false 1 (.tmp 101), none, [5], [101]⟩,
   ⟨some 103, .bin .add (.tmp 100) (.tmp 102), none, [4, 6], [100, 102]⟩,
   ⟨some 104, .nilck (.tmp 96), none, [0, 0, 1, 2, 3, 4, 5, 6, 7], [96]⟩,
   ⟨some 105, .faddr 3 (.tmp 104), none, [8, 0, 1, 2, 3, 4, 5, 6, 7], [104]⟩,
   ⟨some 106, .faddr 1 (.tmp 105), none, [9, 0, 1, 2, 3, 4, 5, 6, 7], [105]⟩,
   ⟨none, .store 1 (.tmp 106) (.tmp 103), none, [10, 7, 0, 1, 2, 3, 4, 5, 6, 7], [106, 103]⟩])
  (.ghost (.kill [10, 96, 97, 98, 99, 100, 101, 102, 103, 104, 105, 106])))))
 .skip)
 (.ghost (.kill [10, 82])))))
 X25.c0))))
def X25.main : ACode := (.seq (.seq (.region false [
 ⟨some 5, .box 4 (.tmp 2), none, [], []⟩,
 ⟨some 6, .alloc [(.int .i64 0), (.int .i64 0), (.str ⟨#[]⟩)], none, [], []⟩,
 ⟨some 7, .mv (.cst (.bool false)), none, [], []⟩])
 (.ghost (.kill [2, 7])))
 (.seq (.seq (.region false [
 ⟨some 11, .mv (.tmp 0), none, [], []⟩,
 ⟨some 12, .nilck (.tmp 11), none, [], []⟩,
 ⟨some 13, .faddr 2 (.tmp 12), none, [], []⟩,
 ⟨some 14, .load false 1 (.tmp 13), none, [], []⟩,
 ⟨some 8, .mv (.tmp 14), none, [], []⟩])
 (.ghost (.kill [11, 12, 13, 14])))
 (.seq (.seq (.region false [
 ⟨some 15, .mv (.tmp 0), none, [], []⟩,
 ⟨some 16, .nilck (.tmp 15), none, [], []⟩,
 ⟨some 17, .faddr 0 (.tmp 16), none, [], []⟩,
 ⟨some 18, .load false 1 (.tmp 17), none, [], []⟩,
 ⟨some 19, .bin .add (.tmp 18) (.cst (.int .i64 1)), none, [], []⟩,
 ⟨some 20, .nilck (.tmp 15), none, [], []⟩,
 ⟨some 21, .faddr 0 (.tmp 20), none, [], []⟩,
 ⟨none, .store 1 (.tmp 21) (.tmp 19), none, [], []⟩])
 (.ghost (.kill [15, 16, 17, 18, 19, 20, 21])))
 (.seq (.seq (.seq (.region true [
 ⟨some 22, .mv (.tmp 8), none, [], [8]⟩,
 ⟨some 23, .eqnil false .sl (.tmp 22), none, [0], [22]⟩,
 ⟨some 24, .mv (.tmp 23), none, [1], [23]⟩,
 ⟨some 25, .mv (.tmp 8), (some ((some 24), false)), [2], [8]⟩,
 ⟨some 26, .faddr 3 (.tmp 5), (some ((some 24), false)), [2], [5]⟩,
 ⟨some 27, .load false 1 (.tmp 26), (some ((some 24), false)), [4, 2], [26]⟩,
 ⟨some 28, .call true i_X37 [(.tmp 25), (.tmp 27)], (some ((some 24), false)), [3, 5, 2, 2], [25, 27]⟩,
 ⟨some 29, .mv (.tmp 1), (some ((some 24), false)), [2], [1]⟩,
 ⟨some 30, .faddr 3 (.tmp 5), (some ((some 24), false)), [2], [5]⟩,
 ⟨some 31, .load false 1 (.tmp 30), (some ((some 24), false)), [8, 2], [30]⟩,
 ⟨some 32, .call true i_X37 [(.tmp 29), (.tmp 31)], (some ((some 24), false)), [7, 9, 6, 2], [29, 31]⟩,
 ⟨some 33, .call true i_X23 [(.tmp 28), (.tmp 32)], (some ((some 24), false)), [6, 10, 10, 2], [28, 32]⟩,
 ⟨some 34, .un .not (.tmp 33), (some ((some 24), false)), [11, 2], [33]⟩,
 ⟨some 35, .pick (.tmp 24) (.cst (.bool true)) (.tmp 34), none, [2, 12], [24, 34]⟩])
 (.ghost (.kill [22, 23, 24, 25, 26, 27, 28, 29, 30, 31, 32, 33, 34])))
 (.seq (.cond (.tmp 35) (.seq (.region false [
   ⟨some 36, .mv (.tmp 0), none, [], []⟩,
   ⟨some 37, .mv (.tmp 0), none, [], []⟩,
   ⟨some 38, .nilck (.tmp 37), none, [], []⟩,
   ⟨some 39, .faddr 0 (.tmp 38), none, [], []⟩,
   ⟨some 40, .load false 1 (.tmp 39), none, [], []⟩,
   ⟨some 41, .nilck (.tmp 36), none, [], []⟩,
   ⟨some 42, .faddr 1 (.tmp 41), none, [], []⟩,
   ⟨none, .store 1 (.tmp 42) (.tmp 40), none, [], []⟩])
  (.ghost (.kill [35, 36, 37, 38, 39, 40, 41, 42])))
 .skip)
 (.ghost (.kill [35]))))
 X25.c1))))
def X25 : AFunc := ⟨125, [.cell 6 true 3, .tmp 7], X25.main, true⟩
def X22.main : ACode := (.seq (.seq (.region false [
 ⟨some 2, .mv (.cst .nils), none, [], []⟩])
 (.ghost (.kill [2])))
 (.seq (.seq (.seq (.region false [
 ⟨some 3, .mv (.tmp 0), none, [], []⟩,
 ⟨some 4, .eqnil false .sl (.tmp 3), none, [], []⟩])
 (.ghost (.kill [3])))
 (.cond (.tmp 4) (.seq (.region false [
   ⟨some 2, .mv (.cst .nils), none, [], []⟩])
  .ret)
 .skip))
 (.seq (.region false [
 ⟨some 5, .bslice 3 0 [(.int .i64 0), (.int .i64 0), (.str ⟨#[]⟩)] [], none, [], []⟩,
 ⟨some 6, .mv (.tmp 0), none, [], []⟩,
 ⟨some 7, .append 3 32 (.tmp 5) (.tmp 6), none, [], []⟩,
 ⟨some 2, .mv (.tmp 7), none, [], []⟩])
 .ret)))
def X22 : AFunc := ⟨8, [.tmp 2], X22.main, false⟩
def X30.c0 : ACode := (.seq (.region false [
 ⟨some 26, .mv (.tmp 0), none, [], []⟩,
 ⟨some 4, .mv (.tmp 26), none, [], []⟩])
 .ret)
def X30.c1 : ACode := (.seq (.seq (.seq (.region false [
 ⟨some 8, .mv (.tmp 1), none, [], []⟩,
 ⟨some 9, .mv (.tmp 0), none, [], []⟩,
 ⟨some 10, .cap (.tmp 9), none, [], []⟩,
 ⟨some 11, .mv (.tmp 0), none, [], []⟩,
 ⟨some 12, .len .sl (.tmp 11), none, [], []⟩,
 ⟨some 13, .bin .sub (.tmp 10) (.tmp 12), none, [], []⟩,
 ⟨some 14, .bin .sub (.tmp 8) (.tmp 13), none, [], []⟩,
 ⟨some 1, .mv (.tmp 14), none, [], []⟩])
 (.ghost (.kill [8, 9, 10, 11, 12, 13, 14])))
 (.seq (.seq (.region false [
 ⟨some 15, .mv (.tmp 1), none, [], []⟩,
 ⟨some 16, .bin .gtr (.tmp 15) (.cst (.int .i64 0)), none, [], []⟩])
 (.ghost (.kill [15])))
 (.seq (.cond (.tmp 16) (.seq (.region false [
   ⟨some 17, .mv (.tmp 0), none, [], []⟩,
   ⟨some 18, .mv (.tmp 0), none, [], []⟩,
   ⟨some 19, .cap (.tmp 18), none, [], []⟩,
   ⟨some 20, .slice 1 (.tmp 17) none (some (.tmp 19)) none, none, [], []⟩,
   ⟨some 21, .mv (.tmp 1), none, [], []⟩,
   ⟨some 22, .appendz 1 8 [(.int .i64 0)] (.tmp 20) (.tmp 21), none, [], []⟩,
   ⟨some 23, .mv (.tmp 0), none, [], []⟩,
   ⟨some 24, .len .sl (.tmp 23), none, [], []⟩,
   ⟨some 25, .slice 1 (.tmp 22) none (some (.tmp 24)) none, none, [], []⟩,
   ⟨some 0, .mv (.tmp 25), none, [], []⟩])
  (.ghost (.kill [1, 16, 17, 18, 19, 20, 21, 22, 23, 24, 25])))
 .skip)
 (.ghost (.kill [1, 16])))))
 X30.c0)
def X30.main : ACode := (.seq (.seq (.region false [
 ⟨some 4, .mv (.cst .nils), none, [], []⟩])
 (.ghost (.kill [4])))
 (.seq (.seq (.seq (.region false [
 ⟨some 5, .mv (.tmp 1), none, [], []⟩,
 ⟨some 6, .bin .lss (.tmp 5) (.cst (.int .i64 0)), none, [], []⟩])
 (.ghost (.kill [5])))
 (.seq (.cond (.tmp 6) (.seq (.region false [
   ⟨some 7, .mkif 9 (.cst (.str ⟨#[99, 97, 110, 110, 111, 116, 32, 98, 101, 32, 110, 101, 103, 97, 116, 105, 118, 101]⟩)), none, [], []⟩,
   ⟨none, .unsup, none, [], []⟩])
  (.ghost (.kill [6, 7])))
 .skip)
 (.ghost (.kill [6]))))
 X30.c1))
def X30 : AFunc := ⟨27, [.tmp 4], X30.main, false⟩
def X15.c0 : ACode := (.seq (.region false [
 ⟨some 4, .mv (.cst (.int .i64 (-1))), none, [], []⟩])
 .ret)
def X15.c1 : ACode := (.ghost (.kill [0, 1, 7, 8, 9]))
def X15.b0 : ACode := (.seq (.region false [
 ⟨some 9, .bin .lss (.tmp 8) (.tmp 7), none, [], []⟩])
 (.seq (.cond (.tmp 9) .skip
 (.exit 0))
 (.seq (.seq (.block 1 (.seq (.seq (.region false [
 ⟨some 10, .mv (.tmp 8), none, [], []⟩,
 ⟨some 5, .mv (.tmp 10), none, [], []⟩])
 (.ghost (.kill [9, 10])))
 (.seq (.seq (.region false [
 ⟨some 11, .mv (.tmp 1), none, [], []⟩,
 ⟨some 12, .mv (.tmp 0), none, [], []⟩,
 ⟨some 13, .mv (.tmp 5), none, [], []⟩,
 ⟨some 14, .iaddr 1 (.tmp 12) (.tmp 13), none, [], []⟩,
 ⟨some 15, .load false 1 (.tmp 14), none, [], []⟩,
 ⟨some 16, .callv true (.tmp 11) [(.tmp 15)], none, [], []⟩])
 (.ghost (.kill [11, 12, 13, 14, 15])))
 (.cond (.tmp 16) (.seq (.region false [
   ⟨some 17, .mv (.tmp 5), none, [], []⟩,
   ⟨some 4, .mv (.tmp 17), none, [], []⟩])
  .ret)
 .skip))))
 (.ghost (.kill [5, 16])))
 (.seq (.region false [
 ⟨some 18, .bin .add (.tmp 8) (.cst (.int .i64 1)), none, [], []⟩,
 ⟨some 8, .mv (.tmp 18), none, [], []⟩])
 (.ghost (.kill [18]))))))
def X15.main : ACode := (.seq (.seq (.region false [
 ⟨some 4, .mv (.cst (.int .i64 0)), none, [], []⟩])
 (.ghost (.kill [4])))
 (.seq (.seq (.seq (.region false [
 ⟨some 6, .mv (.tmp 0), none, [], []⟩,
 ⟨some 7, .len .sl (.tmp 6), none, [], []⟩,
 ⟨some 8, .mv (.cst (.int .i64 0)), none, [], []⟩])
 (.ghost (.kill [6])))
 (.seq (.block 0 (.loop X15.b0))
 X15.c1))
 X15.c0))
def X15.k0 : List Item := [.inBlock 0, .code X15.c1, .code X15.c0]
def X15 : AFunc := ⟨19, [.tmp 4], X15.main, false⟩
def X23.c0 : ACode := (.seq (.region false [
 ⟨some 4, .mv (.cst (.bool true)), none, [], []⟩])
 .ret)
def X23.c1 : ACode := (.ghost (.kill [0, 1, 12, 13, 14]))
def X23.b0 : ACode := (.seq (.region false [
 ⟨some 14, .bin .lss (.tmp 13) (.tmp 12), none, [], []⟩])
 (.seq (.cond (.tmp 14) .skip
 (.exit 0))
 (.seq (.seq (.block 1 (.seq (.seq (.region false [
 ⟨some 15, .mv (.tmp 13), none, [], []⟩,
 ⟨some 5, .mv (.tmp 15), none, [], []⟩])
 (.ghost (.kill [14, 15])))
 (.seq (.seq (.region true [
 ⟨some 16, .mv (.tmp 0), none, [], [0]⟩,
 ⟨some 17, .mv (.tmp 5), none, [], [5]⟩,
 ⟨some 18, .iaddr 3 (.tmp 16) (.tmp 17), none, [0, 1], [16, 17]⟩,
 ⟨some 19, .load true 3 (.tmp 18), none, [2], [18]⟩,
 ⟨some 20, .mv (.tmp 1), none, [], [1]⟩,
 ⟨some 21, .mv (.tmp 5), none, [], [5]⟩,
 ⟨some 22, .iaddr 3 (.tmp 20) (.tmp 21), none, [4, 5], [20, 21]⟩,
 ⟨some 23, .load true 3 (.tmp 22), none, [6], [22]⟩,
 ⟨some 24, .eqs true (.row [(0, 1, false, (.int .i64)), (1, 1, false, (.int .i64)), (2, 1, false, .str)]) (.tmp 19) (.tmp 23), none, [3, 7], [19, 23]⟩])
 (.ghost (.kill [5, 16, 17, 18, 19, 20, 21, 22, 23])))
 (.cond (.tmp 24) (.seq (.region false [
   ⟨some 4, .mv (.cst (.bool false)), none, [], []⟩])
  .ret)
 .skip))))
 (.ghost (.kill [24])))
 (.seq (.region false [
 ⟨some 25, .bin .add (.tmp 13) (.cst (.int .i64 1)), none, [], []⟩,
 ⟨some 13, .mv (.tmp 25), none, [], []⟩])
 (.ghost (.kill [25]))))))
def X23.main : ACode := (.seq (.seq (.region false [
 ⟨some 4, .mv (.cst (.bool false)), none, [], []⟩])
 (.ghost (.kill [4])))
 (.seq (.seq (.seq (.region false [
 ⟨some 6, .mv (.tmp 0), none, [], []⟩,
 ⟨some 7, .len .sl (.tmp 6), none, [], []⟩,
 ⟨some 8, .mv (.tmp 1), none, [], []⟩,
 ⟨some 9, .len .sl (.tmp 8), none, [], []⟩,
 ⟨some 10, .bin .neq (.tmp 7) (.tmp 9), none, [], []⟩])
 (.ghost (.kill [6, 7, 8, 9])))
 (.cond (.tmp 10) (.seq (.region false [
   ⟨some 4, .mv (.cst (.bool false)), none, [], []⟩])
  .ret)
 .skip))
 (.seq (.seq (.seq (.region false [
 ⟨some 11, .mv (.tmp 0), none, [], []⟩,
 ⟨some 12, .len .sl (.tmp 11), none, [], []⟩,
 ⟨some 13, .mv (.cst (.int .i64 0)), none, [], []⟩])
 (.ghost (.kill [10, 11])))
 (.seq (.block 0 (.loop X23.b0))
 X23.c1))
 X23.c0)))
def X23.k0 : List Item := [.inBlock 0, .code X23.c1, .code X23.c0]
def X23 : AFunc := ⟨26, [.tmp 4], X23.main, false⟩
def X37.c0 : ACode := (.seq (.region false [
 ⟨some 26, .mv (.tmp 5), none, [], []⟩,
 ⟨some 4, .mv (.tmp 26), none, [], []⟩])
 .ret)
def X37.c1 : ACode := (.ghost (.kill [0, 11, 12, 13, 14]))
def X37.b0 : ACode := (.seq (.region false [
 ⟨some 14, .bin .lss (.tmp 13) (.tmp 12), none, [], []⟩])
 (.seq (.cond (.tmp 14) .skip
 (.exit 0))
 (.seq (.block 1 (.seq (.seq (.region false [
 ⟨some 15, .mv (.tmp 13), none, [], []⟩,
 ⟨some 16, .iaddr 1 (.tmp 11) (.tmp 13), none, [], []⟩,
 ⟨some 17, .load false 1 (.tmp 16), none, [], []⟩,
 ⟨some 6, .mv (.tmp 15), none, [], []⟩,
 ⟨some 7, .mv (.tmp 17), none, [], []⟩])
 (.ghost (.kill [14, 15, 16, 17])))
 (.seq (.region false [
 ⟨some 18, .mv (.tmp 5), none, [], []⟩,
 ⟨some 19, .mv (.tmp 6), none, [], []⟩,
 ⟨some 20, .mv (.tmp 0), none, [], []⟩,
 ⟨some 21, .mv (.tmp 7), none, [], []⟩,
 ⟨some 22, .iaddr 3 (.tmp 20) (.tmp 21), none, [], []⟩,
 ⟨some 23, .load true 3 (.tmp 22), none, [], []⟩,
 ⟨some 24, .iaddr 3 (.tmp 18) (.tmp 19), none, [], []⟩,
 ⟨none, .store 3 (.tmp 24) (.tmp 23), none, [], []⟩])
 (.ghost (.kill [6, 7, 18, 19, 20, 21, 22, 23, 24])))))
 (.seq (.region false [
 ⟨some 25, .bin .add (.tmp 13) (.cst (.int .i64 1)), none, [], []⟩,
 ⟨some 13, .mv (.tmp 25), none, [], []⟩])
 (.ghost (.kill [25]))))))
def X37.main : ACode := (.seq (.seq (.region false [
 ⟨some 4, .mv (.cst .nils), none, [], []⟩])
 (.ghost (.kill [4])))
 (.seq (.seq (.region false [
 ⟨some 8, .mv (.tmp 1), none, [], []⟩,
 ⟨some 9, .len .sl (.tmp 8), none, [], []⟩,
 ⟨some 10, .mkslice 3 32 [(.int .i64 0), (.int .i64 0), (.str ⟨#[]⟩)] (.tmp 9) (.tmp 9), none, [], []⟩,
 ⟨some 5, .mv (.tmp 10), none, [], []⟩])
 (.ghost (.kill [8, 9, 10])))
 (.seq (.seq (.seq (.region false [
 ⟨some 11, .mv (.tmp 1), none, [], []⟩,
 ⟨some 12, .len .sl (.tmp 11), none, [], []⟩,
 ⟨some 13, .mv (.cst (.int .i64 0)), none, [], []⟩])
 (.ghost (.kill [1])))
 (.seq (.block 0 (.loop X37.b0))
 X37.c1))
 X37.c0)))
def X37.k0 : List Item := [.inBlock 0, .code X37.c1, .code X37.c0]
def X37 : AFunc := ⟨27, [.tmp 4], X37.main, false⟩
def X20.main : ACode := (.seq (.seq (.region false [
 ⟨some 5, .mv (.tmp 0), none, [], []⟩,
 ⟨some 6, .len .sl (.tmp 5), none, [], []⟩,
 ⟨some 4, .mv (.tmp 6), none, [], []⟩])
 (.ghost (.kill [5, 6])))
 (.seq (.region false [
 ⟨some 7, .mv (.tmp 0), none, [], []⟩,
 ⟨some 8, .mv (.tmp 4), none, [], []⟩,
 ⟨some 9, .mv (.tmp 4), none, [], []⟩,
 ⟨some 10, .conv .u64 (.tmp 9), none, [], []⟩,
 ⟨some 11, .call true i_X63 [(.tmp 10)], none, [], []⟩,
 ⟨some 12, .mv (.tmp 1), none, [], []⟩,
 ⟨some 13, .call false i_X10 [(.tmp 7), (.cst (.int .i64 0)), (.tmp 8), (.tmp 11), (.tmp 12)], none, [], []⟩])
 (.ghost (.kill [0, 1, 4, 7, 8, 9, 10, 11, 12, 13]))))
def X20 : AFunc := ⟨14, [], X20.main, false⟩
def X32.main : ACode := (.seq (.seq (.region false [
 ⟨some 6, .mv (.cst (.int .i64 0)), none, [], []⟩])
 (.ghost (.kill [6])))
 (.seq (.region true [
 ⟨some 7, .load false 1 (.tmp 2), none, [], [2]⟩,
 ⟨some 8, .mv (.tmp 0), none, [], [0]⟩,
 ⟨some 9, .iaddr 1 (.tmp 7) (.tmp 8), none, [0, 1], [7, 8]⟩,
 ⟨some 10, .load false 1 (.tmp 9), none, [2], [9]⟩,
 ⟨some 11, .load false 1 (.tmp 3), none, [], [3]⟩,
 ⟨some 12, .call true i_X37 [(.tmp 10), (.tmp 11)], none, [3, 4], [10, 11]⟩,
 ⟨some 13, .load false 1 (.tmp 2), none, [], [2]⟩,
 ⟨some 14, .mv (.tmp 1), none, [], [1]⟩,
 ⟨some 15, .iaddr 1 (.tmp 13) (.tmp 14), none, [6, 7], [13, 14]⟩,
 ⟨some 16, .load false 1 (.tmp 15), none, [8], [15]⟩,
 ⟨some 17, .load false 1 (.tmp 3), none, [], [3]⟩,
 ⟨some 18, .call true i_X37 [(.tmp 16), (.tmp 17)], none, [9, 10, 5], [16, 17]⟩,
 ⟨some 19, .call true i_X39 [(.tmp 12), (.tmp 18)], none, [5, 11, 11], [12, 18]⟩,
 ⟨some 20, .load false 1 (.tmp 2), none, [], [2]⟩,
 ⟨some 21, .mv (.tmp 0), none, [], [0]⟩,
 ⟨some 22, .iaddr 1 (.tmp 20) (.tmp 21), none, [13, 14], [20, 21]⟩,
 ⟨some 23, .load false 1 (.tmp 22), none, [15], [22]⟩,
 ⟨some 24, .load false 1 (.tmp 2), none, [], [2]⟩,
 ⟨some 25, .mv (.tmp 1), none, [], [1]⟩,
 ⟨some 26, .iaddr 1 (.tmp 24) (.tmp 25), none, [17, 18], [24, 25]⟩,
 ⟨some 27, .load false 1 (.tmp 26), none, [19], [26]⟩,
 ⟨some 28, .call true i_X39 [(.tmp 23), (.tmp 27)], none, [16, 20, 12], [23, 27]⟩,
 ⟨some 29, .mv (.tmp 0), none, [], [0]⟩,
 ⟨some 30, .mv (.tmp 1), none, [], [1]⟩,
 ⟨some 31, .call true i_X29 [(.tmp 29), (.tmp 30)], none, [22, 23, 21], [29, 30]⟩,
 ⟨some 32, .flist 1 3 [(.int .i64 0)] [(0, (.tmp 19)), (1, (.tmp 28)), (2, (.tmp 31))], none, [12, 21, 24], [19, 28, 31]⟩,
 ⟨some 33, .call true i_X52 [(.tmp 32)], none, [25, 24], [32]⟩,
 ⟨some 6, .mv (.tmp 33), none, [26, 26, 0, 1, 2, 3, 4, 5, 6, 7, 8, 9, 10, 11, 12, 13, 14, 15, 16, 17, 18, 19, 20, 21, 22, 23, 24, 25, 26], [33]⟩])
 .ret))
def X32 : AFunc := ⟨34, [.tmp 6], X32.main, false⟩
def X52.c0 : ACode := (.seq (.region false [
 ⟨some 17, .mv (.tmp 3), none, [], []⟩,
 ⟨some 2, .mv (.tmp 17), none, [], []⟩])
 .ret)
def X52.b0 : ACode := (.seq (.region false [
 ⟨some 9, .bin .lss (.tmp 8) (.tmp 7), none, [], []⟩])
 (.seq (.cond (.tmp 9) .skip
 (.exit 0))
 (.seq (.seq (.block 1 (.seq (.seq (.region false [
 ⟨some 10, .iaddr 1 (.tmp 6) (.tmp 8), none, [], []⟩,
 ⟨some 11, .load false 1 (.tmp 10), none, [], []⟩,
 ⟨some 5, .mv (.tmp 11), none, [], []⟩])
 (.ghost (.kill [9, 10, 11])))
 (.seq (.seq (.region false [
 ⟨some 12, .mv (.tmp 5), none, [], []⟩,
 ⟨some 13, .mv (.tmp 3), none, [], []⟩,
 ⟨some 14, .bin .neq (.tmp 12) (.tmp 13), none, [], []⟩])
 (.ghost (.kill [12, 13])))
 (.cond (.tmp 14) (.seq (.region false [
   ⟨some 15, .mv (.tmp 5), none, [], []⟩,
   ⟨some 2, .mv (.tmp 15), none, [], []⟩])
  .ret)
 .skip))))
 (.ghost (.kill [5, 14])))
 (.seq (.region false [
 ⟨some 16, .bin .add (.tmp 8) (.cst (.int .i64 1)), none, [], []⟩,
 ⟨some 8, .mv (.tmp 16), none, [], []⟩])
 (.ghost (.kill [16]))))))
def X52.main : ACode := (.seq (.seq (.region false [
 ⟨some 2, .mv (.cst (.int .i64 0)), none, [], []⟩])
 (.ghost (.kill [2])))
 (.seq (.region false [
 ⟨some 3, .mv (.cst (.int .i64 0)), none, [], []⟩])
 (.seq (.seq (.seq (.region false [
 ⟨some 6, .mv (.tmp 0), none, [], []⟩,
 ⟨some 7, .len .sl (.tmp 6), none, [], []⟩,
 ⟨some 8, .mv (.cst (.int .i64 0)), none, [], []⟩])
 (.ghost (.kill [0])))
 (.seq (.block 0 (.loop X52.b0))
 (.ghost (.kill [6, 7, 8, 9]))))
 X52.c0)))
def X52.k0 : List Item := [.inBlock 0, .code (.ghost (.kill [6, 7, 8, 9])), .code X52.c0]
def X52 : AFunc := ⟨18, [.tmp 2], X52.main, false⟩
def X39.main : ACode := (.seq (.seq (.region false [
 ⟨some 4, .mv (.cst (.int .i64 0)), none, [], []⟩])
 (.ghost (.kill [4])))
 (.seq (.region false [
 ⟨some 5, .mv (.tmp 0), none, [], []⟩,
 ⟨some 6, .mv (.tmp 1), none, [], []⟩,
 ⟨some 7, .call true i_X12 [(.tmp 5), (.tmp 6), (.cst (.clo (.func i_X55) [] []))], none, [], []⟩,
 ⟨some 4, .mv (.tmp 7), none, [], []⟩])
 .ret))
def X39 : AFunc := ⟨8, [.tmp 4], X39.main, false⟩
def X29.main : ACode := (.seq (.seq (.region false [
 ⟨some 4, .mv (.cst (.int .i64 0)), none, [], []⟩])
 (.ghost (.kill [4])))
 (.seq (.seq (.region false [
 ⟨some 7, .mv (.tmp 0), none, [], []⟩,
 ⟨some 8, .call true i_X36 [(.tmp 7)], none, [], []⟩,
 ⟨some 5, .mv (.tmp 8), none, [], []⟩])
 (.ghost (.kill [7, 8])))
 (.seq (.seq (.region false [
 ⟨some 9, .mv (.tmp 1), none, [], []⟩,
 ⟨some 10, .call true i_X36 [(.tmp 9)], none, [], []⟩,
 ⟨some 6, .mv (.tmp 10), none, [], []⟩])
 (.ghost (.kill [9, 10])))
 (.seq (.seq (.seq (.region false [
 ⟨some 11, .mv (.tmp 5), none, [], []⟩])
 (.ghost (.kill [5])))
 (.cond (.tmp 11) (.seq (.seq (.seq (.region false [
   ⟨some 12, .mv (.tmp 6), none, [], []⟩])
  (.ghost (.kill [0, 1, 6, 11])))
  (.cond (.tmp 12) (.seq (.region false [
    ⟨some 4, .mv (.cst (.int .i64 0)), none, [], []⟩])
   .ret)
  .skip))
  (.seq (.region false [
   ⟨some 4, .mv (.cst (.int .i64 (-1))), none, [], []⟩])
  .ret))
 .skip))
 (.seq (.seq (.seq (.region false [
 ⟨some 13, .mv (.tmp 6), none, [], []⟩])
 (.ghost (.kill [6, 11])))
 (.cond (.tmp 13) (.seq (.region false [
   ⟨some 4, .mv (.cst (.int .i64 1)), none, [], []⟩])
  .ret)
 .skip))
 (.seq (.seq (.seq (.region false [
 ⟨some 14, .mv (.tmp 0), none, [], []⟩,
 ⟨some 15, .mv (.tmp 1), none, [], []⟩,
 ⟨some 16, .bin .lss (.tmp 14) (.tmp 15), none, [], []⟩])
 (.ghost (.kill [13, 14, 15])))
 (.cond (.tmp 16) (.seq (.region false [
   ⟨some 4, .mv (.cst (.int .i64 (-1))), none, [], []⟩])
  .ret)
 .skip))
 (.seq (.seq (.seq (.region false [
 ⟨some 17, .mv (.tmp 0), none, [], []⟩,
 ⟨some 18, .mv (.tmp 1), none, [], []⟩,
 ⟨some 19, .bin .gtr (.tmp 17) (.tmp 18), none, [], []⟩])
 (.ghost (.kill [0, 1, 16, 17, 18])))
 (.cond (.tmp 19) (.seq (.region false [
   ⟨some 4, .mv (.cst (.int .i64 1)), none, [], []⟩])
  .ret)
 .skip))
 (.seq (.region false [
 ⟨some 4, .mv (.cst (.int .i64 0)), none, [], []⟩])
 .ret))))))))
def X29 : AFunc := ⟨20, [.tmp 4], X29.main, false⟩
def X19.main : ACode := (.seq (.region false [
 ⟨some 2, .alloc [(.int .i64 0), (.int .i64 0), (.str ⟨#[]⟩)], none, [], []⟩])
 (.seq (.region false [
 ⟨some 3, .mv (.tmp 0), none, [], []⟩,
 ⟨some 4, .bin .mul (.tmp 3) (.cst (.int .i64 1000000)), none, [], []⟩,
 ⟨some 5, .build [(.int .i64 0), (.int .i64 0), (.str ⟨#[]⟩)] [(0, 1, (.cst (.int .i64 2))), (1, 1, (.tmp 4))], none, [], []⟩,
 ⟨none, .store 3 (.tmp 2) (.tmp 5), none, [], []⟩])
 .ret))
def X19 : AFunc := ⟨6, [.cell 2 true 3], X19.main, false⟩
def X10.c0 : ACode := (.seq (.seq (.seq (.region true [
 ⟨some 81, .mv (.tmp 1), none, [], [1]⟩,
 ⟨some 82, .bin .gtr (.tmp 81) (.cst (.int .i64 0)), none, [0], [81]⟩,
 ⟨some 83, .mv (.tmp 82), none, [1], [82]⟩,
 ⟨some 84, .mv (.tmp 4), (some ((some 83), true)), [2], [4]⟩,
 ⟨some 85, .mv (.tmp 0), (some ((some 83), true)), [2], [0]⟩,
 ⟨some 86, .mv (.tmp 1), (some ((some 83), true)), [2], [1]⟩,
 ⟨some 87, .bin .sub (.tmp 86) (.cst (.int .i64 1)), (some ((some 83), true)), [5, 2], [86]⟩,
 ⟨some 88, .iaddr 1 (.tmp 85) (.tmp 87), (some ((some 83), true)), [4, 6, 2], [85, 87]⟩,
 ⟨some 89, .load false 1 (.tmp 88), (some ((some 83), true)), [7, 2], [88]⟩,
 ⟨some 90, .mv (.tmp 0), (some ((some 83), true)), [2], [0]⟩,
 ⟨some 91, .mv (.tmp 13), (some ((some 83), true)), [2], [13]⟩,
 ⟨some 92, .iaddr 1 (.tmp 90) (.tmp 91), (some ((some 83), true)), [9, 10, 2], [90, 91]⟩,
 ⟨some 93, .load false 1 (.tmp 92), (some ((some 83), true)), [11, 2], [92]⟩,
 ⟨some 94, .callv true (.tmp 84) [(.tmp 89), (.tmp 93)], (some ((some 83), true)), [3, 8, 12, 2, 2], [84, 89, 93]⟩,
 ⟨some 95, .bin .lss (.tmp 94) (.cst (.int .i64 0)), (some ((some 83), true)), [13, 2], [94]⟩,
 ⟨some 96, .un .not (.tmp 95), (some ((some 83), true)), [14, 2], [95]⟩,
 ⟨some 97, .pick (.tmp 83) (.tmp 96) (.cst (.bool false)), none, [2, 15], [83, 96]⟩])
 (.ghost (.kill [81, 82, 83, 84, 85, 86, 87, 88, 89, 90, 91, 92, 93, 94, 95, 96])))
 (.cond (.tmp 97) (.seq (.seq (.region false [
   ⟨some 98, .mv (.tmp 0), none, [], []⟩,
   ⟨some 99, .mv (.tmp 1), none, [], []⟩,
   ⟨some 100, .mv (.tmp 2), none, [], []⟩,
   ⟨some 101, .mv (.tmp 13), none, [], []⟩,
   ⟨some 102, .mv (.tmp 4), none, [], []⟩,
   ⟨some 103, .call false i_X2 [(.tmp 98), (.tmp 99), (.tmp 100), (.tmp 101), (.tmp 102)], none, [], []⟩,
   ⟨some 15, .mv (.tmp 103), none, [], []⟩])
  (.ghost (.kill [1, 12, 13, 97, 98, 99, 100, 101, 102, 103])))
  (.seq (.seq (.region false [
   ⟨some 104, .mv (.tmp 15), none, [], []⟩,
   ⟨some 1, .mv (.tmp 104), none, [], []⟩])
  (.ghost (.kill [15, 104])))
  (.exit 1)))
 .skip))
 (.seq (.seq (.region false [
 ⟨some 106, .mv (.tmp 0), none, [], []⟩,
 ⟨some 107, .mv (.tmp 1), none, [], []⟩,
 ⟨some 108, .mv (.tmp 2), none, [], []⟩,
 ⟨some 109, .mv (.tmp 13), none, [], []⟩,
 ⟨some 110, .mv (.tmp 4), none, [], []⟩,
 ⟨some 111, .call false i_X7 [(.tmp 106), (.tmp 107), (.tmp 108), (.tmp 109), (.tmp 110)], none, [], []⟩,
 ⟨some 105, .mv (.tmp 111), none, [], []⟩,
 ⟨some 112, .extr (.tmp 105) 0, none, [], []⟩,
 ⟨some 113, .extr (.tmp 105) 1, none, [], []⟩,
 ⟨some 16, .mv (.tmp 112), none, [], []⟩,
 ⟨some 17, .mv (.tmp 113), none, [], []⟩])
 (.ghost (.kill [10, 11, 13, 97, 105, 106, 107, 108, 109, 110, 111, 112, 113])))
 (.seq (.seq (.region false [
 ⟨some 114, .mv (.tmp 17), none, [], []⟩,
 ⟨some 11, .mv (.tmp 114), none, [], []⟩])
 (.ghost (.kill [17, 114])))
 (.seq (.seq (.region false [
 ⟨some 115, .mv (.tmp 16), none, [], []⟩,
 ⟨some 116, .mv (.tmp 1), none, [], []⟩,
 ⟨some 117, .bin .sub (.tmp 115) (.tmp 116), none, [], []⟩,
 ⟨some 118, .mv (.tmp 2), none, [], []⟩,
 ⟨some 119, .mv (.tmp 16), none, [], []⟩,
 ⟨some 120, .bin .sub (.tmp 118) (.tmp 119), none, [], []⟩,
 ⟨some 18, .mv (.tmp 117), none, [], []⟩,
 ⟨some 19, .mv (.tmp 120), none, [], []⟩])
 (.ghost (.kill [115, 116, 117, 118, 119, 120])))
 (.seq (.seq (.region false [
 ⟨some 121, .mv (.tmp 12), none, [], []⟩,
 ⟨some 122, .bin .quo (.tmp 121) (.cst (.int .i64 8)), none, [], []⟩,
 ⟨some 20, .mv (.tmp 122), none, [], []⟩])
 (.ghost (.kill [12, 121, 122])))
 (.seq (.seq (.region false [
 ⟨some 123, .mv (.tmp 18), none, [], []⟩,
 ⟨some 124, .mv (.tmp 19), none, [], []⟩,
 ⟨some 125, .bin .lss (.tmp 123) (.tmp 124), none, [], []⟩])
 (.ghost (.kill [123, 124])))
 (.cond (.tmp 125) (.seq (.seq (.region false [
   ⟨some 126, .mv (.tmp 18), none, [], []⟩,
   ⟨some 127, .mv (.tmp 20), none, [], []⟩,
   ⟨some 128, .bin .geq (.tmp 126) (.tmp 127), none, [], []⟩,
   ⟨some 10, .mv (.tmp 128), none, [], []⟩])
  (.ghost (.kill [18, 19, 20, 125, 126, 127, 128])))
  (.seq (.seq (.region false [
   ⟨some 129, .mv (.tmp 0), none, [], []⟩,
   ⟨some 130, .mv (.tmp 1), none, [], []⟩,
   ⟨some 131, .mv (.tmp 16), none, [], []⟩,
   ⟨some 132, .mv (.tmp 3), none, [], []⟩,
   ⟨some 133, .mv (.tmp 4), none, [], []⟩,
   ⟨some 134, .call false i_X10 [(.tmp 129), (.tmp 130), (.tmp 131), (.tmp 132), (.tmp 133)], none, [], []⟩])
  (.ghost (.kill [1, 129, 130, 131, 132, 133, 134])))
  (.seq (.region false [
   ⟨some 135, .mv (.tmp 16), none, [], []⟩,
   ⟨some 136, .bin .add (.tmp 135) (.cst (.int .i64 1)), none, [], []⟩,
   ⟨some 1, .mv (.tmp 136), none, [], []⟩])
  (.ghost (.kill [16, 135, 136])))))
 (.seq (.seq (.region false [
   ⟨some 137, .mv (.tmp 19), none, [], []⟩,
   ⟨some 138, .mv (.tmp 20), none, [], []⟩,
   ⟨some 139, .bin .geq (.tmp 137) (.tmp 138), none, [], []⟩,
   ⟨some 10, .mv (.tmp 139), none, [], []⟩])
  (.ghost (.kill [18, 19, 20, 125, 137, 138, 139])))
  (.seq (.seq (.region false [
   ⟨some 140, .mv (.tmp 0), none, [], []⟩,
   ⟨some 141, .mv (.tmp 16), none, [], []⟩,
   ⟨some 142, .bin .add (.tmp 141) (.cst (.int .i64 1)), none, [], []⟩,
   ⟨some 143, .mv (.tmp 2), none, [], []⟩,
   ⟨some 144, .mv (.tmp 3), none, [], []⟩,
   ⟨some 145, .mv (.tmp 4), none, [], []⟩,
   ⟨some 146, .call false i_X10 [(.tmp 140), (.tmp 142), (.tmp 143), (.tmp 144), (.tmp 145)], none, [], []⟩])
  (.ghost (.kill [2, 140, 141, 142, 143, 144, 145, 146])))
  (.seq (.region false [
   ⟨some 147, .mv (.tmp 16), none, [], []⟩,
   ⟨some 2, .mv (.tmp 147), none, [], []⟩])
  (.ghost (.kill [16, 147]))))))))))))
def X10.c1 : ACode := (.seq (.seq (.seq (.region false [
 ⟨some 68, .mv (.tmp 10), none, [], []⟩,
 ⟨some 69, .mv (.tmp 68), none, [], []⟩,
 ⟨some 70, .mv (.tmp 11), (some ((some 69), true)), [], []⟩,
 ⟨some 71, .pick (.tmp 69) (.tmp 70) (.cst (.bool false)), none, [], []⟩,
 ⟨some 72, .mv (.tmp 71), none, [], []⟩,
 ⟨some 73, .mv (.tmp 14), (some ((some 72), true)), [], []⟩,
 ⟨some 74, .bin .eql (.tmp 73) (.cst (.int .i64 1)), (some ((some 72), true)), [], []⟩,
 ⟨some 75, .pick (.tmp 72) (.tmp 74) (.cst (.bool false)), none, [], []⟩])
 (.ghost (.kill [14, 68, 69, 70, 71, 72, 73, 74])))
 (.seq (.cond (.tmp 75) (.seq (.seq (.region false [
   ⟨some 76, .mv (.tmp 0), none, [], []⟩,
   ⟨some 77, .mv (.tmp 1), none, [], []⟩,
   ⟨some 78, .mv (.tmp 2), none, [], []⟩,
   ⟨some 79, .mv (.tmp 4), none, [], []⟩,
   ⟨some 80, .call false i_X0 [(.tmp 76), (.tmp 77), (.tmp 78), (.tmp 79)], none, [], []⟩])
  (.ghost (.kill [75, 76, 77, 78, 79])))
  (.cond (.tmp 80) .ret
  .skip))
 .skip)
 (.ghost (.kill [75, 80]))))
 X10.c0)
def X10.c2 : ACode := (.seq (.seq (.region false [
 ⟨some 48, .mv (.tmp 0), none, [], []⟩,
 ⟨some 49, .mv (.tmp 1), none, [], []⟩,
 ⟨some 50, .mv (.tmp 2), none, [], []⟩,
 ⟨some 51, .mv (.tmp 4), none, [], []⟩,
 ⟨some 52, .call false i_X6 [(.tmp 48), (.tmp 49), (.tmp 50), (.tmp 51)], none, [], []⟩,
 ⟨some 47, .mv (.tmp 52), none, [], []⟩,
 ⟨some 53, .extr (.tmp 47) 0, none, [], []⟩,
 ⟨some 54, .extr (.tmp 47) 1, none, [], []⟩,
 ⟨some 13, .mv (.tmp 53), none, [], []⟩,
 ⟨some 14, .mv (.tmp 54), none, [], []⟩])
 (.ghost (.kill [47, 48, 49, 50, 51, 52, 53, 54])))
 (.seq (.seq (.seq (.region false [
 ⟨some 55, .mv (.tmp 14), none, [], []⟩,
 ⟨some 56, .bin .eql (.tmp 55) (.cst (.int .i64 2)), none, [], []⟩])
 (.ghost (.kill [55])))
 (.seq (.cond (.tmp 56) (.seq (.seq (.region false [
   ⟨some 57, .mv (.tmp 0), none, [], []⟩,
   ⟨some 58, .mv (.tmp 1), none, [], []⟩,
   ⟨some 59, .mv (.tmp 2), none, [], []⟩,
   ⟨some 60, .mv (.tmp 4), none, [], []⟩,
   ⟨some 61, .call false i_X5 [(.tmp 57), (.tmp 58), (.tmp 59), (.tmp 60)], none, [], []⟩])
  (.ghost (.kill [14, 56, 57, 58, 59, 60, 61])))
  (.seq (.seq (.region false [
   ⟨some 62, .mv (.tmp 2), none, [], []⟩,
   ⟨some 63, .bin .sub (.tmp 62) (.cst (.int .i64 1)), none, [], []⟩,
   ⟨some 64, .mv (.tmp 13), none, [], []⟩,
   ⟨some 65, .mv (.tmp 1), none, [], []⟩,
   ⟨some 66, .bin .sub (.tmp 64) (.tmp 65), none, [], []⟩,
   ⟨some 67, .bin .sub (.tmp 63) (.tmp 66), none, [], []⟩,
   ⟨some 13, .mv (.tmp 67), none, [], []⟩])
  (.ghost (.kill [62, 63, 64, 65, 66, 67])))
  (.region false [
   ⟨some 14, .mv (.cst (.int .i64 1)), none, [], []⟩])))
 .skip)
 (.ghost (.kill [56]))))
 X10.c1))
def X10.b0 : ACode := (.block 1 (.seq (.seq (.region false [
 ⟨some 21, .mv (.tmp 2), none, [], []⟩,
 ⟨some 22, .mv (.tmp 1), none, [], []⟩,
 ⟨some 23, .bin .sub (.tmp 21) (.tmp 22), none, [], []⟩,
 ⟨some 12, .mv (.tmp 23), none, [], []⟩])
 (.ghost (.kill [21, 22, 23])))
 (.seq (.seq (.seq (.region false [
 ⟨some 24, .mv (.tmp 12), none, [], []⟩,
 ⟨some 25, .bin .leq (.tmp 24) (.cst (.int .i64 12)), none, [], []⟩])
 (.ghost (.kill [24])))
 (.cond (.tmp 25) (.seq (.region false [
   ⟨some 26, .mv (.tmp 0), none, [], []⟩,
   ⟨some 27, .mv (.tmp 1), none, [], []⟩,
   ⟨some 28, .mv (.tmp 2), none, [], []⟩,
   ⟨some 29, .mv (.tmp 4), none, [], []⟩,
   ⟨some 30, .call false i_X3 [(.tmp 26), (.tmp 27), (.tmp 28), (.tmp 29)], none, [], []⟩])
  .ret)
 .skip))
 (.seq (.seq (.seq (.region false [
 ⟨some 31, .mv (.tmp 3), none, [], []⟩,
 ⟨some 32, .bin .eql (.tmp 31) (.cst (.int .i64 0)), none, [], []⟩])
 (.ghost (.kill [25, 31])))
 (.cond (.tmp 32) (.seq (.region false [
   ⟨some 33, .mv (.tmp 0), none, [], []⟩,
   ⟨some 34, .mv (.tmp 1), none, [], []⟩,
   ⟨some 35, .mv (.tmp 2), none, [], []⟩,
   ⟨some 36, .mv (.tmp 4), none, [], []⟩,
   ⟨some 37, .call false i_X8 [(.tmp 33), (.tmp 34), (.tmp 35), (.tmp 36)], none, [], []⟩])
  .ret)
 .skip))
 (.seq (.seq (.seq (.region false [
 ⟨some 38, .mv (.tmp 10), none, [], []⟩,
 ⟨some 39, .un .not (.tmp 38), none, [], []⟩])
 (.ghost (.kill [32, 38])))
 (.seq (.cond (.tmp 39) (.seq (.seq (.region false [
   ⟨some 40, .mv (.tmp 0), none, [], []⟩,
   ⟨some 41, .mv (.tmp 1), none, [], []⟩,
   ⟨some 42, .mv (.tmp 2), none, [], []⟩,
   ⟨some 43, .mv (.tmp 4), none, [], []⟩,
   ⟨some 44, .call false i_X4 [(.tmp 40), (.tmp 41), (.tmp 42), (.tmp 43)], none, [], []⟩])
  (.ghost (.kill [39, 40, 41, 42, 43, 44])))
  (.seq (.region false [
   ⟨some 45, .mv (.tmp 3), none, [], []⟩,
   ⟨some 46, .bin .sub (.tmp 45) (.cst (.int .i64 1)), none, [], []⟩,
   ⟨some 3, .mv (.tmp 46), none, [], []⟩])
  (.ghost (.kill [45, 46]))))
 .skip)
 (.ghost (.kill [39]))))
 X10.c2)))))
def X10.main : ACode := (.seq (.region false [
 ⟨some 10, .mv (.cst (.bool true)), none, [], []⟩])
 (.seq (.region false [
 ⟨some 11, .mv (.cst (.bool true)), none, [], []⟩])
 (.block 0 (.loop X10.b0))))
def X10.k0 : List Item := [.inBlock 0]
def X10 : AFunc := ⟨148, [], X10.main, false⟩
def X63.main : ACode := (.seq (.seq (.region false [
 ⟨some 2, .mv (.cst (.int .i64 0)), none, [], []⟩])
 (.ghost (.kill [2])))
 (.seq (.cond (.cst (.bool false)) (.seq (.region false [
   ⟨some 3, .mv (.tmp 0), none, [], []⟩,
   ⟨some 4, .conv .u32 (.tmp 3), none, [], []⟩,
   ⟨some 5, .call true i_X50 [(.tmp 4)], none, [], []⟩,
   ⟨some 2, .mv (.tmp 5), none, [], []⟩])
  .ret)
 .skip)
 (.seq (.region false [
 ⟨some 6, .mv (.tmp 0), none, [], []⟩,
 ⟨some 7, .call true i_X49 [(.tmp 6)], none, [], []⟩,
 ⟨some 2, .mv (.tmp 7), none, [], []⟩])
 .ret)))
def X63 : AFunc := ⟨8, [.tmp 2], X63.main, false⟩
def X12.c0 : ACode := (.seq (.seq (.seq (.region false [
 ⟨some 34, .mv (.tmp 0), none, [], []⟩,
 ⟨some 35, .len .sl (.tmp 34), none, [], []⟩,
 ⟨some 36, .mv (.tmp 1), none, [], []⟩,
 ⟨some 37, .len .sl (.tmp 36), none, [], []⟩,
 ⟨some 38, .bin .lss (.tmp 35) (.tmp 37), none, [], []⟩])
 (.ghost (.kill [0, 1, 34, 35, 36, 37])))
 (.cond (.tmp 38) (.seq (.region false [
   ⟨some 6, .mv (.cst (.int .i64 (-1))), none, [], []⟩])
  .ret)
 .skip))
 (.seq (.region false [
 ⟨some 6, .mv (.cst (.int .i64 0)), none, [], []⟩])
 .ret))
def X12.c1 : ACode := (.ghost (.kill [2, 11, 12, 13, 14]))
def X12.b0 : ACode := (.seq (.region false [
 ⟨some 14, .bin .lss (.tmp 13) (.tmp 12), none, [], []⟩])
 (.seq (.cond (.tmp 14) .skip
 (.exit 0))
 (.seq (.trunc (.seq (.block 1 (.seq (.seq (.region false [
 ⟨some 15, .mv (.tmp 13), none, [], []⟩,
 ⟨some 16, .iaddr 3 (.tmp 11) (.tmp 13), none, [], []⟩,
 ⟨some 17, .load true 3 (.tmp 16), none, [], []⟩,
 ⟨some 8, .alloc [(.int .i64 0), (.int .i64 0), (.str ⟨#[]⟩)], none, [], []⟩,
 ⟨some 7, .mv (.tmp 15), none, [], []⟩,
 ⟨none, .store 3 (.tmp 8) (.tmp 17), none, [], []⟩])
 (.ghost (.kill [14, 15, 16, 17])))
 (.seq (.seq (.seq (.region false [
 ⟨some 18, .mv (.tmp 7), none, [], []⟩,
 ⟨some 19, .mv (.tmp 1), none, [], []⟩,
 ⟨some 20, .len .sl (.tmp 19), none, [], []⟩,
 ⟨some 21, .bin .geq (.tmp 18) (.tmp 20), none, [], []⟩])
 (.ghost (.kill [18, 19, 20])))
 (.cond (.tmp 21) (.seq (.region false [
   ⟨some 6, .mv (.cst (.int .i64 1)), none, [], []⟩])
  .ret)
 .skip))
 (.seq (.seq (.region false [
 ⟨some 22, .mv (.tmp 1), none, [], []⟩,
 ⟨some 23, .mv (.tmp 7), none, [], []⟩,
 ⟨some 24, .iaddr 3 (.tmp 22) (.tmp 23), none, [], []⟩,
 ⟨some 25, .load true 3 (.tmp 24), none, [], []⟩,
 ⟨some 9, .alloc [(.int .i64 0), (.int .i64 0), (.str ⟨#[]⟩)], none, [], []⟩,
 ⟨none, .store 3 (.tmp 9) (.tmp 25), none, [], []⟩])
 (.ghost (.kill [7, 21, 22, 23, 24, 25])))
 (.seq (.seq (.region false [
 ⟨some 26, .mv (.tmp 2), none, [], []⟩,
 ⟨some 27, .load true 3 (.tmp 8), none, [], []⟩,
 ⟨some 28, .load true 3 (.tmp 9), none, [], []⟩,
 ⟨some 29, .callv true (.tmp 26) [(.tmp 27), (.tmp 28)], none, [], []⟩,
 ⟨some 10, .mv (.tmp 29), none, [], []⟩])
 (.ghost (.kill [8, 9, 26, 27, 28, 29])))
 (.seq (.seq (.region false [
 ⟨some 30, .mv (.tmp 10), none, [], []⟩,
 ⟨some 31, .bin .neq (.tmp 30) (.cst (.int .i64 0)), none, [], []⟩])
 (.ghost (.kill [30])))
 (.cond (.tmp 31) (.seq (.region false [
   ⟨some 32, .mv (.tmp 10), none, [], []⟩,
   ⟨some 6, .mv (.tmp 32), none, [], []⟩])
  .ret)
 .skip)))))))
 (.ghost (.kill [10, 31]))))
 (.seq (.region false [
 ⟨some 33, .bin .add (.tmp 13) (.cst (.int .i64 1)), none, [], []⟩,
 ⟨some 13, .mv (.tmp 33), none, [], []⟩])
 (.ghost (.kill [33]))))))
def X12.main : ACode := (.seq (.seq (.region false [
 ⟨some 6, .mv (.cst (.int .i64 0)), none, [], []⟩])
 (.ghost (.kill [6])))
 (.seq (.seq (.region false [
 ⟨some 11, .mv (.tmp 0), none, [], []⟩,
 ⟨some 12, .len .sl (.tmp 11), none, [], []⟩,
 ⟨some 13, .mv (.cst (.int .i64 0)), none, [], []⟩])
 (.seq (.block 0 (.loop X12.b0))
 X12.c1))
 X12.c0))
def X12.k0 : List Item := [.inBlock 0, .code X12.c1, .code X12.c0]
def X12 : AFunc := ⟨39, [.tmp 6], X12.main, false⟩
def X55.main : ACode := (.seq (.seq (.region false [
 ⟨some 2, .box 3 (.tmp 0), none, [], []⟩,
 ⟨some 3, .box 3 (.tmp 1), none, [], []⟩,
 ⟨some 4, .mv (.cst (.int .i64 0)), none, [], []⟩])
 (.ghost (.kill [0, 1, 4])))
 (.seq (.region true [
 ⟨some 5, .faddr 0 (.tmp 2), none, [], [2]⟩,
 ⟨some 6, .load false 1 (.tmp 5), none, [0], [5]⟩,
 ⟨some 7, .faddr 0 (.tmp 3), none, [], [3]⟩,
 ⟨some 8, .load false 1 (.tmp 7), none, [2], [7]⟩,
 ⟨some 9, .call true i_X29 [(.tmp 6), (.tmp 8)], none, [1, 3], [6, 8]⟩,
 ⟨some 10, .faddr 1 (.tmp 2), none, [], [2]⟩,
 ⟨some 11, .load false 1 (.tmp 10), none, [5], [10]⟩,
 ⟨some 12, .faddr 1 (.tmp 3), none, [], [3]⟩,
 ⟨some 13, .load false 1 (.tmp 12), none, [7], [12]⟩,
 ⟨some 14, .call true i_X29 [(.tmp 11), (.tmp 13)], none, [6, 8, 4], [11, 13]⟩,
 ⟨some 15, .faddr 2 (.tmp 2), none, [], [2]⟩,
 ⟨some 16, .load false 1 (.tmp 15), none, [10], [15]⟩,
 ⟨some 17, .faddr 2 (.tmp 3), none, [], [3]⟩,
 ⟨some 18, .load false 1 (.tmp 17), none, [12], [17]⟩,
 ⟨some 19, .call true i_X21 [(.tmp 16), (.tmp 18)], none, [11, 13, 9], [16, 18]⟩,
 ⟨some 20, .flist 1 3 [(.int .i64 0)] [(0, (.tmp 9)), (1, (.tmp 14)), (2, (.tmp 19))], none, [4, 9, 14], [9, 14, 19]⟩,
 ⟨some 21, .call true i_X33 [(.tmp 20)], none, [15, 14], [20]⟩,
 ⟨some 4, .mv (.tmp 21), none, [16, 16, 0, 1, 2, 3, 4, 5, 6, 7, 8, 9, 10, 11, 12, 13, 14, 15, 16], [21]⟩])
 .ret))
def X55 : AFunc := ⟨22, [.tmp 4], X55.main, false⟩
def X36.main : ACode := (.seq (.seq (.region false [
 ⟨some 2, .mv (.cst (.bool false)), none, [], []⟩])
 (.ghost (.kill [2])))
 (.seq (.region false [
 ⟨some 3, .mv (.tmp 0), none, [], []⟩,
 ⟨some 4, .mv (.tmp 0), none, [], []⟩,
 ⟨some 5, .bin .neq (.tmp 3) (.tmp 4), none, [], []⟩,
 ⟨some 2, .mv (.tmp 5), none, [], []⟩])
 .ret))
def X36 : AFunc := ⟨6, [.tmp 2], X36.main, false⟩
def X3.c0 : ACode := (.ghost (.kill [0, 1, 2, 3, 8, 14]))
def X3.c1 : ACode := (.seq (.region false [
 ⟨some 15, .mv (.tmp 8), none, [], []⟩,
 ⟨some 16, .bin .add (.tmp 15) (.cst (.int .i64 1)), none, [], []⟩,
 ⟨some 8, .mv (.tmp 16), none, [], []⟩])
 (.ghost (.kill [15, 16])))
def X3.b1 : ACode := (.seq (.seq (.seq (.region true [
 ⟨some 18, .mv (.tmp 9), none, [], [9]⟩,
 ⟨some 19, .mv (.tmp 1), none, [], [1]⟩,
 ⟨some 20, .bin .gtr (.tmp 18) (.tmp 19), none, [0, 1], [18, 19]⟩,
 ⟨some 21, .mv (.tmp 20), none, [2], [20]⟩,
 ⟨some 22, .mv (.tmp 3), (some ((some 21), true)), [3], [3]⟩,
 ⟨some 23, .mv (.tmp 0), (some ((some 21), true)), [3], [0]⟩,
 ⟨some 24, .mv (.tmp 9), (some ((some 21), true)), [3], [9]⟩,
 ⟨some 25, .iaddr 1 (.tmp 23) (.tmp 24), (some ((some 21), true)), [5, 6, 3], [23, 24]⟩,
 ⟨some 26, .load false 1 (.tmp 25), (some ((some 21), true)), [7, 3], [25]⟩,
 ⟨some 27, .mv (.tmp 0), (some ((some 21), true)), [3], [0]⟩,
 ⟨some 28, .mv (.tmp 9), (some ((some 21), true)), [3], [9]⟩,
 ⟨some 29, .bin .sub (.tmp 28) (.cst (.int .i64 1)), (some ((some 21), true)), [10, 3], [28]⟩,
 ⟨some 30, .iaddr 1 (.tmp 27) (.tmp 29), (some ((some 21), true)), [9, 11, 3], [27, 29]⟩,
 ⟨some 31, .load false 1 (.tmp 30), (some ((some 21), true)), [12, 3], [30]⟩,
 ⟨some 32, .callv true (.tmp 22) [(.tmp 26), (.tmp 31)], (some ((some 21), true)), [4, 8, 13, 3, 3], [22, 26, 31]⟩,
 ⟨some 33, .bin .lss (.tmp 32) (.cst (.int .i64 0)), (some ((some 21), true)), [14, 3], [32]⟩,
 ⟨some 34, .pick (.tmp 21) (.tmp 33) (.cst (.bool false)), none, [3, 15], [21, 33]⟩])
 (.ghost (.kill [18, 19, 20, 21, 22, 23, 24, 25, 26, 27, 28, 29, 30, 31, 32, 33])))
 (.cond (.tmp 34) .skip
 (.exit 2)))
 (.seq (.block 3 (.seq (.region true [
 ⟨some 37, .mv (.tmp 0), none, [], [0]⟩,
 ⟨some 38, .mv (.tmp 9), none, [], [9]⟩,
 ⟨some 39, .mv (.tmp 0), none, [], [0]⟩,
 ⟨some 40, .mv (.tmp 9), none, [], [9]⟩,
 ⟨some 41, .bin .sub (.tmp 40) (.cst (.int .i64 1)), none, [3], [40]⟩,
 ⟨some 42, .mv (.tmp 0), none, [], [0]⟩,
 ⟨some 43, .mv (.tmp 9), none, [], [9]⟩,
 ⟨some 44, .bin .sub (.tmp 43) (.cst (.int .i64 1)), none, [6], [43]⟩,
 ⟨some 45, .iaddr 1 (.tmp 42) (.tmp 44), none, [5, 7], [42, 44]⟩,
 ⟨some 46, .load false 1 (.tmp 45), none, [8], [45]⟩,
 ⟨some 47, .mv (.tmp 0), none, [], [0]⟩,
 ⟨some 48, .mv (.tmp 9), none, [], [9]⟩,
 ⟨some 49, .iaddr 1 (.tmp 47) (.tmp 48), none, [10, 11], [47, 48]⟩,
 ⟨some 50, .load false 1 (.tmp 49), none, [12], [49]⟩,
 ⟨some 51, .iaddr 1 (.tmp 37) (.tmp 38), none, [0, 1, 0, 1, 5, 6, 7, 8, 9, 13], [37, 38]⟩,
 ⟨none, .store 1 (.tmp 51) (.tmp 46), none, [14, 9, 0, 1, 5, 6, 7, 8, 9, 13], [51, 46]⟩,
 ⟨some 52, .iaddr 1 (.tmp 39) (.tmp 41), none, [2, 4, 0, 1, 2, 3, 4, 5, 6, 7, 8, 9, 10, 11, 12, 13, 14, 15], [39, 41]⟩,
 ⟨none, .store 1 (.tmp 52) (.tmp 50), none, [16, 13, 15, 0, 1, 2, 3, 4, 5, 6, 7, 8, 9, 10, 11, 12, 13, 14, 15], [52, 50]⟩])
 (.ghost (.kill [34, 37, 38, 39, 40, 41, 42, 43, 44, 45, 46, 47, 48, 49, 50, 51, 52]))))
 (.seq (.region false [
 ⟨some 35, .mv (.tmp 9), none, [], []⟩,
 ⟨some 36, .bin .sub (.tmp 35) (.cst (.int .i64 1)), none, [], []⟩,
 ⟨some 9, .mv (.tmp 36), none, [], []⟩])
 (.ghost (.kill [35, 36])))))
def X3.b0 : ACode := (.seq (.seq (.seq (.region false [
 ⟨some 12, .mv (.tmp 8), none, [], []⟩,
 ⟨some 13, .mv (.tmp 2), none, [], []⟩,
 ⟨some 14, .bin .lss (.tmp 12) (.tmp 13), none, [], []⟩])
 (.ghost (.kill [12, 13])))
 (.cond (.tmp 14) .skip
 (.exit 0)))
 (.seq (.block 1 (.seq (.seq (.region false [
 ⟨some 17, .mv (.tmp 8), none, [], []⟩,
 ⟨some 9, .mv (.tmp 17), none, [], []⟩])
 (.ghost (.kill [14, 17])))
 (.seq (.block 2 (.loop X3.b1))
 (.ghost (.kill [9, 34])))))
 X3.c1))
def X3.main : ACode := (.seq (.seq (.region false [
 ⟨some 10, .mv (.tmp 1), none, [], []⟩,
 ⟨some 11, .bin .add (.tmp 10) (.cst (.int .i64 1)), none, [], []⟩,
 ⟨some 8, .mv (.tmp 11), none, [], []⟩])
 (.ghost (.kill [10, 11])))
 (.seq (.block 0 (.loop X3.b0))
 X3.c0))
def X3.k1 : List Item := [.inBlock 2, .code (.ghost (.kill [9, 34])), .inBlock 1, .code X3.c1, .inLoop X3.b0, .inBlock 0, .code X3.c0]
def X3.k0 : List Item := [.inBlock 0, .code X3.c0]
def X3 : AFunc := ⟨53, [], X3.main, false⟩
def X8.c0 : ACode := (.ghost (.kill [0, 3, 8, 9, 12, 33]))
def X8.b1 : ACode := (.seq (.seq (.seq (.region false [
 ⟨some 32, .mv (.tmp 12), none, [], []⟩,
 ⟨some 33, .bin .geq (.tmp 32) (.cst (.int .i64 0)), none, [], []⟩])
 (.ghost (.kill [32])))
 (.cond (.tmp 33) .skip
 (.exit 2)))
 (.seq (.block 3 (.seq (.seq (.region true [
 ⟨some 36, .mv (.tmp 0), none, [], [0]⟩,
 ⟨some 37, .mv (.tmp 8), none, [], [8]⟩,
 ⟨some 38, .mv (.tmp 0), none, [], [0]⟩,
 ⟨some 39, .mv (.tmp 8), none, [], [8]⟩,
 ⟨some 40, .mv (.tmp 12), none, [], [12]⟩,
 ⟨some 41, .bin .add (.tmp 39) (.tmp 40), none, [3, 4], [39, 40]⟩,
 ⟨some 42, .mv (.tmp 0), none, [], [0]⟩,
 ⟨some 43, .mv (.tmp 8), none, [], [8]⟩,
 ⟨some 44, .mv (.tmp 12), none, [], [12]⟩,
 ⟨some 45, .bin .add (.tmp 43) (.tmp 44), none, [7, 8], [43, 44]⟩,
 ⟨some 46, .iaddr 1 (.tmp 42) (.tmp 45), none, [6, 9], [42, 45]⟩,
 ⟨some 47, .load false 1 (.tmp 46), none, [10], [46]⟩,
 ⟨some 48, .mv (.tmp 0), none, [], [0]⟩,
 ⟨some 49, .mv (.tmp 8), none, [], [8]⟩,
 ⟨some 50, .iaddr 1 (.tmp 48) (.tmp 49), none, [12, 13], [48, 49]⟩,
 ⟨some 51, .load false 1 (.tmp 50), none, [14], [50]⟩,
 ⟨some 52, .iaddr 1 (.tmp 36) (.tmp 37), none, [0, 1, 0, 1, 6, 7, 8, 9, 10, 11, 15], [36, 37]⟩,
 ⟨none, .store 1 (.tmp 52) (.tmp 47), none, [16, 11, 0, 1, 6, 7, 8, 9, 10, 11, 15], [52, 47]⟩,
 ⟨some 53, .iaddr 1 (.tmp 38) (.tmp 41), none, [2, 5, 0, 1, 2, 3, 4, 5, 6, 7, 8, 9, 10, 11, 12, 13, 14, 15, 16, 17], [38, 41]⟩,
 ⟨none, .store 1 (.tmp 53) (.tmp 51), none, [18, 15, 17, 0, 1, 2, 3, 4, 5, 6, 7, 8, 9, 10, 11, 12, 13, 14, 15, 16, 17], [53, 51]⟩])
 (.ghost (.kill [33, 36, 37, 38, 39, 40, 41, 42, 43, 44, 45, 46, 47, 48, 49, 50, 51, 52, 53])))
 (.seq (.region false [
 ⟨some 54, .mv (.tmp 0), none, [], []⟩,
 ⟨some 55, .mv (.tmp 9), none, [], []⟩,
 ⟨some 56, .mv (.tmp 12), none, [], []⟩,
 ⟨some 57, .mv (.tmp 8), none, [], []⟩,
 ⟨some 58, .mv (.tmp 3), none, [], []⟩,
 ⟨some 59, .call false i_X9 [(.tmp 54), (.tmp 55), (.tmp 56), (.tmp 57), (.tmp 58)], none, [], []⟩])
 (.ghost (.kill [54, 55, 56, 57, 58, 59])))))
 (.seq (.region false [
 ⟨some 34, .mv (.tmp 12), none, [], []⟩,
 ⟨some 35, .bin .sub (.tmp 34) (.cst (.int .i64 1)), none, [], []⟩,
 ⟨some 12, .mv (.tmp 35), none, [], []⟩])
 (.ghost (.kill [34, 35])))))
def X8.c1 : ACode := (.seq (.seq (.region false [
 ⟨some 30, .mv (.tmp 10), none, [], []⟩,
 ⟨some 31, .bin .sub (.tmp 30) (.cst (.int .i64 1)), none, [], []⟩,
 ⟨some 12, .mv (.tmp 31), none, [], []⟩])
 (.ghost (.kill [10, 30, 31])))
 (.seq (.block 2 (.loop X8.b1))
 X8.c0))
def X8.b0 : ACode := (.seq (.seq (.seq (.region false [
 ⟨some 20, .mv (.tmp 11), none, [], []⟩,
 ⟨some 21, .bin .geq (.tmp 20) (.cst (.int .i64 0)), none, [], []⟩])
 (.ghost (.kill [20])))
 (.cond (.tmp 21) .skip
 (.exit 0)))
 (.seq (.block 1 (.seq (.region false [
 ⟨some 24, .mv (.tmp 0), none, [], []⟩,
 ⟨some 25, .mv (.tmp 11), none, [], []⟩,
 ⟨some 26, .mv (.tmp 10), none, [], []⟩,
 ⟨some 27, .mv (.tmp 8), none, [], []⟩,
 ⟨some 28, .mv (.tmp 3), none, [], []⟩,
 ⟨some 29, .call false i_X9 [(.tmp 24), (.tmp 25), (.tmp 26), (.tmp 27), (.tmp 28)], none, [], []⟩])
 (.ghost (.kill [21, 24, 25, 26, 27, 28, 29]))))
 (.seq (.region false [
 ⟨some 22, .mv (.tmp 11), none, [], []⟩,
 ⟨some 23, .bin .sub (.tmp 22) (.cst (.int .i64 1)), none, [], []⟩,
 ⟨some 11, .mv (.tmp 23), none, [], []⟩])
 (.ghost (.kill [22, 23])))))
def X8.main : ACode := (.seq (.seq (.region false [
 ⟨some 13, .mv (.tmp 1), none, [], []⟩,
 ⟨some 8, .mv (.tmp 13), none, [], []⟩])
 (.ghost (.kill [13])))
 (.seq (.region false [
 ⟨some 9, .mv (.cst (.int .i64 0)), none, [], []⟩])
 (.seq (.seq (.region false [
 ⟨some 14, .mv (.tmp 2), none, [], []⟩,
 ⟨some 15, .mv (.tmp 1), none, [], []⟩,
 ⟨some 16, .bin .sub (.tmp 14) (.tmp 15), none, [], []⟩,
 ⟨some 10, .mv (.tmp 16), none, [], []⟩])
 (.ghost (.kill [1, 2, 14, 15, 16])))
 (.seq (.seq (.seq (.region false [
 ⟨some 17, .mv (.tmp 10), none, [], []⟩,
 ⟨some 18, .bin .sub (.tmp 17) (.cst (.int .i64 1)), none, [], []⟩,
 ⟨some 19, .bin .quo (.tmp 18) (.cst (.int .i64 2)), none, [], []⟩,
 ⟨some 11, .mv (.tmp 19), none, [], []⟩])
 (.ghost (.kill [17, 18, 19])))
 (.seq (.block 0 (.loop X8.b0))
 (.ghost (.kill [11, 21]))))
 X8.c1))))
def X8.k1 : List Item := [.inBlock 2, .code X8.c0]
def X8.k0 : List Item := [.inBlock 0, .code (.ghost (.kill [11, 21])), .code X8.c1]
def X8 : AFunc := ⟨60, [], X8.main, false⟩
def X4.c0 : ACode := (.ghost (.kill [0, 1, 8, 17]))
def X4.c1 : ACode := (.ghost (.kill [0, 1, 8, 9, 10, 11, 35]))
def X4.c2 : ACode := (.seq (.region false [
 ⟨some 36, .mv (.tmp 11), none, [], []⟩,
 ⟨some 37, .bin .add (.tmp 36) (.cst (.int .i64 1)), none, [], []⟩,
 ⟨some 11, .mv (.tmp 37), none, [], []⟩])
 (.ghost (.kill [36, 37])))
def X4.c3 : ACode := (.seq (.region true [
 ⟨some 49, .mv (.tmp 0), none, [], [0]⟩,
 ⟨some 50, .mv (.tmp 11), none, [], [11]⟩,
 ⟨some 51, .mv (.tmp 0), none, [], [0]⟩,
 ⟨some 52, .mv (.tmp 1), none, [], [1]⟩,
 ⟨some 53, .mv (.tmp 12), none, [], [12]⟩,
 ⟨some 54, .bin .add (.tmp 52) (.tmp 53), none, [3, 4], [52, 53]⟩,
 ⟨some 55, .mv (.tmp 0), none, [], [0]⟩,
 ⟨some 56, .mv (.tmp 1), none, [], [1]⟩,
 ⟨some 57, .mv (.tmp 12), none, [], [12]⟩,
 ⟨some 58, .bin .add (.tmp 56) (.tmp 57), none, [7, 8], [56, 57]⟩,
 ⟨some 59, .iaddr 1 (.tmp 55) (.tmp 58), none, [6, 9], [55, 58]⟩,
 ⟨some 60, .load false 1 (.tmp 59), none, [10], [59]⟩,
 ⟨some 61, .mv (.tmp 0), none, [], [0]⟩,
 ⟨some 62, .mv (.tmp 11), none, [], [11]⟩,
 ⟨some 63, .iaddr 1 (.tmp 61) (.tmp 62), none, [12, 13], [61, 62]⟩,
 ⟨some 64, .load false 1 (.tmp 63), none, [14], [63]⟩,
 ⟨some 65, .iaddr 1 (.tmp 49) (.tmp 50), none, [0, 1, 0, 1, 6, 7, 8, 9, 10, 11, 15], [49, 50]⟩,
 ⟨none, .store 1 (.tmp 65) (.tmp 60), none, [16, 11, 0, 1, 6, 7, 8, 9, 10, 11, 15], [65, 60]⟩,
 ⟨some 66, .iaddr 1 (.tmp 51) (.tmp 54), none, [2, 5, 0, 1, 2, 3, 4, 5, 6, 7, 8, 9, 10, 11, 12, 13, 14, 15, 16, 17], [51, 54]⟩,
 ⟨none, .store 1 (.tmp 66) (.tmp 64), none, [18, 15, 17, 0, 1, 2, 3, 4, 5, 6, 7, 8, 9, 10, 11, 12, 13, 14, 15, 16, 17], [66, 64]⟩])
 (.ghost (.kill [12, 49, 50, 51, 52, 53, 54, 55, 56, 57, 58, 59, 60, 61, 62, 63, 64, 65, 66])))
def X4.b0 : ACode := (.seq (.seq (.seq (.region false [
 ⟨some 28, .mv (.tmp 11), none, [], []⟩,
 ⟨some 29, .mv (.tmp 1), none, [], []⟩,
 ⟨some 30, .mv (.tmp 8), none, [], []⟩,
 ⟨some 31, .bin .quo (.tmp 30) (.cst (.int .i64 4)), none, [], []⟩,
 ⟨some 32, .bin .mul (.tmp 31) (.cst (.int .i64 2)), none, [], []⟩,
 ⟨some 33, .bin .add (.tmp 29) (.tmp 32), none, [], []⟩,
 ⟨some 34, .bin .add (.tmp 33) (.cst (.int .i64 1)), none, [], []⟩,
 ⟨some 35, .bin .leq (.tmp 28) (.tmp 34), none, [], []⟩])
 (.ghost (.kill [28, 29, 30, 31, 32, 33, 34])))
 (.cond (.tmp 35) .skip
 (.exit 0)))
 (.seq (.block 1 (.seq (.seq (.region false [
 ⟨some 38, .call false i_X18 [(.tmp 9)], none, [], []⟩,
 ⟨some 39, .mv (.tmp 10), none, [], []⟩,
 ⟨some 40, .bin .sub (.tmp 39) (.cst (.int .u64 1)), none, [], []⟩,
 ⟨some 41, .bin .and (.tmp 38) (.tmp 40), none, [], []⟩,
 ⟨some 42, .conv .i64 (.tmp 41), none, [], []⟩,
 ⟨some 12, .mv (.tmp 42), none, [], []⟩])
 (.ghost (.kill [35, 38, 39, 40, 41, 42])))
 (.seq (.seq (.seq (.region false [
 ⟨some 43, .mv (.tmp 12), none, [], []⟩,
 ⟨some 44, .mv (.tmp 8), none, [], []⟩,
 ⟨some 45, .bin .geq (.tmp 43) (.tmp 44), none, [], []⟩])
 (.ghost (.kill [43, 44])))
 (.seq (.cond (.tmp 45) (.seq (.region false [
   ⟨some 46, .mv (.tmp 12), none, [], []⟩,
   ⟨some 47, .mv (.tmp 8), none, [], []⟩,
   ⟨some 48, .bin .sub (.tmp 46) (.tmp 47), none, [], []⟩,
   ⟨some 12, .mv (.tmp 48), none, [], []⟩])
  (.ghost (.kill [45, 46, 47, 48])))
 .skip)
 (.ghost (.kill [45]))))
 X4.c3)))
 X4.c2))
def X4.main : ACode := (.seq (.seq (.region false [
 ⟨some 13, .mv (.tmp 2), none, [], []⟩,
 ⟨some 14, .mv (.tmp 1), none, [], []⟩,
 ⟨some 15, .bin .sub (.tmp 13) (.tmp 14), none, [], []⟩,
 ⟨some 8, .mv (.tmp 15), none, [], []⟩])
 (.ghost (.kill [2, 3, 13, 14, 15])))
 (.seq (.seq (.region false [
 ⟨some 16, .mv (.tmp 8), none, [], []⟩,
 ⟨some 17, .bin .geq (.tmp 16) (.cst (.int .i64 8)), none, [], []⟩])
 (.ghost (.kill [16])))
 (.seq (.cond (.tmp 17) (.seq (.seq (.region false [
   ⟨some 18, .mv (.tmp 8), none, [], []⟩,
   ⟨some 19, .conv .u64 (.tmp 18), none, [], []⟩,
   ⟨some 9, .alloc [(.int .u64 0)], none, [], []⟩,
   ⟨none, .store 1 (.tmp 9) (.tmp 19), none, [], []⟩])
  (.ghost (.kill [17, 18, 19])))
  (.seq (.seq (.region false [
   ⟨some 20, .mv (.tmp 8), none, [], []⟩,
   ⟨some 21, .call true i_X16 [(.tmp 20)], none, [], []⟩,
   ⟨some 10, .mv (.tmp 21), none, [], []⟩])
  (.ghost (.kill [20, 21])))
  (.seq (.seq (.region false [
   ⟨some 22, .mv (.tmp 1), none, [], []⟩,
   ⟨some 23, .mv (.tmp 8), none, [], []⟩,
   ⟨some 24, .bin .quo (.tmp 23) (.cst (.int .i64 4)), none, [], []⟩,
   ⟨some 25, .bin .mul (.tmp 24) (.cst (.int .i64 2)), none, [], []⟩,
   ⟨some 26, .bin .add (.tmp 22) (.tmp 25), none, [], []⟩,
   ⟨some 27, .bin .sub (.tmp 26) (.cst (.int .i64 1)), none, [], []⟩,
   ⟨some 11, .mv (.tmp 27), none, [], []⟩])
  (.ghost (.kill [22, 23, 24, 25, 26, 27])))
  (.seq (.block 0 (.loop X4.b0))
  X4.c1))))
 .skip)
 X4.c0)))
def X4.k0 : List Item := [.inBlock 0, .code X4.c1, .code X4.c0]
def X4 : AFunc := ⟨67, [], X4.main, false⟩
def X6.c0 : ACode := (.seq (.seq (.region false [
 ⟨some 55, .load false 1 (.tmp 11), none, [], []⟩])
 (.ghost (.kill [11])))
 (.block 0 (.seq (.seq (.region false [
 ⟨some 58, .bin .eql (.tmp 55) (.cst (.int .i64 0)), none, [], []⟩,
 ⟨some 57, .mv (.tmp 58), none, [], []⟩])
 (.ghost (.kill [58])))
 (.cond (.tmp 57) (.seq (.region false [
   ⟨some 59, .mv (.tmp 13), none, [], []⟩,
   ⟨some 8, .mv (.tmp 59), none, [], []⟩,
   ⟨some 9, .mv (.cst (.int .i64 1)), none, [], []⟩])
  .ret)
 (.seq (.seq (.region false [
   ⟨some 61, .bin .eql (.tmp 55) (.cst (.int .i64 12)), none, [], []⟩,
   ⟨some 60, .mv (.tmp 61), none, [], []⟩])
  (.ghost (.kill [55, 57, 61])))
  (.cond (.tmp 60) (.seq (.region false [
    ⟨some 62, .mv (.tmp 13), none, [], []⟩,
    ⟨some 8, .mv (.tmp 62), none, [], []⟩,
    ⟨some 9, .mv (.cst (.int .i64 2)), none, [], []⟩])
   .ret)
  (.seq (.region false [
    ⟨some 56, .mv (.tmp 13), none, [], []⟩,
    ⟨some 8, .mv (.tmp 56), none, [], []⟩,
    ⟨some 9, .mv (.cst (.int .i64 0)), none, [], []⟩])
   .ret)))))))
def X6.c1 : ACode := (.ghost (.kill [0, 3, 10, 12, 14, 34]))
def X6.c2 : ACode := (.seq (.region false [
 ⟨some 49, .mv (.tmp 0), none, [], []⟩,
 ⟨some 50, .mv (.tmp 12), none, [], []⟩,
 ⟨some 51, .mv (.tmp 13), none, [], []⟩,
 ⟨some 52, .mv (.tmp 14), none, [], []⟩,
 ⟨some 53, .mv (.tmp 3), none, [], []⟩,
 ⟨some 54, .call false i_X13 [(.tmp 49), (.tmp 50), (.tmp 51), (.tmp 52), (.tmp 11), (.tmp 53)], none, [], []⟩,
 ⟨some 13, .mv (.tmp 54), none, [], []⟩])
 (.ghost (.kill [0, 3, 12, 14, 49, 50, 51, 52, 53, 54])))
def X6.main : ACode := (.seq (.seq (.region false [
 ⟨some 8, .mv (.cst (.int .i64 0)), none, [], []⟩,
 ⟨some 9, .mv (.cst (.int .i64 0)), none, [], []⟩])
 (.ghost (.kill [8, 9])))
 (.seq (.seq (.region false [
 ⟨some 15, .mv (.tmp 2), none, [], []⟩,
 ⟨some 16, .mv (.tmp 1), none, [], []⟩,
 ⟨some 17, .bin .sub (.tmp 15) (.tmp 16), none, [], []⟩,
 ⟨some 10, .mv (.tmp 17), none, [], []⟩])
 (.ghost (.kill [2, 15, 16, 17])))
 (.seq (.region false [
 ⟨some 11, .alloc [(.int .i64 0)], none, [], []⟩])
 (.seq (.seq (.region false [
 ⟨some 18, .mv (.tmp 1), none, [], []⟩,
 ⟨some 19, .mv (.tmp 10), none, [], []⟩,
 ⟨some 20, .bin .quo (.tmp 19) (.cst (.int .i64 4)), none, [], []⟩,
 ⟨some 21, .bin .mul (.tmp 20) (.cst (.int .i64 1)), none, [], []⟩,
 ⟨some 22, .bin .add (.tmp 18) (.tmp 21), none, [], []⟩,
 ⟨some 12, .mv (.tmp 22), none, [], []⟩])
 (.ghost (.kill [18, 19, 20, 21, 22])))
 (.seq (.seq (.region false [
 ⟨some 23, .mv (.tmp 1), none, [], []⟩,
 ⟨some 24, .mv (.tmp 10), none, [], []⟩,
 ⟨some 25, .bin .quo (.tmp 24) (.cst (.int .i64 4)), none, [], []⟩,
 ⟨some 26, .bin .mul (.tmp 25) (.cst (.int .i64 2)), none, [], []⟩,
 ⟨some 27, .bin .add (.tmp 23) (.tmp 26), none, [], []⟩,
 ⟨some 13, .mv (.tmp 27), none, [], []⟩])
 (.ghost (.kill [23, 24, 25, 26, 27])))
 (.seq (.seq (.region false [
 ⟨some 28, .mv (.tmp 1), none, [], []⟩,
 ⟨some 29, .mv (.tmp 10), none, [], []⟩,
 ⟨some 30, .bin .quo (.tmp 29) (.cst (.int .i64 4)), none, [], []⟩,
 ⟨some 31, .bin .mul (.tmp 30) (.cst (.int .i64 3)), none, [], []⟩,
 ⟨some 32, .bin .add (.tmp 28) (.tmp 31), none, [], []⟩,
 ⟨some 14, .mv (.tmp 32), none, [], []⟩])
 (.ghost (.kill [1, 28, 29, 30, 31, 32])))
 (.seq (.seq (.seq (.region false [
 ⟨some 33, .mv (.tmp 10), none, [], []⟩,
 ⟨some 34, .bin .geq (.tmp 33) (.cst (.int .i64 8)), none, [], []⟩])
 (.ghost (.kill [33])))
 (.seq (.cond (.tmp 34) (.seq (.seq (.seq (.region false [
   ⟨some 35, .mv (.tmp 10), none, [], []⟩,
   ⟨some 36, .bin .geq (.tmp 35) (.cst (.int .i64 50)), none, [], []⟩])
  (.ghost (.kill [10, 34, 35])))
  (.seq (.cond (.tmp 36) (.seq (.seq (.region false [
    ⟨some 37, .mv (.tmp 0), none, [], []⟩,
    ⟨some 38, .mv (.tmp 12), none, [], []⟩,
    ⟨some 39, .mv (.tmp 3), none, [], []⟩,
    ⟨some 40, .call false i_X1 [(.tmp 37), (.tmp 38), (.tmp 11), (.tmp 39)], none, [], []⟩,
    ⟨some 12, .mv (.tmp 40), none, [], []⟩])
   (.ghost (.kill [36, 37, 38, 39, 40])))
   (.seq (.seq (.region false [
    ⟨some 41, .mv (.tmp 0), none, [], []⟩,
    ⟨some 42, .mv (.tmp 13), none, [], []⟩,
    ⟨some 43, .mv (.tmp 3), none, [], []⟩,
    ⟨some 44, .call false i_X1 [(.tmp 41), (.tmp 42), (.tmp 11), (.tmp 43)], none, [], []⟩,
    ⟨some 13, .mv (.tmp 44), none, [], []⟩])
   (.ghost (.kill [41, 42, 43, 44])))
   (.seq (.region false [
    ⟨some 45, .mv (.tmp 0), none, [], []⟩,
    ⟨some 46, .mv (.tmp 14), none, [], []⟩,
    ⟨some 47, .mv (.tmp 3), none, [], []⟩,
    ⟨some 48, .call false i_X1 [(.tmp 45), (.tmp 46), (.tmp 11), (.tmp 47)], none, [], []⟩,
    ⟨some 14, .mv (.tmp 48), none, [], []⟩])
   (.ghost (.kill [45, 46, 47, 48])))))
  .skip)
  (.ghost (.kill [36]))))
  X6.c2)
 .skip)
 X6.c1))
 X6.c0)))))))
def X6 : AFunc := ⟨63, [.tmp 8, .tmp 9], X6.main, false⟩
def X5.c0 : ACode := (.ghost (.kill [0, 8, 9, 15]))
def X5.b0 : ACode := (.seq (.seq (.seq (.region false [
 ⟨some 13, .mv (.tmp 8), none, [], []⟩,
 ⟨some 14, .mv (.tmp 9), none, [], []⟩,
 ⟨some 15, .bin .lss (.tmp 13) (.tmp 14), none, [], []⟩])
 (.ghost (.kill [13, 14])))
 (.cond (.tmp 15) .skip
 (.exit 0)))
 (.block 1 (.seq (.seq (.region true [
 ⟨some 16, .mv (.tmp 0), none, [], [0]⟩,
 ⟨some 17, .mv (.tmp 8), none, [], [8]⟩,
 ⟨some 18, .mv (.tmp 0), none, [], [0]⟩,
 ⟨some 19, .mv (.tmp 9), none, [], [9]⟩,
 ⟨some 20, .mv (.tmp 0), none, [], [0]⟩,
 ⟨some 21, .mv (.tmp 9), none, [], [9]⟩,
 ⟨some 22, .iaddr 1 (.tmp 20) (.tmp 21), none, [4, 5], [20, 21]⟩,
 ⟨some 23, .load false 1 (.tmp 22), none, [6], [22]⟩,
 ⟨some 24, .mv (.tmp 0), none, [], [0]⟩,
 ⟨some 25, .mv (.tmp 8), none, [], [8]⟩,
 ⟨some 26, .iaddr 1 (.tmp 24) (.tmp 25), none, [8, 9], [24, 25]⟩,
 ⟨some 27, .load false 1 (.tmp 26), none, [10], [26]⟩,
 ⟨some 28, .iaddr 1 (.tmp 16) (.tmp 17), none, [0, 1, 0, 1, 4, 5, 6, 7, 11], [16, 17]⟩,
 ⟨none, .store 1 (.tmp 28) (.tmp 23), none, [12, 7, 0, 1, 4, 5, 6, 7, 11], [28, 23]⟩,
 ⟨some 29, .iaddr 1 (.tmp 18) (.tmp 19), none, [2, 3, 0, 1, 2, 3, 4, 5, 6, 7, 8, 9, 10, 11, 12, 13], [18, 19]⟩,
 ⟨none, .store 1 (.tmp 29) (.tmp 27), none, [14, 11, 13, 0, 1, 2, 3, 4, 5, 6, 7, 8, 9, 10, 11, 12, 13], [29, 27]⟩])
 (.ghost (.kill [15, 16, 17, 18, 19, 20, 21, 22, 23, 24, 25, 26, 27, 28, 29])))
 (.seq (.seq (.region false [
 ⟨some 30, .mv (.tmp 8), none, [], []⟩,
 ⟨some 31, .bin .add (.tmp 30) (.cst (.int .i64 1)), none, [], []⟩,
 ⟨some 8, .mv (.tmp 31), none, [], []⟩])
 (.ghost (.kill [30, 31])))
 (.seq (.region false [
 ⟨some 32, .mv (.tmp 9), none, [], []⟩,
 ⟨some 33, .bin .sub (.tmp 32) (.cst (.int .i64 1)), none, [], []⟩,
 ⟨some 9, .mv (.tmp 33), none, [], []⟩])
 (.ghost (.kill [32, 33])))))))
def X5.main : ACode := (.seq (.seq (.region false [
 ⟨some 10, .mv (.tmp 1), none, [], []⟩,
 ⟨some 8, .mv (.tmp 10), none, [], []⟩])
 (.ghost (.kill [1, 3, 10])))
 (.seq (.seq (.region false [
 ⟨some 11, .mv (.tmp 2), none, [], []⟩,
 ⟨some 12, .bin .sub (.tmp 11) (.cst (.int .i64 1)), none, [], []⟩,
 ⟨some 9, .mv (.tmp 12), none, [], []⟩])
 (.ghost (.kill [2, 11, 12])))
 (.seq (.block 0 (.loop X5.b0))
 X5.c0)))
def X5.k0 : List Item := [.inBlock 0, .code X5.c0]
def X5 : AFunc := ⟨34, [], X5.main, false⟩
def X0.c0 : ACode := (.seq (.region false [
 ⟨some 8, .mv (.cst (.bool false)), none, [], []⟩])
 .ret)
def X0.c1 : ACode := (.ghost (.kill [0, 1, 2, 3, 9, 10, 16]))
def X0.c2 : ACode := (.seq (.region false [
 ⟨some 17, .mv (.tmp 10), none, [], []⟩,
 ⟨some 18, .bin .add (.tmp 17) (.cst (.int .i64 1)), none, [], []⟩,
 ⟨some 10, .mv (.tmp 18), none, [], []⟩])
 (.ghost (.kill [17, 18])))
def X0.c3 : ACode := (.ghost (.kill [12, 109, 124]))
def X0.b3 : ACode := (.seq (.seq (.seq (.region false [
 ⟨some 107, .mv (.tmp 12), none, [], []⟩,
 ⟨some 108, .mv (.tmp 2), none, [], []⟩,
 ⟨some 109, .bin .lss (.tmp 107) (.tmp 108), none, [], []⟩])
 (.ghost (.kill [107, 108])))
 (.cond (.tmp 109) .skip
 (.exit 6)))
 (.seq (.block 7 (.seq (.seq (.seq (.region true [
 ⟨some 112, .mv (.tmp 3), none, [], [3]⟩,
 ⟨some 113, .mv (.tmp 0), none, [], [0]⟩,
 ⟨some 114, .mv (.tmp 12), none, [], [12]⟩,
 ⟨some 115, .iaddr 1 (.tmp 113) (.tmp 114), none, [1, 2], [113, 114]⟩,
 ⟨some 116, .load false 1 (.tmp 115), none, [3], [115]⟩,
 ⟨some 117, .mv (.tmp 0), none, [], [0]⟩,
 ⟨some 118, .mv (.tmp 12), none, [], [12]⟩,
 ⟨some 119, .bin .sub (.tmp 118) (.cst (.int .i64 1)), none, [6], [118]⟩,
 ⟨some 120, .iaddr 1 (.tmp 117) (.tmp 119), none, [5, 7], [117, 119]⟩,
 ⟨some 121, .load false 1 (.tmp 120), none, [8], [120]⟩,
 ⟨some 122, .callv true (.tmp 112) [(.tmp 116), (.tmp 121)], none, [0, 4, 9], [112, 116, 121]⟩,
 ⟨some 123, .bin .lss (.tmp 122) (.cst (.int .i64 0)), none, [10], [122]⟩,
 ⟨some 124, .un .not (.tmp 123), none, [11], [123]⟩])
 (.ghost (.kill [109, 112, 113, 114, 115, 116, 117, 118, 119, 120, 121, 122, 123])))
 (.cond (.tmp 124) (.exit 6)
 .skip))
 (.seq (.region true [
 ⟨some 125, .mv (.tmp 0), none, [], [0]⟩,
 ⟨some 126, .mv (.tmp 12), none, [], [12]⟩,
 ⟨some 127, .mv (.tmp 0), none, [], [0]⟩,
 ⟨some 128, .mv (.tmp 12), none, [], [12]⟩,
 ⟨some 129, .bin .sub (.tmp 128) (.cst (.int .i64 1)), none, [3], [128]⟩,
 ⟨some 130, .mv (.tmp 0), none, [], [0]⟩,
 ⟨some 131, .mv (.tmp 12), none, [], [12]⟩,
 ⟨some 132, .bin .sub (.tmp 131) (.cst (.int .i64 1)), none, [6], [131]⟩,
 ⟨some 133, .iaddr 1 (.tmp 130) (.tmp 132), none, [5, 7], [130, 132]⟩,
 ⟨some 134, .load false 1 (.tmp 133), none, [8], [133]⟩,
 ⟨some 135, .mv (.tmp 0), none, [], [0]⟩,
 ⟨some 136, .mv (.tmp 12), none, [], [12]⟩,
 ⟨some 137, .iaddr 1 (.tmp 135) (.tmp 136), none, [10, 11], [135, 136]⟩,
 ⟨some 138, .load false 1 (.tmp 137), none, [12], [137]⟩,
 ⟨some 139, .iaddr 1 (.tmp 125) (.tmp 126), none, [0, 1, 0, 1, 5, 6, 7, 8, 9, 13], [125, 126]⟩,
 ⟨none, .store 1 (.tmp 139) (.tmp 134), none, [14, 9, 0, 1, 5, 6, 7, 8, 9, 13], [139, 134]⟩,
 ⟨some 140, .iaddr 1 (.tmp 127) (.tmp 129), none, [2, 4, 0, 1, 2, 3, 4, 5, 6, 7, 8, 9, 10, 11, 12, 13, 14, 15], [127, 129]⟩,
 ⟨none, .store 1 (.tmp 140) (.tmp 138), none, [16, 13, 15, 0, 1, 2, 3, 4, 5, 6, 7, 8, 9, 10, 11, 12, 13, 14, 15], [140, 138]⟩])
 (.ghost (.kill [124, 125, 126, 127, 128, 129, 130, 131, 132, 133, 134, 135, 136, 137, 138, 139, 140])))))
 (.seq (.region false [
 ⟨some 110, .mv (.tmp 12), none, [], []⟩,
 ⟨some 111, .bin .add (.tmp 110) (.cst (.int .i64 1)), none, [], []⟩,
 ⟨some 12, .mv (.tmp 111), none, [], []⟩])
 (.ghost (.kill [110, 111])))))
def X0.c4 : ACode := (.seq (.seq (.region false [
 ⟨some 101, .mv (.tmp 2), none, [], []⟩,
 ⟨some 102, .mv (.tmp 9), none, [], []⟩,
 ⟨some 103, .bin .sub (.tmp 101) (.tmp 102), none, [], []⟩,
 ⟨some 104, .bin .geq (.tmp 103) (.cst (.int .i64 2)), none, [], []⟩])
 (.ghost (.kill [101, 102, 103])))
 (.seq (.cond (.tmp 104) (.seq (.seq (.region false [
   ⟨some 105, .mv (.tmp 9), none, [], []⟩,
   ⟨some 106, .bin .add (.tmp 105) (.cst (.int .i64 1)), none, [], []⟩,
   ⟨some 12, .mv (.tmp 106), none, [], []⟩])
  (.ghost (.kill [104, 105, 106])))
  (.seq (.block 6 (.loop X0.b3))
  X0.c3))
 .skip)
 (.ghost (.kill [104]))))
def X0.b2 : ACode := (.seq (.seq (.seq (.region false [
 ⟨some 68, .mv (.tmp 11), none, [], []⟩,
 ⟨some 69, .bin .geq (.tmp 68) (.cst (.int .i64 1)), none, [], []⟩])
 (.ghost (.kill [68])))
 (.cond (.tmp 69) .skip
 (.exit 4)))
 (.seq (.block 5 (.seq (.seq (.seq (.region true [
 ⟨some 72, .mv (.tmp 3), none, [], [3]⟩,
 ⟨some 73, .mv (.tmp 0), none, [], [0]⟩,
 ⟨some 74, .mv (.tmp 11), none, [], [11]⟩,
 ⟨some 75, .iaddr 1 (.tmp 73) (.tmp 74), none, [1, 2], [73, 74]⟩,
 ⟨some 76, .load false 1 (.tmp 75), none, [3], [75]⟩,
 ⟨some 77, .mv (.tmp 0), none, [], [0]⟩,
 ⟨some 78, .mv (.tmp 11), none, [], [11]⟩,
 ⟨some 79, .bin .sub (.tmp 78) (.cst (.int .i64 1)), none, [6], [78]⟩,
 ⟨some 80, .iaddr 1 (.tmp 77) (.tmp 79), none, [5, 7], [77, 79]⟩,
 ⟨some 81, .load false 1 (.tmp 80), none, [8], [80]⟩,
 ⟨some 82, .callv true (.tmp 72) [(.tmp 76), (.tmp 81)], none, [0, 4, 9], [72, 76, 81]⟩,
 ⟨some 83, .bin .lss (.tmp 82) (.cst (.int .i64 0)), none, [10], [82]⟩,
 ⟨some 84, .un .not (.tmp 83), none, [11], [83]⟩])
 (.ghost (.kill [69, 72, 73, 74, 75, 76, 77, 78, 79, 80, 81, 82, 83])))
 (.cond (.tmp 84) (.exit 4)
 .skip))
 (.seq (.region true [
 ⟨some 85, .mv (.tmp 0), none, [], [0]⟩,
 ⟨some 86, .mv (.tmp 11), none, [], [11]⟩,
 ⟨some 87, .mv (.tmp 0), none, [], [0]⟩,
 ⟨some 88, .mv (.tmp 11), none, [], [11]⟩,
 ⟨some 89, .bin .sub (.tmp 88) (.cst (.int .i64 1)), none, [3], [88]⟩,
 ⟨some 90, .mv (.tmp 0), none, [], [0]⟩,
 ⟨some 91, .mv (.tmp 11), none, [], [11]⟩,
 ⟨some 92, .bin .sub (.tmp 91) (.cst (.int .i64 1)), none, [6], [91]⟩,
 ⟨some 93, .iaddr 1 (.tmp 90) (.tmp 92), none, [5, 7], [90, 92]⟩,
 ⟨some 94, .load false 1 (.tmp 93), none, [8], [93]⟩,
 ⟨some 95, .mv (.tmp 0), none, [], [0]⟩,
 ⟨some 96, .mv (.tmp 11), none, [], [11]⟩,
 ⟨some 97, .iaddr 1 (.tmp 95) (.tmp 96), none, [10, 11], [95, 96]⟩,
 ⟨some 98, .load false 1 (.tmp 97), none, [12], [97]⟩,
 ⟨some 99, .iaddr 1 (.tmp 85) (.tmp 86), none, [0, 1, 0, 1, 5, 6, 7, 8, 9, 13], [85, 86]⟩,
 ⟨none, .store 1 (.tmp 99) (.tmp 94), none, [14, 9, 0, 1, 5, 6, 7, 8, 9, 13], [99, 94]⟩,
 ⟨some 100, .iaddr 1 (.tmp 87) (.tmp 89), none, [2, 4, 0, 1, 2, 3, 4, 5, 6, 7, 8, 9, 10, 11, 12, 13, 14, 15], [87, 89]⟩,
 ⟨none, .store 1 (.tmp 100) (.tmp 98), none, [16, 13, 15, 0, 1, 2, 3, 4, 5, 6, 7, 8, 9, 10, 11, 12, 13, 14, 15], [100, 98]⟩])
 (.ghost (.kill [84, 85, 86, 87, 88, 89, 90, 91, 92, 93, 94, 95, 96, 97, 98, 99, 100])))))
 (.seq (.region false [
 ⟨some 70, .mv (.tmp 11), none, [], []⟩,
 ⟨some 71, .bin .sub (.tmp 70) (.cst (.int .i64 1)), none, [], []⟩,
 ⟨some 11, .mv (.tmp 71), none, [], []⟩])
 (.ghost (.kill [70, 71])))))
def X0.c5 : ACode := (.seq (.seq (.seq (.region false [
 ⟨some 39, .mv (.tmp 9), none, [], []⟩,
 ⟨some 40, .mv (.tmp 2), none, [], []⟩,
 ⟨some 41, .bin .eql (.tmp 39) (.tmp 40), none, [], []⟩])
 (.ghost (.kill [39, 40])))
 (.cond (.tmp 41) (.seq (.region false [
   ⟨some 8, .mv (.cst (.bool true)), none, [], []⟩])
  .ret)
 .skip))
 (.seq (.seq (.seq (.region false [
 ⟨some 42, .mv (.tmp 2), none, [], []⟩,
 ⟨some 43, .mv (.tmp 1), none, [], []⟩,
 ⟨some 44, .bin .sub (.tmp 42) (.tmp 43), none, [], []⟩,
 ⟨some 45, .bin .lss (.tmp 44) (.cst (.int .i64 50)), none, [], []⟩])
 (.ghost (.kill [41, 42, 43, 44])))
 (.cond (.tmp 45) (.seq (.region false [
   ⟨some 8, .mv (.cst (.bool false)), none, [], []⟩])
  .ret)
 .skip))
 (.seq (.seq (.region true [
 ⟨some 46, .mv (.tmp 0), none, [], [0]⟩,
 ⟨some 47, .mv (.tmp 9), none, [], [9]⟩,
 ⟨some 48, .mv (.tmp 0), none, [], [0]⟩,
 ⟨some 49, .mv (.tmp 9), none, [], [9]⟩,
 ⟨some 50, .bin .sub (.tmp 49) (.cst (.int .i64 1)), none, [3], [49]⟩,
 ⟨some 51, .mv (.tmp 0), none, [], [0]⟩,
 ⟨some 52, .mv (.tmp 9), none, [], [9]⟩,
 ⟨some 53, .bin .sub (.tmp 52) (.cst (.int .i64 1)), none, [6], [52]⟩,
 ⟨some 54, .iaddr 1 (.tmp 51) (.tmp 53), none, [5, 7], [51, 53]⟩,
 ⟨some 55, .load false 1 (.tmp 54), none, [8], [54]⟩,
 ⟨some 56, .mv (.tmp 0), none, [], [0]⟩,
 ⟨some 57, .mv (.tmp 9), none, [], [9]⟩,
 ⟨some 58, .iaddr 1 (.tmp 56) (.tmp 57), none, [10, 11], [56, 57]⟩,
 ⟨some 59, .load false 1 (.tmp 58), none, [12], [58]⟩,
 ⟨some 60, .iaddr 1 (.tmp 46) (.tmp 47), none, [0, 1, 0, 1, 5, 6, 7, 8, 9, 13], [46, 47]⟩,
 ⟨none, .store 1 (.tmp 60) (.tmp 55), none, [14, 9, 0, 1, 5, 6, 7, 8, 9, 13], [60, 55]⟩,
 ⟨some 61, .iaddr 1 (.tmp 48) (.tmp 50), none, [2, 4, 0, 1, 2, 3, 4, 5, 6, 7, 8, 9, 10, 11, 12, 13, 14, 15], [48, 50]⟩,
 ⟨none, .store 1 (.tmp 61) (.tmp 59), none, [16, 13, 15, 0, 1, 2, 3, 4, 5, 6, 7, 8, 9, 10, 11, 12, 13, 14, 15], [61, 59]⟩])
 (.ghost (.kill [45, 46, 47, 48, 49, 50, 51, 52, 53, 54, 55, 56, 57, 58, 59, 60, 61])))
 (.seq (.seq (.seq (.region false [
 ⟨some 62, .mv (.tmp 9), none, [], []⟩,
 ⟨some 63, .mv (.tmp 1), none, [], []⟩,
 ⟨some 64, .bin .sub (.tmp 62) (.tmp 63), none, [], []⟩,
 ⟨some 65, .bin .geq (.tmp 64) (.cst (.int .i64 2)), none, [], []⟩])
 (.ghost (.kill [62, 63, 64])))
 (.seq (.cond (.tmp 65) (.seq (.seq (.region false [
   ⟨some 66, .mv (.tmp 9), none, [], []⟩,
   ⟨some 67, .bin .sub (.tmp 66) (.cst (.int .i64 1)), none, [], []⟩,
   ⟨some 11, .mv (.tmp 67), none, [], []⟩])
  (.ghost (.kill [65, 66, 67])))
  (.seq (.block 4 (.loop X0.b2))
  (.ghost (.kill [11, 69, 84]))))
 .skip)
 (.ghost (.kill [65]))))
 X0.c4))))
def X0.b1 : ACode := (.seq (.seq (.seq (.region true [
 ⟨some 19, .mv (.tmp 9), none, [], [9]⟩,
 ⟨some 20, .mv (.tmp 2), none, [], [2]⟩,
 ⟨some 21, .bin .lss (.tmp 19) (.tmp 20), none, [0, 1], [19, 20]⟩,
 ⟨some 22, .mv (.tmp 21), none, [2], [21]⟩,
 ⟨some 23, .mv (.tmp 3), (some ((some 22), true)), [3], [3]⟩,
 ⟨some 24, .mv (.tmp 0), (some ((some 22), true)), [3], [0]⟩,
 ⟨some 25, .mv (.tmp 9), (some ((some 22), true)), [3], [9]⟩,
 ⟨some 26, .iaddr 1 (.tmp 24) (.tmp 25), (some ((some 22), true)), [5, 6, 3], [24, 25]⟩,
 ⟨some 27, .load false 1 (.tmp 26), (some ((some 22), true)), [7, 3], [26]⟩,
 ⟨some 28, .mv (.tmp 0), (some ((some 22), true)), [3], [0]⟩,
 ⟨some 29, .mv (.tmp 9), (some ((some 22), true)), [3], [9]⟩,
 ⟨some 30, .bin .sub (.tmp 29) (.cst (.int .i64 1)), (some ((some 22), true)), [10, 3], [29]⟩,
 ⟨some 31, .iaddr 1 (.tmp 28) (.tmp 30), (some ((some 22), true)), [9, 11, 3], [28, 30]⟩,
 ⟨some 32, .load false 1 (.tmp 31), (some ((some 22), true)), [12, 3], [31]⟩,
 ⟨some 33, .callv true (.tmp 23) [(.tmp 27), (.tmp 32)], (some ((some 22), true)), [4, 8, 13, 3, 3], [23, 27, 32]⟩,
 ⟨some 34, .bin .lss (.tmp 33) (.cst (.int .i64 0)), (some ((some 22), true)), [14, 3], [33]⟩,
 ⟨some 35, .un .not (.tmp 34), (some ((some 22), true)), [15, 3], [34]⟩,
 ⟨some 36, .pick (.tmp 22) (.tmp 35) (.cst (.bool false)), none, [3, 16], [22, 35]⟩])
 (.ghost (.kill [19, 20, 21, 22, 23, 24, 25, 26, 27, 28, 29, 30, 31, 32, 33, 34, 35])))
 (.cond (.tmp 36) .skip
 (.exit 2)))
 (.block 3 (.seq (.region false [
 ⟨some 37, .mv (.tmp 9), none, [], []⟩,
 ⟨some 38, .bin .add (.tmp 37) (.cst (.int .i64 1)), none, [], []⟩,
 ⟨some 9, .mv (.tmp 38), none, [], []⟩])
 (.ghost (.kill [36, 37, 38])))))
def X0.b0 : ACode := (.seq (.seq (.seq (.region false [
 ⟨some 15, .mv (.tmp 10), none, [], []⟩,
 ⟨some 16, .bin .lss (.tmp 15) (.cst (.int .i64 5)), none, [], []⟩])
 (.ghost (.kill [15])))
 (.cond (.tmp 16) .skip
 (.exit 0)))
 (.seq (.block 1 (.seq (.seq (.block 2 (.seq (.ghost (.kill [16]))
 (.loop X0.b1)))
 (.ghost (.kill [36])))
 X0.c5))
 X0.c2))
def X0.main : ACode := (.seq (.seq (.region false [
 ⟨some 8, .mv (.cst (.bool false)), none, [], []⟩])
 (.ghost (.kill [8])))
 (.seq (.seq (.region false [
 ⟨some 13, .mv (.tmp 1), none, [], []⟩,
 ⟨some 14, .bin .add (.tmp 13) (.cst (.int .i64 1)), none, [], []⟩,
 ⟨some 9, .mv (.tmp 14), none, [], []⟩])
 (.ghost (.kill [13, 14])))
 (.seq (.seq (.region false [
 ⟨some 10, .mv (.cst (.int .i64 0)), none, [], []⟩])
 (.seq (.block 0 (.loop X0.b0))
 X0.c1))
 X0.c0)))
def X0.k3 : List Item := [.inBlock 6, .code X0.c3, .code (.ghost (.kill [104])), .inBlock 1, .code X0.c2, .inLoop X0.b0, .inBlock 0, .code X0.c1, .code X0.c0]
def X0.k2 : List Item := [.inBlock 4, .code (.ghost (.kill [11, 69, 84])), .code (.ghost (.kill [65])), .code X0.c4, .inBlock 1, .code X0.c2, .inLoop X0.b0, .inBlock 0, .code X0.c1, .code X0.c0]
def X0.k1 : List Item := [.inBlock 2, .code (.ghost (.kill [36])), .code X0.c5, .inBlock 1, .code X0.c2, .inLoop X0.b0, .inBlock 0, .code X0.c1, .code X0.c0]
def X0.k0 : List Item := [.inBlock 0, .code X0.c1, .code X0.c0]
def X0 : AFunc := ⟨141, [.tmp 8], X0.main, false⟩
def X2.c0 : ACode := (.seq (.region false [
 ⟨some 89, .mv (.tmp 11), none, [], []⟩,
 ⟨some 10, .mv (.tmp 89), none, [], []⟩])
 .ret)
def X2.c1 : ACode := (.ghost (.kill [0, 1, 4, 12, 70]))
def X2.c2 : ACode := (.seq (.seq (.seq (.region false [
 ⟨some 68, .mv (.tmp 11), none, [], []⟩,
 ⟨some 69, .mv (.tmp 12), none, [], []⟩,
 ⟨some 70, .bin .gtr (.tmp 68) (.tmp 69), none, [], []⟩])
 (.ghost (.kill [68, 69])))
 (.cond (.tmp 70) (.exit 0)
 .skip))
 (.seq (.seq (.region true [
 ⟨some 71, .mv (.tmp 0), none, [], [0]⟩,
 ⟨some 72, .mv (.tmp 11), none, [], [11]⟩,
 ⟨some 73, .mv (.tmp 0), none, [], [0]⟩,
 ⟨some 74, .mv (.tmp 12), none, [], [12]⟩,
 ⟨some 75, .mv (.tmp 0), none, [], [0]⟩,
 ⟨some 76, .mv (.tmp 12), none, [], [12]⟩,
 ⟨some 77, .iaddr 1 (.tmp 75) (.tmp 76), none, [4, 5], [75, 76]⟩,
 ⟨some 78, .load false 1 (.tmp 77), none, [6], [77]⟩,
 ⟨some 79, .mv (.tmp 0), none, [], [0]⟩,
 ⟨some 80, .mv (.tmp 11), none, [], [11]⟩,
 ⟨some 81, .iaddr 1 (.tmp 79) (.tmp 80), none, [8, 9], [79, 80]⟩,
 ⟨some 82, .load false 1 (.tmp 81), none, [10], [81]⟩,
 ⟨some 83, .iaddr 1 (.tmp 71) (.tmp 72), none, [0, 1, 0, 1, 4, 5, 6, 7, 11], [71, 72]⟩,
 ⟨none, .store 1 (.tmp 83) (.tmp 78), none, [12, 7, 0, 1, 4, 5, 6, 7, 11], [83, 78]⟩,
 ⟨some 84, .iaddr 1 (.tmp 73) (.tmp 74), none, [2, 3, 0, 1, 2, 3, 4, 5, 6, 7, 8, 9, 10, 11, 12, 13], [73, 74]⟩,
 ⟨none, .store 1 (.tmp 84) (.tmp 82), none, [14, 11, 13, 0, 1, 2, 3, 4, 5, 6, 7, 8, 9, 10, 11, 12, 13], [84, 82]⟩])
 (.ghost (.kill [70, 71, 72, 73, 74, 75, 76, 77, 78, 79, 80, 81, 82, 83, 84])))
 (.seq (.seq (.region false [
 ⟨some 85, .mv (.tmp 11), none, [], []⟩,
 ⟨some 86, .bin .add (.tmp 85) (.cst (.int .i64 1)), none, [], []⟩,
 ⟨some 11, .mv (.tmp 86), none, [], []⟩])
 (.ghost (.kill [85, 86])))
 (.seq (.region false [
 ⟨some 87, .mv (.tmp 12), none, [], []⟩,
 ⟨some 88, .bin .sub (.tmp 87) (.cst (.int .i64 1)), none, [], []⟩,
 ⟨some 12, .mv (.tmp 88), none, [], []⟩])
 (.ghost (.kill [87, 88]))))))
def X2.b2 : ACode := (.seq (.seq (.seq (.region true [
 ⟨some 50, .mv (.tmp 11), none, [], [11]⟩,
 ⟨some 51, .mv (.tmp 12), none, [], [12]⟩,
 ⟨some 52, .bin .leq (.tmp 50) (.tmp 51), none, [0, 1], [50, 51]⟩,
 ⟨some 53, .mv (.tmp 52), none, [2], [52]⟩,
 ⟨some 54, .mv (.tmp 4), (some ((some 53), true)), [3], [4]⟩,
 ⟨some 55, .mv (.tmp 0), (some ((some 53), true)), [3], [0]⟩,
 ⟨some 56, .mv (.tmp 1), (some ((some 53), true)), [3], [1]⟩,
 ⟨some 57, .iaddr 1 (.tmp 55) (.tmp 56), (some ((some 53), true)), [5, 6, 3], [55, 56]⟩,
 ⟨some 58, .load false 1 (.tmp 57), (some ((some 53), true)), [7, 3], [57]⟩,
 ⟨some 59, .mv (.tmp 0), (some ((some 53), true)), [3], [0]⟩,
 ⟨some 60, .mv (.tmp 12), (some ((some 53), true)), [3], [12]⟩,
 ⟨some 61, .iaddr 1 (.tmp 59) (.tmp 60), (some ((some 53), true)), [9, 10, 3], [59, 60]⟩,
 ⟨some 62, .load false 1 (.tmp 61), (some ((some 53), true)), [11, 3], [61]⟩,
 ⟨some 63, .callv true (.tmp 54) [(.tmp 58), (.tmp 62)], (some ((some 53), true)), [4, 8, 12, 3, 3], [54, 58, 62]⟩,
 ⟨some 64, .bin .lss (.tmp 63) (.cst (.int .i64 0)), (some ((some 53), true)), [13, 3], [63]⟩,
 ⟨some 65, .pick (.tmp 53) (.tmp 64) (.cst (.bool false)), none, [3, 14], [53, 64]⟩])
 (.ghost (.kill [50, 51, 52, 53, 54, 55, 56, 57, 58, 59, 60, 61, 62, 63, 64])))
 (.cond (.tmp 65) .skip
 (.exit 4)))
 (.block 5 (.seq (.region false [
 ⟨some 66, .mv (.tmp 12), none, [], []⟩,
 ⟨some 67, .bin .sub (.tmp 66) (.cst (.int .i64 1)), none, [], []⟩,
 ⟨some 12, .mv (.tmp 67), none, [], []⟩])
 (.ghost (.kill [65, 66, 67])))))
def X2.c3 : ACode := (.seq (.seq (.block 4 (.loop X2.b2))
 (.ghost (.kill [65])))
 X2.c2)
def X2.b1 : ACode := (.seq (.seq (.seq (.region true [
 ⟨some 31, .mv (.tmp 11), none, [], [11]⟩,
 ⟨some 32, .mv (.tmp 12), none, [], [12]⟩,
 ⟨some 33, .bin .leq (.tmp 31) (.tmp 32), none, [0, 1], [31, 32]⟩,
 ⟨some 34, .mv (.tmp 33), none, [2], [33]⟩,
 ⟨some 35, .mv (.tmp 4), (some ((some 34), true)), [3], [4]⟩,
 ⟨some 36, .mv (.tmp 0), (some ((some 34), true)), [3], [0]⟩,
 ⟨some 37, .mv (.tmp 1), (some ((some 34), true)), [3], [1]⟩,
 ⟨some 38, .iaddr 1 (.tmp 36) (.tmp 37), (some ((some 34), true)), [5, 6, 3], [36, 37]⟩,
 ⟨some 39, .load false 1 (.tmp 38), (some ((some 34), true)), [7, 3], [38]⟩,
 ⟨some 40, .mv (.tmp 0), (some ((some 34), true)), [3], [0]⟩,
 ⟨some 41, .mv (.tmp 11), (some ((some 34), true)), [3], [11]⟩,
 ⟨some 42, .iaddr 1 (.tmp 40) (.tmp 41), (some ((some 34), true)), [9, 10, 3], [40, 41]⟩,
 ⟨some 43, .load false 1 (.tmp 42), (some ((some 34), true)), [11, 3], [42]⟩,
 ⟨some 44, .callv true (.tmp 35) [(.tmp 39), (.tmp 43)], (some ((some 34), true)), [4, 8, 12, 3, 3], [35, 39, 43]⟩,
 ⟨some 45, .bin .lss (.tmp 44) (.cst (.int .i64 0)), (some ((some 34), true)), [13, 3], [44]⟩,
 ⟨some 46, .un .not (.tmp 45), (some ((some 34), true)), [14, 3], [45]⟩,
 ⟨some 47, .pick (.tmp 34) (.tmp 46) (.cst (.bool false)), none, [3, 15], [34, 46]⟩])
 (.ghost (.kill [31, 32, 33, 34, 35, 36, 37, 38, 39, 40, 41, 42, 43, 44, 45, 46])))
 (.cond (.tmp 47) .skip
 (.exit 2)))
 (.block 3 (.seq (.region false [
 ⟨some 48, .mv (.tmp 11), none, [], []⟩,
 ⟨some 49, .bin .add (.tmp 48) (.cst (.int .i64 1)), none, [], []⟩,
 ⟨some 11, .mv (.tmp 49), none, [], []⟩])
 (.ghost (.kill [47, 48, 49])))))
def X2.b0 : ACode := (.block 1 (.seq (.seq (.block 2 (.loop X2.b1))
 (.ghost (.kill [47])))
 X2.c3))
def X2.main : ACode := (.seq (.seq (.region false [
 ⟨some 10, .mv (.cst (.int .i64 0)), none, [], []⟩])
 (.ghost (.kill [10])))
 (.seq (.seq (.region true [
 ⟨some 13, .mv (.tmp 0), none, [], [0]⟩,
 ⟨some 14, .mv (.tmp 1), none, [], [1]⟩,
 ⟨some 15, .mv (.tmp 0), none, [], [0]⟩,
 ⟨some 16, .mv (.tmp 3), none, [], [3]⟩,
 ⟨some 17, .mv (.tmp 0), none, [], [0]⟩,
 ⟨some 18, .mv (.tmp 3), none, [], [3]⟩,
 ⟨some 19, .iaddr 1 (.tmp 17) (.tmp 18), none, [4, 5], [17, 18]⟩,
 ⟨some 20, .load false 1 (.tmp 19), none, [6], [19]⟩,
 ⟨some 21, .mv (.tmp 0), none, [], [0]⟩,
 ⟨some 22, .mv (.tmp 1), none, [], [1]⟩,
 ⟨some 23, .iaddr 1 (.tmp 21) (.tmp 22), none, [8, 9], [21, 22]⟩,
 ⟨some 24, .load false 1 (.tmp 23), none, [10], [23]⟩,
 ⟨some 25, .iaddr 1 (.tmp 13) (.tmp 14), none, [0, 1, 0, 1, 4, 5, 6, 7, 11], [13, 14]⟩,
 ⟨none, .store 1 (.tmp 25) (.tmp 20), none, [12, 7, 0, 1, 4, 5, 6, 7, 11], [25, 20]⟩,
 ⟨some 26, .iaddr 1 (.tmp 15) (.tmp 16), none, [2, 3, 0, 1, 2, 3, 4, 5, 6, 7, 8, 9, 10, 11, 12, 13], [15, 16]⟩,
 ⟨none, .store 1 (.tmp 26) (.tmp 24), none, [14, 11, 13, 0, 1, 2, 3, 4, 5, 6, 7, 8, 9, 10, 11, 12, 13], [26, 24]⟩])
 (.ghost (.kill [3, 13, 14, 15, 16, 17, 18, 19, 20, 21, 22, 23, 24, 25, 26])))
 (.seq (.seq (.region false [
 ⟨some 27, .mv (.tmp 1), none, [], []⟩,
 ⟨some 28, .bin .add (.tmp 27) (.cst (.int .i64 1)), none, [], []⟩,
 ⟨some 29, .mv (.tmp 2), none, [], []⟩,
 ⟨some 30, .bin .sub (.tmp 29) (.cst (.int .i64 1)), none, [], []⟩,
 ⟨some 11, .mv (.tmp 28), none, [], []⟩,
 ⟨some 12, .mv (.tmp 30), none, [], []⟩])
 (.ghost (.kill [2, 27, 28, 29, 30])))
 (.seq (.seq (.block 0 (.loop X2.b0))
 X2.c1)
 X2.c0))))
def X2.k2 : List Item := [.inBlock 4, .code (.ghost (.kill [65])), .code X2.c2, .inBlock 1, .inLoop X2.b0, .inBlock 0, .code X2.c1, .code X2.c0]
def X2.k1 : List Item := [.inBlock 2, .code (.ghost (.kill [47])), .code X2.c3, .inBlock 1, .inLoop X2.b0, .inBlock 0, .code X2.c1, .code X2.c0]
def X2.k0 : List Item := [.inBlock 0, .code X2.c1, .code X2.c0]
def X2 : AFunc := ⟨90, [.tmp 10], X2.main, false⟩
def X7.c0 : ACode := (.seq (.seq (.region true [
 ⟨some 163, .mv (.tmp 0), none, [], [0]⟩,
 ⟨some 164, .mv (.tmp 13), none, [], [13]⟩,
 ⟨some 165, .mv (.tmp 0), none, [], [0]⟩,
 ⟨some 166, .mv (.tmp 1), none, [], [1]⟩,
 ⟨some 167, .mv (.tmp 0), none, [], [0]⟩,
 ⟨some 168, .mv (.tmp 1), none, [], [1]⟩,
 ⟨some 169, .iaddr 1 (.tmp 167) (.tmp 168), none, [4, 5], [167, 168]⟩,
 ⟨some 170, .load false 1 (.tmp 169), none, [6], [169]⟩,
 ⟨some 171, .mv (.tmp 0), none, [], [0]⟩,
 ⟨some 172, .mv (.tmp 13), none, [], [13]⟩,
 ⟨some 173, .iaddr 1 (.tmp 171) (.tmp 172), none, [8, 9], [171, 172]⟩,
 ⟨some 174, .load false 1 (.tmp 173), none, [10], [173]⟩,
 ⟨some 175, .iaddr 1 (.tmp 163) (.tmp 164), none, [0, 1, 0, 1, 4, 5, 6, 7, 11], [163, 164]⟩,
 ⟨none, .store 1 (.tmp 175) (.tmp 170), none, [12, 7, 0, 1, 4, 5, 6, 7, 11], [175, 170]⟩,
 ⟨some 176, .iaddr 1 (.tmp 165) (.tmp 166), none, [2, 3, 0, 1, 2, 3, 4, 5, 6, 7, 8, 9, 10, 11, 12, 13], [165, 166]⟩,
 ⟨none, .store 1 (.tmp 176) (.tmp 174), none, [14, 11, 13, 0, 1, 2, 3, 4, 5, 6, 7, 8, 9, 10, 11, 12, 13], [176, 174]⟩])
 (.ghost (.kill [0, 1, 163, 164, 165, 166, 167, 168, 169, 170, 171, 172, 173, 174, 175, 176])))
 (.seq (.region false [
 ⟨some 177, .mv (.tmp 13), none, [], []⟩,
 ⟨some 10, .mv (.tmp 177), none, [], []⟩,
 ⟨some 11, .mv (.cst (.bool false)), none, [], []⟩])
 .ret))
def X7.c1 : ACode := (.seq (.seq (.seq (.region false [
 ⟨some 142, .mv (.tmp 12), none, [], []⟩,
 ⟨some 143, .mv (.tmp 13), none, [], []⟩,
 ⟨some 144, .bin .gtr (.tmp 142) (.tmp 143), none, [], []⟩])
 (.ghost (.kill [142, 143])))
 (.cond (.tmp 144) (.exit 4)
 .skip))
 (.seq (.seq (.region true [
 ⟨some 145, .mv (.tmp 0), none, [], [0]⟩,
 ⟨some 146, .mv (.tmp 12), none, [], [12]⟩,
 ⟨some 147, .mv (.tmp 0), none, [], [0]⟩,
 ⟨some 148, .mv (.tmp 13), none, [], [13]⟩,
 ⟨some 149, .mv (.tmp 0), none, [], [0]⟩,
 ⟨some 150, .mv (.tmp 13), none, [], [13]⟩,
 ⟨some 151, .iaddr 1 (.tmp 149) (.tmp 150), none, [4, 5], [149, 150]⟩,
 ⟨some 152, .load false 1 (.tmp 151), none, [6], [151]⟩,
 ⟨some 153, .mv (.tmp 0), none, [], [0]⟩,
 ⟨some 154, .mv (.tmp 12), none, [], [12]⟩,
 ⟨some 155, .iaddr 1 (.tmp 153) (.tmp 154), none, [8, 9], [153, 154]⟩,
 ⟨some 156, .load false 1 (.tmp 155), none, [10], [155]⟩,
 ⟨some 157, .iaddr 1 (.tmp 145) (.tmp 146), none, [0, 1, 0, 1, 4, 5, 6, 7, 11], [145, 146]⟩,
 ⟨none, .store 1 (.tmp 157) (.tmp 152), none, [12, 7, 0, 1, 4, 5, 6, 7, 11], [157, 152]⟩,
 ⟨some 158, .iaddr 1 (.tmp 147) (.tmp 148), none, [2, 3, 0, 1, 2, 3, 4, 5, 6, 7, 8, 9, 10, 11, 12, 13], [147, 148]⟩,
 ⟨none, .store 1 (.tmp 158) (.tmp 156), none, [14, 11, 13, 0, 1, 2, 3, 4, 5, 6, 7, 8, 9, 10, 11, 12, 13], [158, 156]⟩])
 (.ghost (.kill [144, 145, 146, 147, 148, 149, 150, 151, 152, 153, 154, 155, 156, 157, 158])))
 (.seq (.seq (.region false [
 ⟨some 159, .mv (.tmp 12), none, [], []⟩,
 ⟨some 160, .bin .add (.tmp 159) (.cst (.int .i64 1)), none, [], []⟩,
 ⟨some 12, .mv (.tmp 160), none, [], []⟩])
 (.ghost (.kill [159, 160])))
 (.seq (.region false [
 ⟨some 161, .mv (.tmp 13), none, [], []⟩,
 ⟨some 162, .bin .sub (.tmp 161) (.cst (.int .i64 1)), none, [], []⟩,
 ⟨some 13, .mv (.tmp 162), none, [], []⟩])
 (.ghost (.kill [161, 162]))))))
def X7.b4 : ACode := (.seq (.seq (.seq (.region true [
 ⟨some 123, .mv (.tmp 12), none, [], [12]⟩,
 ⟨some 124, .mv (.tmp 13), none, [], [13]⟩,
 ⟨some 125, .bin .leq (.tmp 123) (.tmp 124), none, [0, 1], [123, 124]⟩,
 ⟨some 126, .mv (.tmp 125), none, [2], [125]⟩,
 ⟨some 127, .mv (.tmp 4), (some ((some 126), true)), [3], [4]⟩,
 ⟨some 128, .mv (.tmp 0), (some ((some 126), true)), [3], [0]⟩,
 ⟨some 129, .mv (.tmp 13), (some ((some 126), true)), [3], [13]⟩,
 ⟨some 130, .iaddr 1 (.tmp 128) (.tmp 129), (some ((some 126), true)), [5, 6, 3], [128, 129]⟩,
 ⟨some 131, .load false 1 (.tmp 130), (some ((some 126), true)), [7, 3], [130]⟩,
 ⟨some 132, .mv (.tmp 0), (some ((some 126), true)), [3], [0]⟩,
 ⟨some 133, .mv (.tmp 1), (some ((some 126), true)), [3], [1]⟩,
 ⟨some 134, .iaddr 1 (.tmp 132) (.tmp 133), (some ((some 126), true)), [9, 10, 3], [132, 133]⟩,
 ⟨some 135, .load false 1 (.tmp 134), (some ((some 126), true)), [11, 3], [134]⟩,
 ⟨some 136, .callv true (.tmp 127) [(.tmp 131), (.tmp 135)], (some ((some 126), true)), [4, 8, 12, 3, 3], [127, 131, 135]⟩,
 ⟨some 137, .bin .lss (.tmp 136) (.cst (.int .i64 0)), (some ((some 126), true)), [13, 3], [136]⟩,
 ⟨some 138, .un .not (.tmp 137), (some ((some 126), true)), [14, 3], [137]⟩,
 ⟨some 139, .pick (.tmp 126) (.tmp 138) (.cst (.bool false)), none, [3, 15], [126, 138]⟩])
 (.ghost (.kill [123, 124, 125, 126, 127, 128, 129, 130, 131, 132, 133, 134, 135, 136, 137, 138])))
 (.cond (.tmp 139) .skip
 (.exit 8)))
 (.block 9 (.seq (.region false [
 ⟨some 140, .mv (.tmp 13), none, [], []⟩,
 ⟨some 141, .bin .sub (.tmp 140) (.cst (.int .i64 1)), none, [], []⟩,
 ⟨some 13, .mv (.tmp 141), none, [], []⟩])
 (.ghost (.kill [139, 140, 141])))))
def X7.c2 : ACode := (.seq (.seq (.block 8 (.loop X7.b4))
 (.ghost (.kill [139])))
 X7.c1)
def X7.b3 : ACode := (.seq (.seq (.seq (.region true [
 ⟨some 105, .mv (.tmp 12), none, [], [12]⟩,
 ⟨some 106, .mv (.tmp 13), none, [], [13]⟩,
 ⟨some 107, .bin .leq (.tmp 105) (.tmp 106), none, [0, 1], [105, 106]⟩,
 ⟨some 108, .mv (.tmp 107), none, [2], [107]⟩,
 ⟨some 109, .mv (.tmp 4), (some ((some 108), true)), [3], [4]⟩,
 ⟨some 110, .mv (.tmp 0), (some ((some 108), true)), [3], [0]⟩,
 ⟨some 111, .mv (.tmp 12), (some ((some 108), true)), [3], [12]⟩,
 ⟨some 112, .iaddr 1 (.tmp 110) (.tmp 111), (some ((some 108), true)), [5, 6, 3], [110, 111]⟩,
 ⟨some 113, .load false 1 (.tmp 112), (some ((some 108), true)), [7, 3], [112]⟩,
 ⟨some 114, .mv (.tmp 0), (some ((some 108), true)), [3], [0]⟩,
 ⟨some 115, .mv (.tmp 1), (some ((some 108), true)), [3], [1]⟩,
 ⟨some 116, .iaddr 1 (.tmp 114) (.tmp 115), (some ((some 108), true)), [9, 10, 3], [114, 115]⟩,
 ⟨some 117, .load false 1 (.tmp 116), (some ((some 108), true)), [11, 3], [116]⟩,
 ⟨some 118, .callv true (.tmp 109) [(.tmp 113), (.tmp 117)], (some ((some 108), true)), [4, 8, 12, 3, 3], [109, 113, 117]⟩,
 ⟨some 119, .bin .lss (.tmp 118) (.cst (.int .i64 0)), (some ((some 108), true)), [13, 3], [118]⟩,
 ⟨some 120, .pick (.tmp 108) (.tmp 119) (.cst (.bool false)), none, [3, 14], [108, 119]⟩])
 (.ghost (.kill [105, 106, 107, 108, 109, 110, 111, 112, 113, 114, 115, 116, 117, 118, 119])))
 (.cond (.tmp 120) .skip
 (.exit 6)))
 (.block 7 (.seq (.region false [
 ⟨some 121, .mv (.tmp 12), none, [], []⟩,
 ⟨some 122, .bin .add (.tmp 121) (.cst (.int .i64 1)), none, [], []⟩,
 ⟨some 12, .mv (.tmp 122), none, [], []⟩])
 (.ghost (.kill [120, 121, 122])))))
def X7.b2 : ACode := (.block 5 (.seq (.seq (.block 6 (.loop X7.b3))
 (.ghost (.kill [120])))
 X7.c2))
def X7.c3 : ACode := (.seq (.seq (.seq (.region false [
 ⟨some 69, .mv (.tmp 12), none, [], []⟩,
 ⟨some 70, .mv (.tmp 13), none, [], []⟩,
 ⟨some 71, .bin .gtr (.tmp 69) (.tmp 70), none, [], []⟩])
 (.ghost (.kill [69, 70])))
 (.cond (.tmp 71) (.seq (.seq (.region true [
   ⟨some 72, .mv (.tmp 0), none, [], [0]⟩,
   ⟨some 73, .mv (.tmp 13), none, [], [13]⟩,
   ⟨some 74, .mv (.tmp 0), none, [], [0]⟩,
   ⟨some 75, .mv (.tmp 1), none, [], [1]⟩,
   ⟨some 76, .mv (.tmp 0), none, [], [0]⟩,
   ⟨some 77, .mv (.tmp 1), none, [], [1]⟩,
   ⟨some 78, .iaddr 1 (.tmp 76) (.tmp 77), none, [4, 5], [76, 77]⟩,
   ⟨some 79, .load false 1 (.tmp 78), none, [6], [78]⟩,
   ⟨some 80, .mv (.tmp 0), none, [], [0]⟩,
   ⟨some 81, .mv (.tmp 13), none, [], [13]⟩,
   ⟨some 82, .iaddr 1 (.tmp 80) (.tmp 81), none, [8, 9], [80, 81]⟩,
   ⟨some 83, .load false 1 (.tmp 82), none, [10], [82]⟩,
   ⟨some 84, .iaddr 1 (.tmp 72) (.tmp 73), none, [0, 1, 0, 1, 4, 5, 6, 7, 11], [72, 73]⟩,
   ⟨none, .store 1 (.tmp 84) (.tmp 79), none, [12, 7, 0, 1, 4, 5, 6, 7, 11], [84, 79]⟩,
   ⟨some 85, .iaddr 1 (.tmp 74) (.tmp 75), none, [2, 3, 0, 1, 2, 3, 4, 5, 6, 7, 8, 9, 10, 11, 12, 13], [74, 75]⟩,
   ⟨none, .store 1 (.tmp 85) (.tmp 83), none, [14, 11, 13, 0, 1, 2, 3, 4, 5, 6, 7, 8, 9, 10, 11, 12, 13], [85, 83]⟩])
  (.ghost (.kill [0, 1, 4, 12, 71, 72, 73, 74, 75, 76, 77, 78, 79, 80, 81, 82, 83, 84, 85])))
  (.seq (.region false [
   ⟨some 86, .mv (.tmp 13), none, [], []⟩,
   ⟨some 10, .mv (.tmp 86), none, [], []⟩,
   ⟨some 11, .mv (.cst (.bool true)), none, [], []⟩])
  .ret))
 .skip))
 (.seq (.seq (.region true [
 ⟨some 87, .mv (.tmp 0), none, [], [0]⟩,
 ⟨some 88, .mv (.tmp 12), none, [], [12]⟩,
 ⟨some 89, .mv (.tmp 0), none, [], [0]⟩,
 ⟨some 90, .mv (.tmp 13), none, [], [13]⟩,
 ⟨some 91, .mv (.tmp 0), none, [], [0]⟩,
 ⟨some 92, .mv (.tmp 13), none, [], [13]⟩,
 ⟨some 93, .iaddr 1 (.tmp 91) (.tmp 92), none, [4, 5], [91, 92]⟩,
 ⟨some 94, .load false 1 (.tmp 93), none, [6], [93]⟩,
 ⟨some 95, .mv (.tmp 0), none, [], [0]⟩,
 ⟨some 96, .mv (.tmp 12), none, [], [12]⟩,
 ⟨some 97, .iaddr 1 (.tmp 95) (.tmp 96), none, [8, 9], [95, 96]⟩,
 ⟨some 98, .load false 1 (.tmp 97), none, [10], [97]⟩,
 ⟨some 99, .iaddr 1 (.tmp 87) (.tmp 88), none, [0, 1, 0, 1, 4, 5, 6, 7, 11], [87, 88]⟩,
 ⟨none, .store 1 (.tmp 99) (.tmp 94), none, [12, 7, 0, 1, 4, 5, 6, 7, 11], [99, 94]⟩,
 ⟨some 100, .iaddr 1 (.tmp 89) (.tmp 90), none, [2, 3, 0, 1, 2, 3, 4, 5, 6, 7, 8, 9, 10, 11, 12, 13], [89, 90]⟩,
 ⟨none, .store 1 (.tmp 100) (.tmp 98), none, [14, 11, 13, 0, 1, 2, 3, 4, 5, 6, 7, 8, 9, 10, 11, 12, 13], [100, 98]⟩])
 (.ghost (.kill [71, 87, 88, 89, 90, 91, 92, 93, 94, 95, 96, 97, 98, 99, 100])))
 (.seq (.seq (.region false [
 ⟨some 101, .mv (.tmp 12), none, [], []⟩,
 ⟨some 102, .bin .add (.tmp 101) (.cst (.int .i64 1)), none, [], []⟩,
 ⟨some 12, .mv (.tmp 102), none, [], []⟩])
 (.ghost (.kill [101, 102])))
 (.seq (.seq (.region false [
 ⟨some 103, .mv (.tmp 13), none, [], []⟩,
 ⟨some 104, .bin .sub (.tmp 103) (.cst (.int .i64 1)), none, [], []⟩,
 ⟨some 13, .mv (.tmp 104), none, [], []⟩])
 (.ghost (.kill [103, 104])))
 (.seq (.seq (.block 4 (.loop X7.b2))
 (.ghost (.kill [4, 12, 144])))
 X7.c0)))))
def X7.b1 : ACode := (.seq (.seq (.seq (.region true [
 ⟨some 50, .mv (.tmp 12), none, [], [12]⟩,
 ⟨some 51, .mv (.tmp 13), none, [], [13]⟩,
 ⟨some 52, .bin .leq (.tmp 50) (.tmp 51), none, [0, 1], [50, 51]⟩,
 ⟨some 53, .mv (.tmp 52), none, [2], [52]⟩,
 ⟨some 54, .mv (.tmp 4), (some ((some 53), true)), [3], [4]⟩,
 ⟨some 55, .mv (.tmp 0), (some ((some 53), true)), [3], [0]⟩,
 ⟨some 56, .mv (.tmp 13), (some ((some 53), true)), [3], [13]⟩,
 ⟨some 57, .iaddr 1 (.tmp 55) (.tmp 56), (some ((some 53), true)), [5, 6, 3], [55, 56]⟩,
 ⟨some 58, .load false 1 (.tmp 57), (some ((some 53), true)), [7, 3], [57]⟩,
 ⟨some 59, .mv (.tmp 0), (some ((some 53), true)), [3], [0]⟩,
 ⟨some 60, .mv (.tmp 1), (some ((some 53), true)), [3], [1]⟩,
 ⟨some 61, .iaddr 1 (.tmp 59) (.tmp 60), (some ((some 53), true)), [9, 10, 3], [59, 60]⟩,
 ⟨some 62, .load false 1 (.tmp 61), (some ((some 53), true)), [11, 3], [61]⟩,
 ⟨some 63, .callv true (.tmp 54) [(.tmp 58), (.tmp 62)], (some ((some 53), true)), [4, 8, 12, 3, 3], [54, 58, 62]⟩,
 ⟨some 64, .bin .lss (.tmp 63) (.cst (.int .i64 0)), (some ((some 53), true)), [13, 3], [63]⟩,
 ⟨some 65, .un .not (.tmp 64), (some ((some 53), true)), [14, 3], [64]⟩,
 ⟨some 66, .pick (.tmp 53) (.tmp 65) (.cst (.bool false)), none, [3, 15], [53, 65]⟩])
 (.ghost (.kill [50, 51, 52, 53, 54, 55, 56, 57, 58, 59, 60, 61, 62, 63, 64, 65])))
 (.cond (.tmp 66) .skip
 (.exit 2)))
 (.block 3 (.seq (.region false [
 ⟨some 67, .mv (.tmp 13), none, [], []⟩,
 ⟨some 68, .bin .sub (.tmp 67) (.cst (.int .i64 1)), none, [], []⟩,
 ⟨some 13, .mv (.tmp 68), none, [], []⟩])
 (.ghost (.kill [66, 67, 68])))))
def X7.c4 : ACode := (.seq (.seq (.block 2 (.loop X7.b1))
 (.ghost (.kill [66])))
 X7.c3)
def X7.b0 : ACode := (.seq (.seq (.seq (.region true [
 ⟨some 32, .mv (.tmp 12), none, [], [12]⟩,
 ⟨some 33, .mv (.tmp 13), none, [], [13]⟩,
 ⟨some 34, .bin .leq (.tmp 32) (.tmp 33), none, [0, 1], [32, 33]⟩,
 ⟨some 35, .mv (.tmp 34), none, [2], [34]⟩,
 ⟨some 36, .mv (.tmp 4), (some ((some 35), true)), [3], [4]⟩,
 ⟨some 37, .mv (.tmp 0), (some ((some 35), true)), [3], [0]⟩,
 ⟨some 38, .mv (.tmp 12), (some ((some 35), true)), [3], [12]⟩,
 ⟨some 39, .iaddr 1 (.tmp 37) (.tmp 38), (some ((some 35), true)), [5, 6, 3], [37, 38]⟩,
 ⟨some 40, .load false 1 (.tmp 39), (some ((some 35), true)), [7, 3], [39]⟩,
 ⟨some 41, .mv (.tmp 0), (some ((some 35), true)), [3], [0]⟩,
 ⟨some 42, .mv (.tmp 1), (some ((some 35), true)), [3], [1]⟩,
 ⟨some 43, .iaddr 1 (.tmp 41) (.tmp 42), (some ((some 35), true)), [9, 10, 3], [41, 42]⟩,
 ⟨some 44, .load false 1 (.tmp 43), (some ((some 35), true)), [11, 3], [43]⟩,
 ⟨some 45, .callv true (.tmp 36) [(.tmp 40), (.tmp 44)], (some ((some 35), true)), [4, 8, 12, 3, 3], [36, 40, 44]⟩,
 ⟨some 46, .bin .lss (.tmp 45) (.cst (.int .i64 0)), (some ((some 35), true)), [13, 3], [45]⟩,
 ⟨some 47, .pick (.tmp 35) (.tmp 46) (.cst (.bool false)), none, [3, 14], [35, 46]⟩])
 (.ghost (.kill [32, 33, 34, 35, 36, 37, 38, 39, 40, 41, 42, 43, 44, 45, 46])))
 (.cond (.tmp 47) .skip
 (.exit 0)))
 (.block 1 (.seq (.region false [
 ⟨some 48, .mv (.tmp 12), none, [], []⟩,
 ⟨some 49, .bin .add (.tmp 48) (.cst (.int .i64 1)), none, [], []⟩,
 ⟨some 12, .mv (.tmp 49), none, [], []⟩])
 (.ghost (.kill [47, 48, 49])))))
def X7.main : ACode := (.seq (.seq (.region false [
 ⟨some 10, .mv (.cst (.int .i64 0)), none, [], []⟩,
 ⟨some 11, .mv (.cst (.bool false)), none, [], []⟩])
 (.ghost (.kill [10, 11])))
 (.seq (.seq (.region true [
 ⟨some 14, .mv (.tmp 0), none, [], [0]⟩,
 ⟨some 15, .mv (.tmp 1), none, [], [1]⟩,
 ⟨some 16, .mv (.tmp 0), none, [], [0]⟩,
 ⟨some 17, .mv (.tmp 3), none, [], [3]⟩,
 ⟨some 18, .mv (.tmp 0), none, [], [0]⟩,
 ⟨some 19, .mv (.tmp 3), none, [], [3]⟩,
 ⟨some 20, .iaddr 1 (.tmp 18) (.tmp 19), none, [4, 5], [18, 19]⟩,
 ⟨some 21, .load false 1 (.tmp 20), none, [6], [20]⟩,
 ⟨some 22, .mv (.tmp 0), none, [], [0]⟩,
 ⟨some 23, .mv (.tmp 1), none, [], [1]⟩,
 ⟨some 24, .iaddr 1 (.tmp 22) (.tmp 23), none, [8, 9], [22, 23]⟩,
 ⟨some 25, .load false 1 (.tmp 24), none, [10], [24]⟩,
 ⟨some 26, .iaddr 1 (.tmp 14) (.tmp 15), none, [0, 1, 0, 1, 4, 5, 6, 7, 11], [14, 15]⟩,
 ⟨none, .store 1 (.tmp 26) (.tmp 21), none, [12, 7, 0, 1, 4, 5, 6, 7, 11], [26, 21]⟩,
 ⟨some 27, .iaddr 1 (.tmp 16) (.tmp 17), none, [2, 3, 0, 1, 2, 3, 4, 5, 6, 7, 8, 9, 10, 11, 12, 13], [16, 17]⟩,
 ⟨none, .store 1 (.tmp 27) (.tmp 25), none, [14, 11, 13, 0, 1, 2, 3, 4, 5, 6, 7, 8, 9, 10, 11, 12, 13], [27, 25]⟩])
 (.ghost (.kill [3, 14, 15, 16, 17, 18, 19, 20, 21, 22, 23, 24, 25, 26, 27])))
 (.seq (.seq (.region false [
 ⟨some 28, .mv (.tmp 1), none, [], []⟩,
 ⟨some 29, .bin .add (.tmp 28) (.cst (.int .i64 1)), none, [], []⟩,
 ⟨some 30, .mv (.tmp 2), none, [], []⟩,
 ⟨some 31, .bin .sub (.tmp 30) (.cst (.int .i64 1)), none, [], []⟩,
 ⟨some 12, .mv (.tmp 29), none, [], []⟩,
 ⟨some 13, .mv (.tmp 31), none, [], []⟩])
 (.ghost (.kill [2, 28, 29, 30, 31])))
 (.seq (.seq (.block 0 (.loop X7.b0))
 (.ghost (.kill [47])))
 X7.c4))))
def X7.k4 : List Item := [.inBlock 8, .code (.ghost (.kill [139])), .code X7.c1, .inBlock 5, .inLoop X7.b2, .inBlock 4, .code (.ghost (.kill [4, 12, 144])), .code X7.c0]
def X7.k3 : List Item := [.inBlock 6, .code (.ghost (.kill [120])), .code X7.c2, .inBlock 5, .inLoop X7.b2, .inBlock 4, .code (.ghost (.kill [4, 12, 144])), .code X7.c0]
def X7.k2 : List Item := [.inBlock 4, .code (.ghost (.kill [4, 12, 144])), .code X7.c0]
def X7.k1 : List Item := [.inBlock 2, .code (.ghost (.kill [66])), .code X7.c3]
def X7.k0 : List Item := [.inBlock 0, .code (.ghost (.kill [47])), .code X7.c4]
def X7 : AFunc := ⟨178, [.tmp 10, .tmp 11], X7.main, false⟩
def X50.c0 : ACode := (.seq (.region false [
 ⟨some 13, .mv (.tmp 2), none, [], []⟩,
 ⟨some 14, .mv (.tmp 0), none, [], []⟩,
 ⟨some 15, .conv .u8 (.tmp 14), none, [], []⟩,
 ⟨some 16, .idxS (.cst (.str ⟨#[0, 1, 2, 2, 3, 3, 3, 3, 4, 4, 4, 4, 4, 4, 4, 4, 5, 5, 5, 5, 5, 5, 5, 5, 5, 5, 5, 5, 5, 5, 5, 5, 6, 6, 6, 6, 6, 6, 6, 6, 6, 6, 6, 6, 6, 6, 6, 6, 6, 6, 6, 6, 6, 6, 6, 6, 6, 6, 6, 6, 6, 6, 6, 6, 7, 7, 7, 7, 7, 7, 7, 7, 7, 7, 7, 7, 7, 7, 7, 7, 7, 7, 7, 7, 7, 7, 7, 7, 7, 7, 7, 7, 7, 7, 7, 7, 7, 7, 7, 7, 7, 7, 7, 7, 7, 7, 7, 7, 7, 7, 7, 7, 7, 7, 7, 7, 7, 7, 7, 7, 7, 7, 7, 7, 7, 7, 7, 7, 8, 8, 8, 8, 8, 8, 8, 8, 8, 8, 8, 8, 8, 8, 8, 8, 8, 8, 8, 8, 8, 8, 8, 8, 8, 8, 8, 8, 8, 8, 8, 8, 8, 8, 8, 8, 8, 8, 8, 8, 8, 8, 8, 8, 8, 8, 8, 8, 8, 8, 8, 8, 8, 8, 8, 8, 8, 8, 8, 8, 8, 8, 8, 8, 8, 8, 8, 8, 8, 8, 8, 8, 8, 8, 8, 8, 8, 8, 8, 8, 8, 8, 8, 8, 8, 8, 8, 8, 8, 8, 8, 8, 8, 8, 8, 8, 8, 8, 8, 8, 8, 8, 8, 8, 8, 8, 8, 8, 8, 8, 8, 8, 8, 8, 8, 8, 8, 8, 8, 8, 8, 8, 8, 8, 8, 8, 8, 8]⟩)) (.tmp 15), none, [], []⟩,
 ⟨some 17, .conv .i64 (.tmp 16), none, [], []⟩,
 ⟨some 18, .bin .add (.tmp 13) (.tmp 17), none, [], []⟩,
 ⟨some 2, .mv (.tmp 18), none, [], []⟩])
 .ret)
def X50.c1 : ACode := (.seq (.seq (.seq (.region false [
 ⟨some 7, .mv (.tmp 0), none, [], []⟩,
 ⟨some 8, .bin .geq (.tmp 7) (.cst (.int .u32 256)), none, [], []⟩])
 (.ghost (.kill [7])))
 (.seq (.cond (.tmp 8) (.seq (.seq (.region false [
   ⟨some 9, .mv (.tmp 0), none, [], []⟩,
   ⟨some 10, .bin .shr (.tmp 9) (.cst (.int .u64 8)), none, [], []⟩,
   ⟨some 0, .mv (.tmp 10), none, [], []⟩])
  (.ghost (.kill [8, 9, 10])))
  (.seq (.region false [
   ⟨some 11, .mv (.tmp 2), none, [], []⟩,
   ⟨some 12, .bin .add (.tmp 11) (.cst (.int .i64 8)), none, [], []⟩,
   ⟨some 2, .mv (.tmp 12), none, [], []⟩])
  (.ghost (.kill [11, 12]))))
 .skip)
 (.ghost (.kill [8]))))
 X50.c0)
def X50.main : ACode := (.seq (.region false [
 ⟨some 2, .mv (.cst (.int .i64 0)), none, [], []⟩])
 (.seq (.seq (.seq (.region false [
 ⟨some 3, .mv (.tmp 0), none, [], []⟩,
 ⟨some 4, .bin .geq (.tmp 3) (.cst (.int .u32 65536)), none, [], []⟩])
 (.ghost (.kill [3])))
 (.seq (.cond (.tmp 4) (.seq (.seq (.region false [
   ⟨some 5, .mv (.tmp 0), none, [], []⟩,
   ⟨some 6, .bin .shr (.tmp 5) (.cst (.int .u64 16)), none, [], []⟩,
   ⟨some 0, .mv (.tmp 6), none, [], []⟩])
  (.ghost (.kill [2, 4, 5, 6])))
  (.region false [
   ⟨some 2, .mv (.cst (.int .i64 16)), none, [], []⟩]))
 .skip)
 (.ghost (.kill [4]))))
 X50.c1))
def X50 : AFunc := ⟨19, [.tmp 2], X50.main, false⟩
def X49.c0 : ACode := (.seq (.region false [
 ⟨some 19, .mv (.tmp 2), none, [], []⟩,
 ⟨some 20, .mv (.tmp 0), none, [], []⟩,
 ⟨some 21, .conv .u8 (.tmp 20), none, [], []⟩,
 ⟨some 22, .idxS (.cst (.str ⟨#[0, 1, 2, 2, 3, 3, 3, 3, 4, 4, 4, 4, 4, 4, 4, 4, 5, 5, 5, 5, 5, 5, 5, 5, 5, 5, 5, 5, 5, 5, 5, 5, 6, 6, 6, 6, 6, 6, 6, 6, 6, 6, 6, 6, 6, 6, 6, 6, 6, 6, 6, 6, 6, 6, 6, 6, 6, 6, 6, 6, 6, 6, 6, 6, 7, 7, 7, 7, 7, 7, 7, 7, 7, 7, 7, 7, 7, 7, 7, 7, 7, 7, 7, 7, 7, 7, 7, 7, 7, 7, 7, 7, 7, 7, 7, 7, 7, 7, 7, 7, 7, 7, 7, 7, 7, 7, 7, 7, 7, 7, 7, 7, 7, 7, 7, 7, 7, 7, 7, 7, 7, 7, 7, 7, 7, 7, 7, 7, 8, 8, 8, 8, 8, 8, 8, 8, 8, 8, 8, 8, 8, 8, 8, 8, 8, 8, 8, 8, 8, 8, 8, 8, 8, 8, 8, 8, 8, 8, 8, 8, 8, 8, 8, 8, 8, 8, 8, 8, 8, 8, 8, 8, 8, 8, 8, 8, 8, 8, 8, 8, 8, 8, 8, 8, 8, 8, 8, 8, 8, 8, 8, 8, 8, 8, 8, 8, 8, 8, 8, 8, 8, 8, 8, 8, 8, 8, 8, 8, 8, 8, 8, 8, 8, 8, 8, 8, 8, 8, 8, 8, 8, 8, 8, 8, 8, 8, 8, 8, 8, 8, 8, 8, 8, 8, 8, 8, 8, 8, 8, 8, 8, 8, 8, 8, 8, 8, 8, 8, 8, 8, 8, 8, 8, 8, 8, 8]⟩)) (.tmp 21), none, [], []⟩,
 ⟨some 23, .conv .i64 (.tmp 22), none, [], []⟩,
 ⟨some 24, .bin .add (.tmp 19) (.tmp 23), none, [], []⟩,
 ⟨some 2, .mv (.tmp 24), none, [], []⟩])
 .ret)
def X49.c1 : ACode := (.seq (.seq (.seq (.region false [
 ⟨some 13, .mv (.tmp 0), none, [], []⟩,
 ⟨some 14, .bin .geq (.tmp 13) (.cst (.int .u64 256)), none, [], []⟩])
 (.ghost (.kill [13])))
 (.seq (.cond (.tmp 14) (.seq (.seq (.region false [
   ⟨some 15, .mv (.tmp 0), none, [], []⟩,
   ⟨some 16, .bin .shr (.tmp 15) (.cst (.int .u64 8)), none, [], []⟩,
   ⟨some 0, .mv (.tmp 16), none, [], []⟩])
  (.ghost (.kill [14, 15, 16])))
  (.seq (.region false [
   ⟨some 17, .mv (.tmp 2), none, [], []⟩,
   ⟨some 18, .bin .add (.tmp 17) (.cst (.int .i64 8)), none, [], []⟩,
   ⟨some 2, .mv (.tmp 18), none, [], []⟩])
  (.ghost (.kill [17, 18]))))
 .skip)
 (.ghost (.kill [14]))))
 X49.c0)
def X49.c2 : ACode := (.seq (.seq (.seq (.region false [
 ⟨some 7, .mv (.tmp 0), none, [], []⟩,
 ⟨some 8, .bin .geq (.tmp 7) (.cst (.int .u64 65536)), none, [], []⟩])
 (.ghost (.kill [7])))
 (.seq (.cond (.tmp 8) (.seq (.seq (.region false [
   ⟨some 9, .mv (.tmp 0), none, [], []⟩,
   ⟨some 10, .bin .shr (.tmp 9) (.cst (.int .u64 16)), none, [], []⟩,
   ⟨some 0, .mv (.tmp 10), none, [], []⟩])
  (.ghost (.kill [8, 9, 10])))
  (.seq (.region false [
   ⟨some 11, .mv (.tmp 2), none, [], []⟩,
   ⟨some 12, .bin .add (.tmp 11) (.cst (.int .i64 16)), none, [], []⟩,
   ⟨some 2, .mv (.tmp 12), none, [], []⟩])
  (.ghost (.kill [11, 12]))))
 .skip)
 (.ghost (.kill [8]))))
 X49.c1)
def X49.main : ACode := (.seq (.region false [
 ⟨some 2, .mv (.cst (.int .i64 0)), none, [], []⟩])
 (.seq (.seq (.seq (.region false [
 ⟨some 3, .mv (.tmp 0), none, [], []⟩,
 ⟨some 4, .bin .geq (.tmp 3) (.cst (.int .u64 4294967296)), none, [], []⟩])
 (.ghost (.kill [3])))
 (.seq (.cond (.tmp 4) (.seq (.seq (.region false [
   ⟨some 5, .mv (.tmp 0), none, [], []⟩,
   ⟨some 6, .bin .shr (.tmp 5) (.cst (.int .u64 32)), none, [], []⟩,
   ⟨some 0, .mv (.tmp 6), none, [], []⟩])
  (.ghost (.kill [2, 4, 5, 6])))
  (.region false [
   ⟨some 2, .mv (.cst (.int .i64 32)), none, [], []⟩]))
 .skip)
 (.ghost (.kill [4]))))
 X49.c2))
def X49 : AFunc := ⟨25, [.tmp 2], X49.main, false⟩
def X33.c0 : ACode := (.seq (.region false [
 ⟨some 17, .mv (.tmp 3), none, [], []⟩,
 ⟨some 2, .mv (.tmp 17), none, [], []⟩])
 .ret)
def X33.b0 : ACode := (.seq (.region false [
 ⟨some 9, .bin .lss (.tmp 8) (.tmp 7), none, [], []⟩])
 (.seq (.cond (.tmp 9) .skip
 (.exit 0))
 (.seq (.seq (.block 1 (.seq (.seq (.region false [
 ⟨some 10, .iaddr 1 (.tmp 6) (.tmp 8), none, [], []⟩,
 ⟨some 11, .load false 1 (.tmp 10), none, [], []⟩,
 ⟨some 5, .mv (.tmp 11), none, [], []⟩])
 (.ghost (.kill [9, 10, 11])))
 (.seq (.seq (.region false [
 ⟨some 12, .mv (.tmp 5), none, [], []⟩,
 ⟨some 13, .mv (.tmp 3), none, [], []⟩,
 ⟨some 14, .bin .neq (.tmp 12) (.tmp 13), none, [], []⟩])
 (.ghost (.kill [12, 13])))
 (.cond (.tmp 14) (.seq (.region false [
   ⟨some 15, .mv (.tmp 5), none, [], []⟩,
   ⟨some 2, .mv (.tmp 15), none, [], []⟩])
  .ret)
 .skip))))
 (.ghost (.kill [5, 14])))
 (.seq (.region false [
 ⟨some 16, .bin .add (.tmp 8) (.cst (.int .i64 1)), none, [], []⟩,
 ⟨some 8, .mv (.tmp 16), none, [], []⟩])
 (.ghost (.kill [16]))))))
def X33.main : ACode := (.seq (.seq (.region false [
 ⟨some 2, .mv (.cst (.int .i64 0)), none, [], []⟩])
 (.ghost (.kill [2])))
 (.seq (.region false [
 ⟨some 3, .mv (.cst (.int .i64 0)), none, [], []⟩])
 (.seq (.seq (.seq (.region false [
 ⟨some 6, .mv (.tmp 0), none, [], []⟩,
 ⟨some 7, .len .sl (.tmp 6), none, [], []⟩,
 ⟨some 8, .mv (.cst (.int .i64 0)), none, [], []⟩])
 (.ghost (.kill [0])))
 (.seq (.block 0 (.loop X33.b0))
 (.ghost (.kill [6, 7, 8, 9]))))
 X33.c0)))
def X33.k0 : List Item := [.inBlock 0, .code (.ghost (.kill [6, 7, 8, 9])), .code X33.c0]
def X33 : AFunc := ⟨18, [.tmp 2], X33.main, false⟩
def X21.main : ACode := (.seq (.seq (.region false [
 ⟨some 4, .mv (.cst (.int .i64 0)), none, [], []⟩])
 (.ghost (.kill [4])))
 (.seq (.seq (.region false [
 ⟨some 7, .mv (.tmp 0), none, [], []⟩,
 ⟨some 8, .call true i_X27 [(.tmp 7)], none, [], []⟩,
 ⟨some 5, .mv (.tmp 8), none, [], []⟩])
 (.ghost (.kill [7, 8])))
 (.seq (.seq (.region false [
 ⟨some 9, .mv (.tmp 1), none, [], []⟩,
 ⟨some 10, .call true i_X27 [(.tmp 9)], none, [], []⟩,
 ⟨some 6, .mv (.tmp 10), none, [], []⟩])
 (.ghost (.kill [9, 10])))
 (.seq (.seq (.seq (.region false [
 ⟨some 11, .mv (.tmp 5), none, [], []⟩])
 (.ghost (.kill [5])))
 (.cond (.tmp 11) (.seq (.seq (.seq (.region false [
   ⟨some 12, .mv (.tmp 6), none, [], []⟩])
  (.ghost (.kill [0, 1, 6, 11])))
  (.cond (.tmp 12) (.seq (.region false [
    ⟨some 4, .mv (.cst (.int .i64 0)), none, [], []⟩])
   .ret)
  .skip))
  (.seq (.region false [
   ⟨some 4, .mv (.cst (.int .i64 (-1))), none, [], []⟩])
  .ret))
 .skip))
 (.seq (.seq (.seq (.region false [
 ⟨some 13, .mv (.tmp 6), none, [], []⟩])
 (.ghost (.kill [6, 11])))
 (.cond (.tmp 13) (.seq (.region false [
   ⟨some 4, .mv (.cst (.int .i64 1)), none, [], []⟩])
  .ret)
 .skip))
 (.seq (.seq (.seq (.region false [
 ⟨some 14, .mv (.tmp 0), none, [], []⟩,
 ⟨some 15, .mv (.tmp 1), none, [], []⟩,
 ⟨some 16, .bin .lss (.tmp 14) (.tmp 15), none, [], []⟩])
 (.ghost (.kill [13, 14, 15])))
 (.cond (.tmp 16) (.seq (.region false [
   ⟨some 4, .mv (.cst (.int .i64 (-1))), none, [], []⟩])
  .ret)
 .skip))
 (.seq (.seq (.seq (.region false [
 ⟨some 17, .mv (.tmp 0), none, [], []⟩,
 ⟨some 18, .mv (.tmp 1), none, [], []⟩,
 ⟨some 19, .bin .gtr (.tmp 17) (.tmp 18), none, [], []⟩])
 (.ghost (.kill [0, 1, 16, 17, 18])))
 (.cond (.tmp 19) (.seq (.region false [
   ⟨some 4, .mv (.cst (.int .i64 1)), none, [], []⟩])
  .ret)
 .skip))
 (.seq (.region false [
 ⟨some 4, .mv (.cst (.int .i64 0)), none, [], []⟩])
 .ret))))))))
def X21 : AFunc := ⟨20, [.tmp 4], X21.main, false⟩
def X9.c0 : ACode := (.ghost (.kill [0, 2, 3, 4, 10, 11, 18]))
def X9.c1 : ACode := (.seq (.seq (.seq (.region true [
 ⟨some 43, .mv (.tmp 4), none, [], [4]⟩,
 ⟨some 44, .mv (.tmp 0), none, [], [0]⟩,
 ⟨some 45, .mv (.tmp 3), none, [], [3]⟩,
 ⟨some 46, .mv (.tmp 10), none, [], [10]⟩,
 ⟨some 47, .bin .add (.tmp 45) (.tmp 46), none, [2, 3], [45, 46]⟩,
 ⟨some 48, .iaddr 1 (.tmp 44) (.tmp 47), none, [1, 4], [44, 47]⟩,
 ⟨some 49, .load false 1 (.tmp 48), none, [5], [48]⟩,
 ⟨some 50, .mv (.tmp 0), none, [], [0]⟩,
 ⟨some 51, .mv (.tmp 3), none, [], [3]⟩,
 ⟨some 52, .mv (.tmp 11), none, [], [11]⟩,
 ⟨some 53, .bin .add (.tmp 51) (.tmp 52), none, [8, 9], [51, 52]⟩,
 ⟨some 54, .iaddr 1 (.tmp 50) (.tmp 53), none, [7, 10], [50, 53]⟩,
 ⟨some 55, .load false 1 (.tmp 54), none, [11], [54]⟩,
 ⟨some 56, .callv true (.tmp 43) [(.tmp 49), (.tmp 55)], none, [0, 6, 12], [43, 49, 55]⟩,
 ⟨some 57, .bin .lss (.tmp 56) (.cst (.int .i64 0)), none, [13], [56]⟩,
 ⟨some 58, .un .not (.tmp 57), none, [14], [57]⟩])
 (.ghost (.kill [43, 44, 45, 46, 47, 48, 49, 50, 51, 52, 53, 54, 55, 56, 57])))
 (.cond (.tmp 58) .ret
 .skip))
 (.seq (.seq (.region true [
 ⟨some 59, .mv (.tmp 0), none, [], [0]⟩,
 ⟨some 60, .mv (.tmp 3), none, [], [3]⟩,
 ⟨some 61, .mv (.tmp 10), none, [], [10]⟩,
 ⟨some 62, .bin .add (.tmp 60) (.tmp 61), none, [1, 2], [60, 61]⟩,
 ⟨some 63, .mv (.tmp 0), none, [], [0]⟩,
 ⟨some 64, .mv (.tmp 3), none, [], [3]⟩,
 ⟨some 65, .mv (.tmp 11), none, [], [11]⟩,
 ⟨some 66, .bin .add (.tmp 64) (.tmp 65), none, [5, 6], [64, 65]⟩,
 ⟨some 67, .mv (.tmp 0), none, [], [0]⟩,
 ⟨some 68, .mv (.tmp 3), none, [], [3]⟩,
 ⟨some 69, .mv (.tmp 11), none, [], [11]⟩,
 ⟨some 70, .bin .add (.tmp 68) (.tmp 69), none, [9, 10], [68, 69]⟩,
 ⟨some 71, .iaddr 1 (.tmp 67) (.tmp 70), none, [8, 11], [67, 70]⟩,
 ⟨some 72, .load false 1 (.tmp 71), none, [12], [71]⟩,
 ⟨some 73, .mv (.tmp 0), none, [], [0]⟩,
 ⟨some 74, .mv (.tmp 3), none, [], [3]⟩,
 ⟨some 75, .mv (.tmp 10), none, [], [10]⟩,
 ⟨some 76, .bin .add (.tmp 74) (.tmp 75), none, [15, 16], [74, 75]⟩,
 ⟨some 77, .iaddr 1 (.tmp 73) (.tmp 76), none, [14, 17], [73, 76]⟩,
 ⟨some 78, .load false 1 (.tmp 77), none, [18], [77]⟩,
 ⟨some 79, .iaddr 1 (.tmp 59) (.tmp 62), none, [0, 3, 0, 1, 2, 3, 8, 9, 10, 11, 12, 13, 19], [59, 62]⟩,
 ⟨none, .store 1 (.tmp 79) (.tmp 72), none, [20, 13, 0, 1, 2, 3, 8, 9, 10, 11, 12, 13, 19], [79, 72]⟩,
 ⟨some 80, .iaddr 1 (.tmp 63) (.tmp 66), none, [4, 7, 0, 1, 2, 3, 4, 5, 6, 7, 8, 9, 10, 11, 12, 13, 14, 15, 16, 17, 18, 19, 20, 21], [63, 66]⟩,
 ⟨none, .store 1 (.tmp 80) (.tmp 78), none, [22, 19, 21, 0, 1, 2, 3, 4, 5, 6, 7, 8, 9, 10, 11, 12, 13, 14, 15, 16, 17, 18, 19, 20, 21], [80, 78]⟩])
 (.ghost (.kill [10, 58, 59, 60, 61, 62, 63, 64, 65, 66, 67, 68, 69, 70, 71, 72, 73, 74, 75, 76, 77, 78, 79, 80])))
 (.seq (.region false [
 ⟨some 81, .mv (.tmp 11), none, [], []⟩,
 ⟨some 10, .mv (.tmp 81), none, [], []⟩])
 (.ghost (.kill [11, 81])))))
def X9.b0 : ACode := (.block 1 (.seq (.seq (.region false [
 ⟨some 13, .mv (.tmp 10), none, [], []⟩,
 ⟨some 14, .bin .mul (.cst (.int .i64 2)) (.tmp 13), none, [], []⟩,
 ⟨some 15, .bin .add (.tmp 14) (.cst (.int .i64 1)), none, [], []⟩,
 ⟨some 11, .mv (.tmp 15), none, [], []⟩])
 (.ghost (.kill [13, 14, 15])))
 (.seq (.seq (.seq (.region false [
 ⟨some 16, .mv (.tmp 11), none, [], []⟩,
 ⟨some 17, .mv (.tmp 2), none, [], []⟩,
 ⟨some 18, .bin .geq (.tmp 16) (.tmp 17), none, [], []⟩])
 (.ghost (.kill [16, 17])))
 (.cond (.tmp 18) (.exit 0)
 .skip))
 (.seq (.seq (.seq (.region true [
 ⟨some 19, .mv (.tmp 11), none, [], [11]⟩,
 ⟨some 20, .bin .add (.tmp 19) (.cst (.int .i64 1)), none, [0], [19]⟩,
 ⟨some 21, .mv (.tmp 2), none, [], [2]⟩,
 ⟨some 22, .bin .lss (.tmp 20) (.tmp 21), none, [1, 2], [20, 21]⟩,
 ⟨some 23, .mv (.tmp 22), none, [3], [22]⟩,
 ⟨some 24, .mv (.tmp 4), (some ((some 23), true)), [4], [4]⟩,
 ⟨some 25, .mv (.tmp 0), (some ((some 23), true)), [4], [0]⟩,
 ⟨some 26, .mv (.tmp 3), (some ((some 23), true)), [4], [3]⟩,
 ⟨some 27, .mv (.tmp 11), (some ((some 23), true)), [4], [11]⟩,
 ⟨some 28, .bin .add (.tmp 26) (.tmp 27), (some ((some 23), true)), [7, 8, 4], [26, 27]⟩,
 ⟨some 29, .iaddr 1 (.tmp 25) (.tmp 28), (some ((some 23), true)), [6, 9, 4], [25, 28]⟩,
 ⟨some 30, .load false 1 (.tmp 29), (some ((some 23), true)), [10, 4], [29]⟩,
 ⟨some 31, .mv (.tmp 0), (some ((some 23), true)), [4], [0]⟩,
 ⟨some 32, .mv (.tmp 3), (some ((some 23), true)), [4], [3]⟩,
 ⟨some 33, .mv (.tmp 11), (some ((some 23), true)), [4], [11]⟩,
 ⟨some 34, .bin .add (.tmp 32) (.tmp 33), (some ((some 23), true)), [13, 14, 4], [32, 33]⟩,
 ⟨some 35, .bin .add (.tmp 34) (.cst (.int .i64 1)), (some ((some 23), true)), [15, 4], [34]⟩,
 ⟨some 36, .iaddr 1 (.tmp 31) (.tmp 35), (some ((some 23), true)), [12, 16, 4], [31, 35]⟩,
 ⟨some 37, .load false 1 (.tmp 36), (some ((some 23), true)), [17, 4], [36]⟩,
 ⟨some 38, .callv true (.tmp 24) [(.tmp 30), (.tmp 37)], (some ((some 23), true)), [5, 11, 18, 4, 4], [24, 30, 37]⟩,
 ⟨some 39, .bin .lss (.tmp 38) (.cst (.int .i64 0)), (some ((some 23), true)), [19, 4], [38]⟩,
 ⟨some 40, .pick (.tmp 23) (.tmp 39) (.cst (.bool false)), none, [4, 20], [23, 39]⟩])
 (.ghost (.kill [18, 19, 20, 21, 22, 23, 24, 25, 26, 27, 28, 29, 30, 31, 32, 33, 34, 35, 36, 37, 38, 39])))
 (.seq (.cond (.tmp 40) (.seq (.region false [
   ⟨some 41, .mv (.tmp 11), none, [], []⟩,
   ⟨some 42, .bin .add (.tmp 41) (.cst (.int .i64 1)), none, [], []⟩,
   ⟨some 11, .mv (.tmp 42), none, [], []⟩])
  (.ghost (.kill [40, 41, 42])))
 .skip)
 (.ghost (.kill [40]))))
 X9.c1))))
def X9.main : ACode := (.seq (.seq (.region false [
 ⟨some 12, .mv (.tmp 1), none, [], []⟩,
 ⟨some 10, .mv (.tmp 12), none, [], []⟩])
 (.ghost (.kill [1, 12])))
 (.seq (.block 0 (.loop X9.b0))
 X9.c0))
def X9.k0 : List Item := [.inBlock 0, .code X9.c0]
def X9 : AFunc := ⟨82, [], X9.main, false⟩
def X16.main : ACode := (.seq (.seq (.region false [
 ⟨some 2, .mv (.cst (.int .u64 0)), none, [], []⟩])
 (.ghost (.kill [2])))
 (.seq (.region false [
 ⟨some 3, .mv (.tmp 0), none, [], []⟩,
 ⟨some 4, .conv .u64 (.tmp 3), none, [], []⟩,
 ⟨some 5, .call true i_X63 [(.tmp 4)], none, [], []⟩,
 ⟨some 6, .bin .shl (.cst (.int .u64 1)) (.tmp 5), none, [], []⟩,
 ⟨some 2, .mv (.tmp 6), none, [], []⟩])
 .ret))
def X16 : AFunc := ⟨7, [.tmp 2], X16.main, false⟩
def X18.main : ACode := (.seq (.seq (.region false [
 ⟨some 2, .mv (.cst (.int .u64 0)), none, [], []⟩])
 (.ghost (.kill [2])))
 (.seq (.seq (.region true [
 ⟨some 3, .mv (.tmp 0), none, [], [0]⟩,
 ⟨some 4, .nilck (.tmp 3), none, [0], [3]⟩,
 ⟨some 5, .load false 1 (.tmp 4), none, [1], [4]⟩,
 ⟨some 6, .mv (.tmp 0), none, [], [0]⟩,
 ⟨some 7, .nilck (.tmp 6), none, [3], [6]⟩,
 ⟨some 8, .load false 1 (.tmp 7), none, [4], [7]⟩,
 ⟨some 9, .bin .shl (.tmp 8) (.cst (.int .u64 13)), none, [5], [8]⟩,
 ⟨some 10, .bin .xor (.tmp 5) (.tmp 9), none, [2, 6], [5, 9]⟩,
 ⟨some 11, .nilck (.tmp 3), none, [0, 0, 1, 2, 3, 4, 5, 6, 7], [3]⟩,
 ⟨none, .store 1 (.tmp 11) (.tmp 10), none, [8, 7, 0, 1, 2, 3, 4, 5, 6, 7], [11, 10]⟩])
 (.ghost (.kill [3, 4, 5, 6, 7, 8, 9, 10, 11])))
 (.seq (.seq (.region true [
 ⟨some 12, .mv (.tmp 0), none, [], [0]⟩,
 ⟨some 13, .nilck (.tmp 12), none, [0], [12]⟩,
 ⟨some 14, .load false 1 (.tmp 13), none, [1], [13]⟩,
 ⟨some 15, .mv (.tmp 0), none, [], [0]⟩,
 ⟨some 16, .nilck (.tmp 15), none, [3], [15]⟩,
 ⟨some 17, .load false 1 (.tmp 16), none, [4], [16]⟩,
 ⟨some 18, .bin .shr (.tmp 17) (.cst (.int .u64 7)), none, [5], [17]⟩,
 ⟨some 19, .bin .xor (.tmp 14) (.tmp 18), none, [2, 6], [14, 18]⟩,
 ⟨some 20, .nilck (.tmp 12), none, [0, 0, 1, 2, 3, 4, 5, 6, 7], [12]⟩,
 ⟨none, .store 1 (.tmp 20) (.tmp 19), none, [8, 7, 0, 1, 2, 3, 4, 5, 6, 7], [20, 19]⟩])
 (.ghost (.kill [12, 13, 14, 15, 16, 17, 18, 19, 20])))
 (.seq (.seq (.region true [
 ⟨some 21, .mv (.tmp 0), none, [], [0]⟩,
 ⟨some 22, .nilck (.tmp 21), none, [0], [21]⟩,
 ⟨some 23, .load false 1 (.tmp 22), none, [1], [22]⟩,
 ⟨some 24, .mv (.tmp 0), none, [], [0]⟩,
 ⟨some 25, .nilck (.tmp 24), none, [3], [24]⟩,
 ⟨some 26, .load false 1 (.tmp 25), none, [4], [25]⟩,
 ⟨some 27, .bin .shl (.tmp 26) (.cst (.int .u64 17)), none, [5], [26]⟩,
 ⟨some 28, .bin .xor (.tmp 23) (.tmp 27), none, [2, 6], [23, 27]⟩,
 ⟨some 29, .nilck (.tmp 21), none, [0, 0, 1, 2, 3, 4, 5, 6, 7], [21]⟩,
 ⟨none, .store 1 (.tmp 29) (.tmp 28), none, [8, 7, 0, 1, 2, 3, 4, 5, 6, 7], [29, 28]⟩])
 (.ghost (.kill [21, 22, 23, 24, 25, 26, 27, 28, 29])))
 (.seq (.region false [
 ⟨some 30, .mv (.tmp 0), none, [], []⟩,
 ⟨some 31, .nilck (.tmp 30), none, [], []⟩,
 ⟨some 32, .load false 1 (.tmp 31), none, [], []⟩,
 ⟨some 2, .mv (.tmp 32), none, [], []⟩])
 .ret)))))
def X18 : AFunc := ⟨33, [.tmp 2], X18.main, false⟩
def X1.main : ACode := (.seq (.seq (.region false [
 ⟨some 8, .mv (.cst (.int .i64 0)), none, [], []⟩])
 (.ghost (.kill [8])))
 (.seq (.region false [
 ⟨some 9, .mv (.tmp 0), none, [], []⟩,
 ⟨some 10, .mv (.tmp 1), none, [], []⟩,
 ⟨some 11, .bin .sub (.tmp 10) (.cst (.int .i64 1)), none, [], []⟩,
 ⟨some 12, .mv (.tmp 1), none, [], []⟩,
 ⟨some 13, .mv (.tmp 1), none, [], []⟩,
 ⟨some 14, .bin .add (.tmp 13) (.cst (.int .i64 1)), none, [], []⟩,
 ⟨some 15, .mv (.tmp 2), none, [], []⟩,
 ⟨some 16, .mv (.tmp 3), none, [], []⟩,
 ⟨some 17, .call false i_X13 [(.tmp 9), (.tmp 11), (.tmp 12), (.tmp 14), (.tmp 15), (.tmp 16)], none, [], []⟩,
 ⟨some 8, .mv (.tmp 17), none, [], []⟩])
 .ret))
def X1 : AFunc := ⟨18, [.tmp 8], X1.main, false⟩
def X13.main : ACode := (.seq (.seq (.region false [
 ⟨some 12, .mv (.cst (.int .i64 0)), none, [], []⟩])
 (.ghost (.kill [12])))
 (.seq (.seq (.region false [
 ⟨some 14, .mv (.tmp 0), none, [], []⟩,
 ⟨some 15, .mv (.tmp 1), none, [], []⟩,
 ⟨some 16, .mv (.tmp 2), none, [], []⟩,
 ⟨some 17, .mv (.tmp 4), none, [], []⟩,
 ⟨some 18, .mv (.tmp 5), none, [], []⟩,
 ⟨some 19, .call false i_X14 [(.tmp 14), (.tmp 15), (.tmp 16), (.tmp 17), (.tmp 18)], none, [], []⟩,
 ⟨some 13, .mv (.tmp 19), none, [], []⟩,
 ⟨some 20, .extr (.tmp 13) 0, none, [], []⟩,
 ⟨some 21, .extr (.tmp 13) 1, none, [], []⟩,
 ⟨some 1, .mv (.tmp 20), none, [], []⟩,
 ⟨some 2, .mv (.tmp 21), none, [], []⟩])
 (.ghost (.kill [13, 14, 15, 16, 17, 18, 19, 20, 21])))
 (.seq (.seq (.region false [
 ⟨some 23, .mv (.tmp 0), none, [], []⟩,
 ⟨some 24, .mv (.tmp 2), none, [], []⟩,
 ⟨some 25, .mv (.tmp 3), none, [], []⟩,
 ⟨some 26, .mv (.tmp 4), none, [], []⟩,
 ⟨some 27, .mv (.tmp 5), none, [], []⟩,
 ⟨some 28, .call false i_X14 [(.tmp 23), (.tmp 24), (.tmp 25), (.tmp 26), (.tmp 27)], none, [], []⟩,
 ⟨some 22, .mv (.tmp 28), none, [], []⟩,
 ⟨some 29, .extr (.tmp 22) 0, none, [], []⟩,
 ⟨some 30, .extr (.tmp 22) 1, none, [], []⟩,
 ⟨some 2, .mv (.tmp 29), none, [], []⟩,
 ⟨some 3, .mv (.tmp 30), none, [], []⟩])
 (.ghost (.kill [3, 22, 23, 24, 25, 26, 27, 28, 29, 30])))
 (.seq (.seq (.region false [
 ⟨some 32, .mv (.tmp 0), none, [], []⟩,
 ⟨some 33, .mv (.tmp 1), none, [], []⟩,
 ⟨some 34, .mv (.tmp 2), none, [], []⟩,
 ⟨some 35, .mv (.tmp 4), none, [], []⟩,
 ⟨some 36, .mv (.tmp 5), none, [], []⟩,
 ⟨some 37, .call false i_X14 [(.tmp 32), (.tmp 33), (.tmp 34), (.tmp 35), (.tmp 36)], none, [], []⟩,
 ⟨some 31, .mv (.tmp 37), none, [], []⟩,
 ⟨some 38, .extr (.tmp 31) 0, none, [], []⟩,
 ⟨some 39, .extr (.tmp 31) 1, none, [], []⟩,
 ⟨some 1, .mv (.tmp 38), none, [], []⟩,
 ⟨some 2, .mv (.tmp 39), none, [], []⟩])
 (.ghost (.kill [0, 1, 4, 5, 31, 32, 33, 34, 35, 36, 37, 38, 39])))
 (.seq (.region false [
 ⟨some 40, .mv (.tmp 2), none, [], []⟩,
 ⟨some 12, .mv (.tmp 40), none, [], []⟩])
 .ret)))))
def X13 : AFunc := ⟨41, [.tmp 12], X13.main, false⟩
def X27.main : ACode := (.seq (.seq (.region false [
 ⟨some 2, .mv (.cst (.bool false)), none, [], []⟩])
 (.ghost (.kill [2])))
 (.seq (.region false [
 ⟨some 3, .mv (.tmp 0), none, [], []⟩,
 ⟨some 4, .mv (.tmp 0), none, [], []⟩,
 ⟨some 5, .bin .neq (.tmp 3) (.tmp 4), none, [], []⟩,
 ⟨some 2, .mv (.tmp 5), none, [], []⟩])
 .ret))
def X27 : AFunc := ⟨6, [.tmp 2], X27.main, false⟩
def X14.main : ACode := (.seq (.seq (.region false [
 ⟨some 10, .mv (.cst (.int .i64 0)), none, [], []⟩,
 ⟨some 11, .mv (.cst (.int .i64 0)), none, [], []⟩])
 (.ghost (.kill [10, 11])))
 (.seq (.seq (.seq (.region true [
 ⟨some 12, .mv (.tmp 4), none, [], [4]⟩,
 ⟨some 13, .mv (.tmp 0), none, [], [0]⟩,
 ⟨some 14, .mv (.tmp 2), none, [], [2]⟩,
 ⟨some 15, .iaddr 1 (.tmp 13) (.tmp 14), none, [1, 2], [13, 14]⟩,
 ⟨some 16, .load false 1 (.tmp 15), none, [3], [15]⟩,
 ⟨some 17, .mv (.tmp 0), none, [], [0]⟩,
 ⟨some 18, .mv (.tmp 1), none, [], [1]⟩,
 ⟨some 19, .iaddr 1 (.tmp 17) (.tmp 18), none, [5, 6], [17, 18]⟩,
 ⟨some 20, .load false 1 (.tmp 19), none, [7], [19]⟩,
 ⟨some 21, .callv true (.tmp 12) [(.tmp 16), (.tmp 20)], none, [0, 4, 8], [12, 16, 20]⟩,
 ⟨some 22, .bin .lss (.tmp 21) (.cst (.int .i64 0)), none, [9], [21]⟩])
 (.ghost (.kill [0, 4, 12, 13, 14, 15, 16, 17, 18, 19, 20, 21])))
 (.cond (.tmp 22) (.seq (.seq (.region false [
   ⟨some 23, .mv (.tmp 3), none, [], []⟩,
   ⟨some 24, .nilck (.tmp 23), none, [], []⟩,
   ⟨some 25, .load false 1 (.tmp 24), none, [], []⟩,
   ⟨some 26, .bin .add (.tmp 25) (.cst (.int .i64 1)), none, [], []⟩,
   ⟨some 27, .nilck (.tmp 23), none, [], []⟩,
   ⟨none, .store 1 (.tmp 27) (.tmp 26), none, [], []⟩])
  (.ghost (.kill [3, 22, 23, 24, 25, 26, 27])))
  (.seq (.region false [
   ⟨some 28, .mv (.tmp 2), none, [], []⟩,
   ⟨some 29, .mv (.tmp 1), none, [], []⟩,
   ⟨some 10, .mv (.tmp 28), none, [], []⟩,
   ⟨some 11, .mv (.tmp 29), none, [], []⟩])
  .ret))
 .skip))
 (.seq (.region false [
 ⟨some 30, .mv (.tmp 1), none, [], []⟩,
 ⟨some 31, .mv (.tmp 2), none, [], []⟩,
 ⟨some 10, .mv (.tmp 30), none, [], []⟩,
 ⟨some 11, .mv (.tmp 31), none, [], []⟩])
 .ret)))
def X14 : AFunc := ⟨32, [.tmp 10, .tmp 11], X14.main, false⟩
def T : FuncId → Option AFunc
 | 4 => some X17
 | 7 => some X31
 | 9 => some X43
 | 11 => some X60
 | 12 => some X54
 | 13 => some X45
 | 15 => some X56
 | 17 => some X42
 | 19 => some X67
 | 20 => some X65
 | 21 => some X53
 | 22 => some X68
 | 23 => some X66
 | 24 => some X62
 | 25 => some X40
 | 26 => some X59
 | 27 => some X51
 | 28 => some X64
 | 29 => some X58
 | 30 => some X57
 | 31 => some X46
 | 32 => some X34
 | 36 => some X44
 | 39 => some X35
 | 40 => some X61
 | 41 => some X48
 | 42 => some X47
 | 43 => some X41
 | 44 => some X24
 | 45 => some X28
 | 46 => some X11
 | 47 => some X26
 | 48 => some X38
 | 49 => some X25
 | 51 => some X22
 | 52 => some X30
 | 53 => some X15
 | 54 => some X23
 | 55 => some X37
 | 56 => some X20
 | 57 => some X32
 | 58 => some X52
 | 59 => some X39
 | 60 => some X29
 | 61 => some X19
 | 62 => some X10
 | 63 => some X63
 | 64 => some X12
 | 65 => some X55
 | 66 => some X36
 | 67 => some X3
 | 68 => some X8
 | 69 => some X4
 | 70 => some X6
 | 71 => some X5
 | 72 => some X0
 | 73 => some X2
 | 74 => some X7
 | 75 => some X50
 | 76 => some X49
 | 77 => some X33
 | 78 => some X21
 | 79 => some X9
 | 80 => some X16
 | 81 => some X18
 | 82 => some X1
 | 83 => some X13
 | 84 => some X27
 | 85 => some X14
 | _ => none
theorem T_X17 : T i_X17 = some X17 := rfl
theorem T_X31 : T i_X31 = some X31 := rfl
theorem T_X43 : T i_X43 = some X43 := rfl
theorem T_X60 : T i_X60 = some X60 := rfl
theorem T_X54 : T i_X54 = some X54 := rfl
theorem T_X45 : T i_X45 = some X45 := rfl
theorem T_X56 : T i_X56 = some X56 := rfl
theorem T_X42 : T i_X42 = some X42 := rfl
theorem T_X67 : T i_X67 = some X67 := rfl
theorem T_X65 : T i_X65 = some X65 := rfl
theorem T_X53 : T i_X53 = some X53 := rfl
theorem T_X68 : T i_X68 = some X68 := rfl
theorem T_X66 : T i_X66 = some X66 := rfl
theorem T_X62 : T i_X62 = some X62 := rfl
theorem T_X40 : T i_X40 = some X40 := rfl
theorem T_X59 : T i_X59 = some X59 := rfl
theorem T_X51 : T i_X51 = some X51 := rfl
theorem T_X64 : T i_X64 = some X64 := rfl
theorem T_X58 : T i_X58 = some X58 := rfl
theorem T_X57 : T i_X57 = some X57 := rfl
theorem T_X46 : T i_X46 = some X46 := rfl
theorem T_X34 : T i_X34 = some X34 := rfl
theorem T_X44 : T i_X44 = some X44 := rfl
theorem T_X35 : T i_X35 = some X35 := rfl
theorem T_X61 : T i_X61 = some X61 := rfl
theorem T_X48 : T i_X48 = some X48 := rfl
theorem T_X47 : T i_X47 = some X47 := rfl
theorem T_X41 : T i_X41 = some X41 := rfl
theorem T_X24 : T i_X24 = some X24 := rfl
theorem T_X28 : T i_X28 = some X28 := rfl
theorem T_X11 : T i_X11 = some X11 := rfl
theorem T_X26 : T i_X26 = some X26 := rfl
theorem T_X38 : T i_X38 = some X38 := rfl
theorem T_X25 : T i_X25 = some X25 := rfl
theorem T_X22 : T i_X22 = some X22 := rfl
theorem T_X30 : T i_X30 = some X30 := rfl
theorem T_X15 : T i_X15 = some X15 := rfl
theorem T_X23 : T i_X23 = some X23 := rfl
theorem T_X37 : T i_X37 = some X37 := rfl
theorem T_X20 : T i_X20 = some X20 := rfl
theorem T_X32 : T i_X32 = some X32 := rfl
theorem T_X52 : T i_X52 = some X52 := rfl
theorem T_X39 : T i_X39 = some X39 := rfl
theorem T_X29 : T i_X29 = some X29 := rfl
theorem T_X19 : T i_X19 = some X19 := rfl
theorem T_X10 : T i_X10 = some X10 := rfl
theorem T_X63 : T i_X63 = some X63 := rfl
theorem T_X12 : T i_X12 = some X12 := rfl
theorem T_X55 : T i_X55 = some X55 := rfl
theorem T_X36 : T i_X36 = some X36 := rfl
theorem T_X3 : T i_X3 = some X3 := rfl
theorem T_X8 : T i_X8 = some X8 := rfl
theorem T_X4 : T i_X4 = some X4 := rfl
theorem T_X6 : T i_X6 = some X6 := rfl
theorem T_X5 : T i_X5 = some X5 := rfl
theorem T_X0 : T i_X0 = some X0 := rfl
theorem T_X2 : T i_X2 = some X2 := rfl
theorem T_X7 : T i_X7 = some X7 := rfl
theorem T_X50 : T i_X50 = some X50 := rfl
theorem T_X49 : T i_X49 = some X49 := rfl
theorem T_X33 : T i_X33 = some X33 := rfl
theorem T_X21 : T i_X21 = some X21 := rfl
theorem T_X9 : T i_X9 = some X9 := rfl
theorem T_X16 : T i_X16 = some X16 := rfl
theorem T_X18 : T i_X18 = some X18 := rfl
theorem T_X1 : T i_X1 = some X1 := rfl
theorem T_X13 : T i_X13 = some X13 := rfl
theorem T_X27 : T i_X27 = some X27 := rfl
theorem T_X14 : T i_X14 = some X14 := rfl
end Go.Abs
