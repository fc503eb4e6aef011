/- The functions of the program as terms of the abstract machine, printed by wip/gen/gen.py, with marks. -/
import Derived.Test.YtdiekiajedmaeaaJAbsCore
set_option linter.all false
namespace Go.Abs
open Go
def i_l36_CostMatchesReference : FuncId := 3
def i_l36_CostFew : FuncId := 4
def i_l36_CostWrites : FuncId := 5
def i_Xq42 : FuncId := 6
def i_Xq32 : FuncId := 7
def i_l36_CostChoice : FuncId := 8
def i_Xq41 : FuncId := 9
def i_Xq64 : FuncId := 10
def i_Xq48 : FuncId := 11
def i_Xq45 : FuncId := 12
def i_Xq59 : FuncId := 13
def i_Xq57 : FuncId := 14
def i_Xq52 : FuncId := 15
def i_r36_ChooseIn : FuncId := 16
def i_Xq65 : FuncId := 17
def i_r36_ReadIn : FuncId := 18
def i_Xq55 : FuncId := 19
def i_r36_AfterIn : FuncId := 20
def i_Xq62 : FuncId := 21
def i_r36_MergeIn : FuncId := 22
def i_Xq60 : FuncId := 23
def i_r36_WorthIn : FuncId := 24
def i_Xq47 : FuncId := 25
def i_r36_Level : FuncId := 26
def i_Xq56 : FuncId := 27
def i_Xq28 : FuncId := 28
def i_Xq58 : FuncId := 29
def i_Xq29 : FuncId := 30
def i_Xq34 : FuncId := 31
def i_Xq10 : FuncId := 32
def i_Xq43 : FuncId := 33
def i_r36_clusters : FuncId := 34
def i_Xq61 : FuncId := 35
def i_Xq54 : FuncId := 36
def i_r36_group : FuncId := 37
def i_r36_sum : FuncId := 38
def i_Xq50 : FuncId := 39
def i_Xq49 : FuncId := 40
def i_Xq66 : FuncId := 41
def i_Xq16 : FuncId := 42
def i_Xq46 : FuncId := 43
def i_Xq25 : FuncId := 44
def i_Xq27 : FuncId := 45
def i_r36_four : FuncId := 46
def i_r36_merged : FuncId := 47
def i_r03_In : FuncId := 48
def i_Xq30 : FuncId := 49
def i_Xq44 : FuncId := 50
def i_Xq35 : FuncId := 51
def i_Xq33 : FuncId := 52
def i_Xq37 : FuncId := 53
def i_Xq39 : FuncId := 54
def i_Xq38 : FuncId := 55
def i_Xq36 : FuncId := 56
def i_Xq18 : FuncId := 57
def i_Xq19 : FuncId := 58
def i_Xq23 : FuncId := 59
def i_Xq20 : FuncId := 60
def i_Xq22 : FuncId := 61
def i_Xq24 : FuncId := 62
def i_Xq26 : FuncId := 63
def i_Xq11 : FuncId := 64
def i_Xq63 : FuncId := 65
def i_Xq15 : FuncId := 66
def i_Xq14 : FuncId := 67
def i_Xq4 : FuncId := 68
def i_Xq9 : FuncId := 69
def i_Xq3 : FuncId := 70
def i_Xq6 : FuncId := 71
def i_Xq5 : FuncId := 72
def i_Xq0 : FuncId := 73
def i_Xq40 : FuncId := 74
def i_Xq2 : FuncId := 75
def i_Xq7 : FuncId := 76
def i_Xq53 : FuncId := 77
def i_Xq51 : FuncId := 78
def i_Xq8 : FuncId := 79
def i_Xq17 : FuncId := 80
def i_Xq21 : FuncId := 81
def i_Xq1 : FuncId := 82
def i_Xq13 : FuncId := 83
def i_Xq31 : FuncId := 84
def i_Xq12 : FuncId := 85
def Xq42.c0 : ACode := (.seq (.seq (.seq (.ghost (.freeze 7))
 (.seq (.region false [
 ⟨some 36, .mv (.tmp 7), none, [], []⟩,
 ⟨some 37, .len .sl (.tmp 36), none, [], []⟩,
 ⟨some 38, .bin .eql (.tmp 37) (.cst (.int .i64 0)), none, [], []⟩])
 (.ghost (.kill [36, 37]))))
 (.cond (.tmp 38) (.seq (.region false [
   ⟨some 39, .mv (.tmp 5), none, [], []⟩,
   ⟨some 4, .mv (.tmp 39), none, [], []⟩])
  .ret)
 .skip))
 (.seq (.seq (.regionG [
  .op ⟨some 40, .mv (.tmp 6), none, [], []⟩,
  .op ⟨some 41, .mv (.tmp 7), none, [], []⟩,
  .op ⟨some 42, .bslice 1 1 [.nils] [(0, (.tmp 41))], none, [], []⟩,
  .gh (.dfreeze 42),
  .op ⟨some 43, .call true i_Xq55 [(.tmp 40), (.tmp 42)], none, [], []⟩,
  .op ⟨some 44, .mv (.tmp 6), none, [], []⟩,
  .op ⟨some 45, .call true i_Xq65 [(.tmp 44)], none, [], []⟩,
  .op ⟨some 9, .alloc [.nils, .nils, (.int .i64 0), (.int .i64 0)], none, [], []⟩,
  .op ⟨some 10, .alloc [.nils, .nils, (.int .i64 0), (.int .i64 0)], none, [], []⟩,
  .op ⟨none, .store 4 (.tmp 9) (.tmp 43), none, [], []⟩,
  .op ⟨none, .store 4 (.tmp 10) (.tmp 45), none, [], []⟩])
 (.ghost (.kill [38, 40, 41, 42, 43, 44, 45])))
 (.seq (.seq (.seq (.region false [
 ⟨some 46, .faddr 3 (.tmp 9), none, [], []⟩,
 ⟨some 47, .load false 1 (.tmp 46), none, [], []⟩,
 ⟨some 48, .bin .neq (.tmp 47) (.cst (.int .i64 0)), none, [], []⟩,
 ⟨some 49, .mv (.tmp 48), none, [], []⟩,
 ⟨some 50, .faddr 3 (.tmp 10), (some ((some 49), false)), [], []⟩,
 ⟨some 51, .load false 1 (.tmp 50), (some ((some 49), false)), [], []⟩,
 ⟨some 52, .bin .neq (.tmp 51) (.cst (.int .i64 0)), (some ((some 49), false)), [], []⟩,
 ⟨some 53, .pick (.tmp 49) (.cst (.bool true)) (.tmp 52), none, [], []⟩,
 ⟨some 54, .mv (.tmp 53), none, [], []⟩,
 ⟨some 55, .faddr 1 (.tmp 9), (some ((some 54), false)), [], []⟩,
 ⟨some 56, .load false 1 (.tmp 55), (some ((some 54), false)), [], []⟩,
 ⟨some 57, .call true i_Xq56 [(.tmp 56)], (some ((some 54), false)), [], []⟩,
 ⟨some 58, .mv (.tmp 6), (some ((some 54), false)), [], []⟩,
 ⟨some 59, .call true i_Xq56 [(.tmp 58)], (some ((some 54), false)), [], []⟩,
 ⟨some 60, .eqs true (.row [(0, 1, false, (.int .i64)), (1, 1, false, (.int .i64))]) (.tmp 57) (.tmp 59), (some ((some 54), false)), [], []⟩,
 ⟨some 61, .pick (.tmp 54) (.cst (.bool true)) (.tmp 60), none, [], []⟩,
 ⟨some 62, .mv (.tmp 61), none, [], []⟩,
 ⟨some 63, .faddr 1 (.tmp 9), (some ((some 62), false)), [], []⟩,
 ⟨some 64, .load false 1 (.tmp 63), (some ((some 62), false)), [], []⟩,
 ⟨some 65, .len .sl (.tmp 64), (some ((some 62), false)), [], []⟩,
 ⟨some 66, .mv (.tmp 6), (some ((some 62), false)), [], []⟩,
 ⟨some 67, .len .sl (.tmp 66), (some ((some 62), false)), [], []⟩,
 ⟨some 68, .mv (.tmp 7), (some ((some 62), false)), [], []⟩,
 ⟨some 69, .len .sl (.tmp 68), (some ((some 62), false)), [], []⟩,
 ⟨some 70, .bin .sub (.tmp 67) (.tmp 69), (some ((some 62), false)), [], []⟩,
 ⟨some 71, .bin .add (.tmp 70) (.cst (.int .i64 1)), (some ((some 62), false)), [], []⟩,
 ⟨some 72, .bin .neq (.tmp 65) (.tmp 71), (some ((some 62), false)), [], []⟩,
 ⟨some 73, .pick (.tmp 62) (.cst (.bool true)) (.tmp 72), none, [], []⟩])
 (.ghost (.kill [6, 46, 47, 48, 49, 50, 51, 52, 53, 54, 55, 56, 57, 58, 59, 60, 61, 62, 63, 64, 65, 66, 67, 68, 69, 70, 71, 72])))
 (.cond (.tmp 73) (.seq (.region false [
   ⟨some 4, .mv (.cst (.bool false)), none, [], []⟩])
  .ret)
 .skip))
 (.seq (.seq (.seq (.region false [
 ⟨some 74, .faddr 1 (.tmp 9), none, [], []⟩,
 ⟨some 75, .load false 1 (.tmp 74), none, [], []⟩,
 ⟨some 76, .call true i_Xq59 [(.tmp 75)], none, [], []⟩,
 ⟨some 77, .un .not (.tmp 76), none, [], []⟩])
 (.ghost (.kill [73, 74, 75, 76])))
 (.cond (.tmp 77) (.seq (.region false [
   ⟨some 78, .mv (.tmp 5), none, [], []⟩,
   ⟨some 4, .mv (.tmp 78), none, [], []⟩])
  .ret)
 .skip))
 (.seq (.region true [
 ⟨some 79, .faddr 1 (.tmp 9), none, [], [9]⟩,
 ⟨some 80, .load false 1 (.tmp 79), none, [0], [79]⟩,
 ⟨some 81, .call true i_Xq65 [(.tmp 80)], none, [1], [80]⟩,
 ⟨some 82, .faddr 2 (.tmp 10), none, [], [10]⟩,
 ⟨some 83, .load false 1 (.tmp 82), none, [3], [82]⟩,
 ⟨some 84, .mv (.tmp 7), none, [], [7]⟩,
 ⟨some 85, .len .sl (.tmp 84), none, [5], [84]⟩,
 ⟨some 86, .bin .sub (.tmp 85) (.cst (.int .i64 1)), none, [6], [85]⟩,
 ⟨some 87, .bin .mul (.cst (.int .i64 4096)) (.tmp 86), none, [7], [86]⟩,
 ⟨some 88, .bin .sub (.tmp 83) (.tmp 87), none, [4, 8], [83, 87]⟩,
 ⟨some 89, .build [.nils, .nils, (.int .i64 0), (.int .i64 0)] [(2, 1, (.tmp 88))], none, [9], [88]⟩,
 ⟨some 90, .call true i_Xq57 [(.tmp 81), (.tmp 89)], none, [2, 10, 2], [81, 89]⟩,
 ⟨some 91, .mv (.tmp 90), none, [11, 11], [90]⟩,
 ⟨some 92, .mv (.tmp 5), (some ((some 91), true)), [12], [5]⟩,
 ⟨some 93, .pick (.tmp 91) (.tmp 92) (.cst (.bool false)), none, [12, 13], [91, 92]⟩,
 ⟨some 4, .mv (.tmp 93), none, [14, 12, 0, 1, 2, 3, 4, 5, 6, 7, 8, 9, 10, 11, 12, 13, 14], [93]⟩])
 .ret)))))
def Xq42.b0 : ACode := (.seq (.seq (.seq (.region false [
 ⟨some 21, .mv (.tmp 8), none, [], []⟩,
 ⟨some 22, .mv (.tmp 6), none, [], []⟩,
 ⟨some 23, .len .sl (.tmp 22), none, [], []⟩,
 ⟨some 24, .bin .lss (.tmp 21) (.tmp 23), none, [], []⟩])
 (.ghost (.kill [21, 22, 23])))
 (.cond (.tmp 24) .skip
 (.exit 0)))
 (.seq (.trunc (.block 1 (.seq (.region false [
 ⟨some 32, .mv (.tmp 7), none, [], []⟩,
 ⟨some 33, .mv (.tmp 8), none, [], []⟩,
 ⟨some 34, .bslice 1 1 [(.int .i64 0)] [(0, (.tmp 33))], none, [], []⟩,
 ⟨some 35, .append 1 8 (.tmp 32) (.tmp 34), none, [], []⟩,
 ⟨some 7, .mv (.tmp 35), none, [], []⟩])
 (.ghost (.kill [24, 32, 33, 34, 35])))))
 (.seq (.region false [
 ⟨some 25, .mv (.tmp 8), none, [], []⟩,
 ⟨some 26, .iaddrA 2 1 (.tmp 3) (.cst (.int .i64 1)), none, [], []⟩,
 ⟨some 27, .load false 1 (.tmp 26), none, [], []⟩,
 ⟨some 28, .bin .rem (.tmp 27) (.cst (.int .u8 5)), none, [], []⟩,
 ⟨some 29, .conv .i64 (.tmp 28), none, [], []⟩,
 ⟨some 30, .bin .add (.cst (.int .i64 1)) (.tmp 29), none, [], []⟩,
 ⟨some 31, .bin .add (.tmp 25) (.tmp 30), none, [], []⟩,
 ⟨some 8, .mv (.tmp 31), none, [], []⟩])
 (.ghost (.kill [25, 26, 27, 28, 29, 30, 31])))))
def Xq42.main : ACode := (.seq (.seq (.region false [
 ⟨some 3, .box 2 (.tmp 1), none, [], []⟩,
 ⟨some 4, .mv (.cst (.bool false)), none, [], []⟩])
 (.ghost (.kill [1, 4])))
 (.seq (.seq (.region false [
 ⟨some 11, .call true i_Xq41 [], none, [], []⟩,
 ⟨some 5, .mv (.tmp 11), none, [], []⟩])
 (.ghost (.kill [11])))
 (.seq (.seq (.seq (.region false [
 ⟨some 12, .mv (.tmp 5), none, [], []⟩,
 ⟨some 13, .un .not (.tmp 12), none, [], []⟩])
 (.ghost (.kill [12])))
 (.cond (.tmp 13) (.seq (.region false [
   ⟨some 4, .mv (.cst (.bool false)), none, [], []⟩])
  .ret)
 .skip))
 (.seq (.seq (.region false [
 ⟨some 14, .mv (.tmp 0), none, [], []⟩,
 ⟨some 15, .call true i_Xq64 [(.tmp 14)], none, [], []⟩,
 ⟨some 6, .mv (.tmp 15), none, [], []⟩])
 (.ghost (.kill [0, 13, 14, 15])))
 (.seq (.seq (.region false [
 ⟨some 16, .bslice 1 0 [(.int .i64 0)] [], none, [], []⟩,
 ⟨some 7, .mv (.tmp 16), none, [], []⟩])
 (.ghost (.kill [16])))
 (.seq (.seq (.seq (.region false [
 ⟨some 17, .iaddrA 2 1 (.tmp 3) (.cst (.int .i64 0)), none, [], []⟩,
 ⟨some 18, .load false 1 (.tmp 17), none, [], []⟩,
 ⟨some 19, .bin .rem (.tmp 18) (.cst (.int .u8 8)), none, [], []⟩,
 ⟨some 20, .conv .i64 (.tmp 19), none, [], []⟩,
 ⟨some 8, .mv (.tmp 20), none, [], []⟩])
 (.ghost (.kill [17, 18, 19, 20])))
 (.seq (.block 0 (.loop Xq42.b0))
 (.ghost (.kill [3, 8, 24]))))
 Xq42.c0))))))
def Xq42.k0 : List Item := [.inBlock 0, .code (.ghost (.kill [3, 8, 24])), .code Xq42.c0]
def Xq42 : AFunc := ⟨94, [.tmp 4], Xq42.main, false⟩
def Xq32.c0 : ACode := (.seq (.region false [
 ⟨some 138, .faddr 0 (.tmp 9), none, [], []⟩,
 ⟨some 139, .load false 1 (.tmp 138), none, [], []⟩,
 ⟨some 140, .len .sl (.tmp 139), none, [], []⟩,
 ⟨some 141, .bin .eql (.tmp 140) (.cst (.int .i64 0)), none, [], []⟩,
 ⟨some 142, .mv (.tmp 141), none, [], []⟩,
 ⟨some 143, .mv (.tmp 12), (some ((some 142), false)), [], []⟩,
 ⟨some 144, .mv (.tmp 13), (some ((some 142), false)), [], []⟩,
 ⟨some 145, .bin .gtr (.tmp 143) (.tmp 144), (some ((some 142), false)), [], []⟩,
 ⟨some 146, .pick (.tmp 142) (.cst (.bool true)) (.tmp 145), none, [], []⟩,
 ⟨some 147, .mv (.tmp 146), none, [], []⟩,
 ⟨some 148, .mv (.tmp 7), (some ((some 147), true)), [], []⟩,
 ⟨some 149, .pick (.tmp 147) (.tmp 148) (.cst (.bool false)), none, [], []⟩,
 ⟨some 6, .mv (.tmp 149), none, [], []⟩])
 .ret)
def Xq32.c1 : ACode := (.ghost (.kill [1, 2, 8, 10, 14, 60]))
def Xq32.c2 : ACode := (.seq (.region false [
 ⟨some 61, .mv (.tmp 14), none, [], []⟩,
 ⟨some 62, .bin .add (.tmp 61) (.cst (.int .i64 1)), none, [], []⟩,
 ⟨some 14, .mv (.tmp 62), none, [], []⟩])
 (.ghost (.kill [61, 62])))
def Xq32.c3 : ACode := (.seq (.seq (.region false [
 ⟨some 86, .mv (.tmp 8), none, [], []⟩,
 ⟨some 87, .faddr 0 (.tmp 9), none, [], []⟩,
 ⟨some 88, .load false 1 (.tmp 87), none, [], []⟩,
 ⟨some 89, .mv (.tmp 14), none, [], []⟩,
 ⟨some 90, .iaddr 1 (.tmp 88) (.tmp 89), none, [], []⟩,
 ⟨some 91, .load false 1 (.tmp 90), none, [], []⟩,
 ⟨some 92, .call true i_Xq62 [(.tmp 86), (.tmp 91)], none, [], []⟩,
 ⟨some 17, .alloc [.nils, .nils, (.int .i64 0), (.int .i64 0)], none, [], []⟩,
 ⟨none, .store 4 (.tmp 17) (.tmp 92), none, [], []⟩])
 (.ghost (.kill [86, 87, 88, 89, 90, 91, 92])))
 (.seq (.seq (.seq (.region false [
 ⟨some 93, .mv (.tmp 15), none, [], []⟩,
 ⟨some 94, .un .not (.tmp 93), none, [], []⟩,
 ⟨some 95, .mv (.tmp 94), none, [], []⟩,
 ⟨some 96, .faddr 3 (.tmp 17), (some ((some 95), false)), [], []⟩,
 ⟨some 97, .load false 1 (.tmp 96), (some ((some 95), false)), [], []⟩,
 ⟨some 98, .bin .neq (.tmp 97) (.cst (.int .i64 0)), (some ((some 95), false)), [], []⟩,
 ⟨some 99, .pick (.tmp 95) (.cst (.bool true)) (.tmp 98), none, [], []⟩,
 ⟨some 100, .mv (.tmp 99), none, [], []⟩,
 ⟨some 101, .faddr 0 (.tmp 9), (some ((some 100), false)), [], []⟩,
 ⟨some 102, .load false 1 (.tmp 101), (some ((some 100), false)), [], []⟩,
 ⟨some 103, .mv (.tmp 14), (some ((some 100), false)), [], []⟩,
 ⟨some 104, .iaddr 1 (.tmp 102) (.tmp 103), (some ((some 100), false)), [], []⟩,
 ⟨some 105, .load false 1 (.tmp 104), (some ((some 100), false)), [], []⟩,
 ⟨some 106, .len .sl (.tmp 105), (some ((some 100), false)), [], []⟩,
 ⟨some 107, .mv (.tmp 8), (some ((some 100), false)), [], []⟩,
 ⟨some 108, .len .sl (.tmp 107), (some ((some 100), false)), [], []⟩,
 ⟨some 109, .bin .gtr (.tmp 106) (.tmp 108), (some ((some 100), false)), [], []⟩,
 ⟨some 110, .pick (.tmp 100) (.cst (.bool true)) (.tmp 109), none, [], []⟩,
 ⟨some 111, .mv (.tmp 110), none, [], []⟩,
 ⟨some 112, .faddr 0 (.tmp 9), (some ((some 111), false)), [], []⟩,
 ⟨some 113, .load false 1 (.tmp 112), (some ((some 111), false)), [], []⟩,
 ⟨some 114, .len .sl (.tmp 113), (some ((some 111), false)), [], []⟩,
 ⟨some 115, .mv (.tmp 8), (some ((some 111), false)), [], []⟩,
 ⟨some 116, .len .sl (.tmp 115), (some ((some 111), false)), [], []⟩,
 ⟨some 117, .bin .gtr (.tmp 114) (.tmp 116), (some ((some 111), false)), [], []⟩,
 ⟨some 118, .pick (.tmp 111) (.cst (.bool true)) (.tmp 117), none, [], []⟩])
 (.ghost (.kill [15, 93, 94, 95, 96, 97, 98, 99, 100, 101, 102, 103, 104, 105, 106, 107, 108, 109, 110, 111, 112, 113, 114, 115, 116, 117])))
 (.cond (.tmp 118) (.seq (.region false [
   ⟨some 6, .mv (.cst (.bool false)), none, [], []⟩])
  .ret)
 .skip))
 (.seq (.seq (.region false [
 ⟨some 119, .mv (.tmp 12), none, [], []⟩,
 ⟨some 120, .mv (.tmp 1), none, [], []⟩,
 ⟨some 121, .mv (.tmp 2), none, [], []⟩,
 ⟨some 122, .minmax false [(.tmp 120), (.tmp 121)], none, [], []⟩,
 ⟨some 123, .conv .i64 (.tmp 122), none, [], []⟩,
 ⟨some 124, .bin .mul (.tmp 123) (.cst (.int .i64 4096)), none, [], []⟩,
 ⟨some 125, .faddr 0 (.tmp 9), none, [], []⟩,
 ⟨some 126, .load false 1 (.tmp 125), none, [], []⟩,
 ⟨some 127, .mv (.tmp 14), none, [], []⟩,
 ⟨some 128, .iaddr 1 (.tmp 126) (.tmp 127), none, [], []⟩,
 ⟨some 129, .load false 1 (.tmp 128), none, [], []⟩,
 ⟨some 130, .len .sl (.tmp 129), none, [], []⟩,
 ⟨some 131, .bin .sub (.tmp 130) (.cst (.int .i64 1)), none, [], []⟩,
 ⟨some 132, .bin .mul (.tmp 124) (.tmp 131), none, [], []⟩,
 ⟨some 133, .bin .add (.tmp 119) (.tmp 132), none, [], []⟩,
 ⟨some 12, .mv (.tmp 133), none, [], []⟩])
 (.ghost (.kill [118, 119, 120, 121, 122, 123, 124, 125, 126, 127, 128, 129, 130, 131, 132, 133])))
 (.seq (.region false [
 ⟨some 134, .mv (.tmp 13), none, [], []⟩,
 ⟨some 135, .faddr 2 (.tmp 17), none, [], []⟩,
 ⟨some 136, .load false 1 (.tmp 135), none, [], []⟩,
 ⟨some 137, .bin .add (.tmp 134) (.tmp 136), none, [], []⟩,
 ⟨some 13, .mv (.tmp 137), none, [], []⟩])
 (.ghost (.kill [17, 134, 135, 136, 137]))))))
def Xq32.b1 : ACode := (.seq (.seq (.seq (.region false [
 ⟨some 63, .mv (.tmp 16), none, [], []⟩,
 ⟨some 64, .faddr 0 (.tmp 10), none, [], []⟩,
 ⟨some 65, .load false 1 (.tmp 64), none, [], []⟩,
 ⟨some 66, .len .sl (.tmp 65), none, [], []⟩,
 ⟨some 67, .bin .lss (.tmp 63) (.tmp 66), none, [], []⟩])
 (.ghost (.kill [63, 64, 65, 66])))
 (.cond (.tmp 67) .skip
 (.exit 2)))
 (.seq (.block 3 (.seq (.region true [
 ⟨some 70, .mv (.tmp 15), none, [], [15]⟩,
 ⟨some 71, .mv (.tmp 70), none, [0], [70]⟩,
 ⟨some 72, .faddr 0 (.tmp 9), (some ((some 71), false)), [1], [9]⟩,
 ⟨some 73, .load false 1 (.tmp 72), (some ((some 71), false)), [2, 1], [72]⟩,
 ⟨some 74, .mv (.tmp 14), (some ((some 71), false)), [1], [14]⟩,
 ⟨some 75, .iaddr 1 (.tmp 73) (.tmp 74), (some ((some 71), false)), [3, 4, 1], [73, 74]⟩,
 ⟨some 76, .load false 1 (.tmp 75), (some ((some 71), false)), [5, 1], [75]⟩,
 ⟨some 77, .flist 1 1 [.nils] [(0, (.tmp 76))], (some ((some 71), false)), [6, 1], [76]⟩,
 ⟨some 78, .faddr 0 (.tmp 10), (some ((some 71), false)), [1], [10]⟩,
 ⟨some 79, .load false 1 (.tmp 78), (some ((some 71), false)), [8, 1], [78]⟩,
 ⟨some 80, .mv (.tmp 16), (some ((some 71), false)), [1], [16]⟩,
 ⟨some 81, .iaddr 1 (.tmp 79) (.tmp 80), (some ((some 71), false)), [9, 10, 1], [79, 80]⟩,
 ⟨some 82, .load false 1 (.tmp 81), (some ((some 71), false)), [11, 1], [81]⟩,
 ⟨some 83, .flist 1 1 [.nils] [(0, (.tmp 82))], (some ((some 71), false)), [12, 1], [82]⟩,
 ⟨some 84, .call true i_Xq28 [(.tmp 77), (.tmp 83)], (some ((some 71), false)), [7, 13, 1, 1], [77, 83]⟩,
 ⟨some 85, .pick (.tmp 71) (.cst (.bool true)) (.tmp 84), none, [1, 14], [71, 84]⟩,
 ⟨some 15, .mv (.tmp 85), none, [15, 14, 0, 1, 2, 3, 4, 5, 6, 7, 8, 9, 10, 11, 12, 13, 14, 15], [85]⟩])
 (.ghost (.kill [67, 70, 71, 72, 73, 74, 75, 76, 77, 78, 79, 80, 81, 82, 83, 84, 85]))))
 (.seq (.region false [
 ⟨some 68, .mv (.tmp 16), none, [], []⟩,
 ⟨some 69, .bin .add (.tmp 68) (.cst (.int .i64 1)), none, [], []⟩,
 ⟨some 16, .mv (.tmp 69), none, [], []⟩])
 (.ghost (.kill [68, 69])))))
def Xq32.b0 : ACode := (.seq (.seq (.seq (.region false [
 ⟨some 56, .mv (.tmp 14), none, [], []⟩,
 ⟨some 57, .faddr 0 (.tmp 9), none, [], []⟩,
 ⟨some 58, .load false 1 (.tmp 57), none, [], []⟩,
 ⟨some 59, .len .sl (.tmp 58), none, [], []⟩,
 ⟨some 60, .bin .lss (.tmp 56) (.tmp 59), none, [], []⟩])
 (.ghost (.kill [56, 57, 58, 59])))
 (.cond (.tmp 60) .skip
 (.exit 0)))
 (.seq (.trunc (.block 1 (.seq (.seq (.region false [
 ⟨some 15, .mv (.cst (.bool false)), none, [], []⟩])
 (.ghost (.kill [60])))
 (.seq (.seq (.region false [
 ⟨some 16, .mv (.cst (.int .i64 0)), none, [], []⟩])
 (.seq (.block 2 (.loop Xq32.b1))
 (.ghost (.kill [16, 67]))))
 Xq32.c3))))
 Xq32.c2))
def Xq32.main : ACode := (.seq (.seq (.region false [
 ⟨some 6, .mv (.cst (.bool false)), none, [], []⟩])
 (.ghost (.kill [6])))
 (.seq (.seq (.region false [
 ⟨some 18, .call true i_Xq41 [], none, [], []⟩,
 ⟨some 7, .mv (.tmp 18), none, [], []⟩])
 (.ghost (.kill [18])))
 (.seq (.seq (.seq (.region false [
 ⟨some 19, .mv (.tmp 7), none, [], []⟩,
 ⟨some 20, .un .not (.tmp 19), none, [], []⟩])
 (.ghost (.kill [19])))
 (.cond (.tmp 20) (.seq (.region false [
   ⟨some 6, .mv (.cst (.bool false)), none, [], []⟩])
  .ret)
 .skip))
 (.seq (.seq (.region false [
 ⟨some 21, .mv (.tmp 0), none, [], []⟩,
 ⟨some 22, .call true i_Xq64 [(.tmp 21)], none, [], []⟩,
 ⟨some 8, .mv (.tmp 22), none, [], []⟩])
 (.ghost (.kill [0, 20, 21, 22])))
 (.seq (.seq (.region false [
 ⟨some 23, .mv (.tmp 8), none, [], []⟩,
 ⟨some 24, .mv (.tmp 1), none, [], []⟩,
 ⟨some 25, .mv (.tmp 2), none, [], []⟩,
 ⟨some 26, .minmax false [(.tmp 24), (.tmp 25)], none, [], []⟩,
 ⟨some 27, .conv .i64 (.tmp 26), none, [], []⟩,
 ⟨some 28, .call true i_Xq60 [(.tmp 23), (.tmp 27)], none, [], []⟩,
 ⟨some 29, .mv (.tmp 8), none, [], []⟩,
 ⟨some 30, .mv (.tmp 1), none, [], []⟩,
 ⟨some 31, .mv (.tmp 2), none, [], []⟩,
 ⟨some 32, .minmax true [(.tmp 30), (.tmp 31)], none, [], []⟩,
 ⟨some 33, .conv .i64 (.tmp 32), none, [], []⟩,
 ⟨some 34, .call true i_Xq60 [(.tmp 29), (.tmp 33)], none, [], []⟩,
 ⟨some 35, .mv (.tmp 8), none, [], []⟩,
 ⟨some 36, .call true i_Xq60 [(.tmp 35), (.cst (.int .i64 0))], none, [], []⟩,
 ⟨some 9, .alloc [.nils, .nils, (.int .i64 0), (.int .i64 0)], none, [], []⟩,
 ⟨some 10, .alloc [.nils, .nils, (.int .i64 0), (.int .i64 0)], none, [], []⟩,
 ⟨some 11, .alloc [.nils, .nils, (.int .i64 0), (.int .i64 0)], none, [], []⟩,
 ⟨none, .store 4 (.tmp 9) (.tmp 28), none, [], []⟩,
 ⟨none, .store 4 (.tmp 10) (.tmp 34), none, [], []⟩,
 ⟨none, .store 4 (.tmp 11) (.tmp 36), none, [], []⟩])
 (.ghost (.kill [23, 24, 25, 26, 27, 28, 29, 30, 31, 32, 33, 34, 35, 36])))
 (.seq (.seq (.seq (.region false [
 ⟨some 37, .faddr 3 (.tmp 9), none, [], []⟩,
 ⟨some 38, .load false 1 (.tmp 37), none, [], []⟩,
 ⟨some 39, .bin .neq (.tmp 38) (.cst (.int .i64 0)), none, [], []⟩,
 ⟨some 40, .mv (.tmp 39), none, [], []⟩,
 ⟨some 41, .faddr 3 (.tmp 10), (some ((some 40), false)), [], []⟩,
 ⟨some 42, .load false 1 (.tmp 41), (some ((some 40), false)), [], []⟩,
 ⟨some 43, .bin .neq (.tmp 42) (.cst (.int .i64 0)), (some ((some 40), false)), [], []⟩,
 ⟨some 44, .pick (.tmp 40) (.cst (.bool true)) (.tmp 43), none, [], []⟩,
 ⟨some 45, .mv (.tmp 44), none, [], []⟩,
 ⟨some 46, .faddr 3 (.tmp 11), (some ((some 45), false)), [], []⟩,
 ⟨some 47, .load false 1 (.tmp 46), (some ((some 45), false)), [], []⟩,
 ⟨some 48, .bin .neq (.tmp 47) (.cst (.int .i64 0)), (some ((some 45), false)), [], []⟩,
 ⟨some 49, .pick (.tmp 45) (.cst (.bool true)) (.tmp 48), none, [], []⟩,
 ⟨some 50, .mv (.tmp 49), none, [], []⟩,
 ⟨some 51, .faddr 0 (.tmp 11), (some ((some 50), false)), [], []⟩,
 ⟨some 52, .load false 1 (.tmp 51), (some ((some 50), false)), [], []⟩,
 ⟨some 53, .len .sl (.tmp 52), (some ((some 50), false)), [], []⟩,
 ⟨some 54, .bin .gtr (.tmp 53) (.cst (.int .i64 0)), (some ((some 50), false)), [], []⟩,
 ⟨some 55, .pick (.tmp 50) (.cst (.bool true)) (.tmp 54), none, [], []⟩])
 (.ghost (.kill [11, 37, 38, 39, 40, 41, 42, 43, 44, 45, 46, 47, 48, 49, 50, 51, 52, 53, 54])))
 (.cond (.tmp 55) (.seq (.region false [
   ⟨some 6, .mv (.cst (.bool false)), none, [], []⟩])
  .ret)
 .skip))
 (.seq (.seq (.region false [
 ⟨some 12, .mv (.cst (.int .i64 0)), none, [], []⟩,
 ⟨some 13, .mv (.cst (.int .i64 0)), none, [], []⟩])
 (.ghost (.kill [55])))
 (.seq (.seq (.region false [
 ⟨some 14, .mv (.cst (.int .i64 0)), none, [], []⟩])
 (.seq (.block 0 (.loop Xq32.b0))
 Xq32.c1))
 Xq32.c0))))))))
def Xq32.k1 (m0 : Nat) : List Item := [.inBlock 2, .code (.ghost (.kill [16, 67])), .code Xq32.c3, .inBlock 1, .inTrunc m0, .code Xq32.c2, .inLoop Xq32.b0, .inBlock 0, .code Xq32.c1, .code Xq32.c0]
def Xq32.k0 : List Item := [.inBlock 0, .code Xq32.c1, .code Xq32.c0]
def Xq32 : AFunc := ⟨150, [.tmp 6], Xq32.main, false⟩
def Xq41.main : ACode := (.seq (.seq (.region false [
 ⟨some 0, .mv (.cst (.bool false)), none, [], []⟩])
 (.ghost (.kill [0])))
 (.seq (.seq (.regionG [
  .op ⟨some 5, .bslice 1 5 [(.int .i64 0)] [(0, (.cst (.int .i64 1))), (1, (.cst (.int .i64 1))), (2, (.cst (.int .i64 1))), (3, (.cst (.int .i64 1))), (4, (.cst (.int .i64 1)))], none, [], []⟩,
  .gh (.dfreeze 5),
  .op ⟨some 6, .call true i_Xq58 [(.tmp 5)], none, [], []⟩,
  .op ⟨some 7, .call true i_Xq52 [(.tmp 6)], none, [], []⟩,
  .op ⟨some 8, .bslice 1 7 [(.int .i64 0)] [(0, (.cst (.int .i64 4))), (1, (.cst (.int .i64 4))), (2, (.cst (.int .i64 4))), (3, (.cst (.int .i64 1))), (4, (.cst (.int .i64 1))), (5, (.cst (.int .i64 1))), (6, (.cst (.int .i64 1)))], none, [], []⟩,
  .gh (.dfreeze 8),
  .op ⟨some 9, .call true i_Xq58 [(.tmp 8)], none, [], []⟩,
  .op ⟨some 10, .call true i_Xq52 [(.tmp 9)], none, [], []⟩,
  .op ⟨some 1, .alloc [.nils, .nils, (.int .i64 0), (.int .i64 0)], none, [], []⟩,
  .op ⟨some 2, .alloc [.nils, .nils, (.int .i64 0), (.int .i64 0)], none, [], []⟩,
  .op ⟨none, .store 4 (.tmp 1) (.tmp 7), none, [], []⟩,
  .op ⟨none, .store 4 (.tmp 2) (.tmp 10), none, [], []⟩])
 (.ghost (.kill [5, 6, 7, 8, 9, 10])))
 (.seq (.seq (.seq (.regionG [
  .op ⟨some 11, .call true i_Xq47 [(.cst (.int .i64 3))], none, [], []⟩,
  .op ⟨some 12, .bin .neq (.tmp 11) (.cst (.int .i64 0)), none, [], []⟩,
  .op ⟨some 13, .mv (.tmp 12), none, [], []⟩,
  .op ⟨some 14, .call true i_Xq47 [(.cst (.int .i64 4))], (some ((some 13), false)), [], []⟩,
  .op ⟨some 15, .bin .neq (.tmp 14) (.cst (.int .i64 1)), (some ((some 13), false)), [], []⟩,
  .op ⟨some 16, .pick (.tmp 13) (.cst (.bool true)) (.tmp 15), none, [], []⟩,
  .op ⟨some 17, .mv (.tmp 16), none, [], []⟩,
  .op ⟨some 18, .call true i_Xq47 [(.cst (.int .i64 16))], (some ((some 17), false)), [], []⟩,
  .op ⟨some 19, .bin .neq (.tmp 18) (.cst (.int .i64 2)), (some ((some 17), false)), [], []⟩,
  .op ⟨some 20, .pick (.tmp 17) (.cst (.bool true)) (.tmp 19), none, [], []⟩,
  .op ⟨some 21, .mv (.tmp 20), none, [], []⟩,
  .op ⟨some 22, .call true i_Xq47 [(.cst (.int .i64 0))], (some ((some 21), false)), [], []⟩,
  .op ⟨some 23, .bin .neq (.tmp 22) (.cst (.int .i64 (-1))), (some ((some 21), false)), [], []⟩,
  .op ⟨some 24, .pick (.tmp 21) (.cst (.bool true)) (.tmp 23), none, [], []⟩,
  .op ⟨some 25, .mv (.tmp 24), none, [], []⟩,
  .op ⟨some 26, .faddr 3 (.tmp 1), (some ((some 25), false)), [], []⟩,
  .op ⟨some 27, .load false 1 (.tmp 26), (some ((some 25), false)), [], []⟩,
  .op ⟨some 28, .bin .neq (.tmp 27) (.cst (.int .i64 0)), (some ((some 25), false)), [], []⟩,
  .op ⟨some 29, .pick (.tmp 25) (.cst (.bool true)) (.tmp 28), none, [], []⟩,
  .op ⟨some 30, .mv (.tmp 29), none, [], []⟩,
  .op ⟨some 31, .faddr 0 (.tmp 1), (some ((some 30), false)), [], []⟩,
  .op ⟨some 32, .load false 1 (.tmp 31), (some ((some 30), false)), [], []⟩,
  .op ⟨some 33, .bslice 1 4 [(.int .i64 0)] [(0, (.cst (.int .i64 0))), (1, (.cst (.int .i64 1))), (2, (.cst (.int .i64 2))), (3, (.cst (.int .i64 3)))], (some ((some 30), false)), [], []⟩,
  .gh (.dfreeze 33),
  .op ⟨some 34, .bslice 1 1 [.nils] [(0, (.tmp 33))], (some ((some 30), false)), [], []⟩,
  .gh (.dfreeze 34),
  .op ⟨some 35, .call true i_Xq28 [(.tmp 32), (.tmp 34)], (some ((some 30), false)), [], []⟩,
  .op ⟨some 36, .un .not (.tmp 35), (some ((some 30), false)), [], []⟩,
  .op ⟨some 37, .pick (.tmp 30) (.cst (.bool true)) (.tmp 36), none, [], []⟩,
  .op ⟨some 38, .mv (.tmp 37), none, [], []⟩,
  .op ⟨some 39, .faddr 0 (.tmp 2), (some ((some 38), false)), [], []⟩,
  .op ⟨some 40, .load false 1 (.tmp 39), (some ((some 38), false)), [], []⟩,
  .op ⟨some 41, .bslice 1 7 [(.int .i64 0)] [(0, (.cst (.int .i64 0))), (1, (.cst (.int .i64 1))), (2, (.cst (.int .i64 2))), (3, (.cst (.int .i64 3))), (4, (.cst (.int .i64 4))), (5, (.cst (.int .i64 5))), (6, (.cst (.int .i64 6)))], (some ((some 38), false)), [], []⟩,
  .gh (.dfreeze 41),
  .op ⟨some 42, .bslice 1 1 [.nils] [(0, (.tmp 41))], (some ((some 38), false)), [], []⟩,
  .gh (.dfreeze 42),
  .op ⟨some 43, .call true i_Xq28 [(.tmp 40), (.tmp 42)], (some ((some 38), false)), [], []⟩,
  .op ⟨some 44, .un .not (.tmp 43), (some ((some 38), false)), [], []⟩,
  .op ⟨some 45, .pick (.tmp 38) (.cst (.bool true)) (.tmp 44), none, [], []⟩])
 (.ghost (.kill [2, 11, 12, 13, 14, 15, 16, 17, 18, 19, 20, 21, 22, 23, 24, 25, 26, 27, 28, 29, 30, 31, 32, 33, 34, 35, 36, 37, 38, 39, 40, 41, 42, 43, 44])))
 (.cond (.tmp 45) (.seq (.region false [
   ⟨some 0, .mv (.cst (.bool false)), none, [], []⟩])
  .ret)
 .skip))
 (.seq (.seq (.region true [
 ⟨some 46, .flist 1 4 [(.int .i64 0)] [(0, (.cst (.int .i64 1))), (1, (.cst (.int .i64 1))), (2, (.cst (.int .i64 1))), (3, (.cst (.int .i64 1)))], none, [], []⟩,
 ⟨some 47, .call true i_Xq58 [(.tmp 46)], none, [0], [46]⟩,
 ⟨some 48, .flist 1 4 [(.int .i64 0)] [(0, (.cst (.int .i64 0))), (1, (.cst (.int .i64 1))), (2, (.cst (.int .i64 2))), (3, (.cst (.int .i64 3)))], none, [], []⟩,
 ⟨some 49, .call true i_Xq62 [(.tmp 47), (.tmp 48)], none, [1, 2, 1], [47, 48]⟩,
 ⟨some 50, .flist 1 5 [(.int .i64 0)] [(0, (.cst (.int .i64 1))), (1, (.cst (.int .i64 1))), (2, (.cst (.int .i64 1))), (3, (.cst (.int .i64 1))), (4, (.cst (.int .i64 1)))], none, [], []⟩,
 ⟨some 51, .call true i_Xq58 [(.tmp 50)], none, [4, 3], [50]⟩,
 ⟨some 52, .faddr 0 (.tmp 1), none, [], [1]⟩,
 ⟨some 53, .load false 1 (.tmp 52), none, [6], [52]⟩,
 ⟨some 54, .call true i_Xq55 [(.tmp 51), (.tmp 53)], none, [5, 7, 5], [51, 53]⟩,
 ⟨some 3, .alloc [.nils, .nils, (.int .i64 0), (.int .i64 0)], none, [], []⟩,
 ⟨some 4, .alloc [.nils, .nils, (.int .i64 0), (.int .i64 0)], none, [], []⟩,
 ⟨none, .store 4 (.tmp 3) (.tmp 49), none, [9, 3, 8, 0, 1, 2, 3, 9, 10], [3, 49]⟩,
 ⟨none, .store 4 (.tmp 4) (.tmp 54), none, [10, 8, 11, 0, 1, 2, 3, 4, 5, 6, 7, 8, 9, 10, 11], [4, 54]⟩])
 (.ghost (.kill [1, 45, 46, 47, 48, 49, 50, 51, 52, 53, 54])))
 (.seq (.regionG [
  .op ⟨some 55, .faddr 3 (.tmp 3), none, [], []⟩,
  .op ⟨some 56, .load false 1 (.tmp 55), none, [], []⟩,
  .op ⟨some 57, .bin .eql (.tmp 56) (.cst (.int .i64 0)), none, [], []⟩,
  .op ⟨some 58, .mv (.tmp 57), none, [], []⟩,
  .op ⟨some 59, .faddr 2 (.tmp 3), (some ((some 58), true)), [], []⟩,
  .op ⟨some 60, .load false 1 (.tmp 59), (some ((some 58), true)), [], []⟩,
  .op ⟨some 61, .bin .eql (.tmp 60) (.cst (.int .i64 21280)), (some ((some 58), true)), [], []⟩,
  .op ⟨some 62, .pick (.tmp 58) (.tmp 61) (.cst (.bool false)), none, [], []⟩,
  .op ⟨some 63, .mv (.tmp 62), none, [], []⟩,
  .op ⟨some 64, .bslice 1 4 [(.int .i64 0)] [(0, (.cst (.int .i64 1))), (1, (.cst (.int .i64 1))), (2, (.cst (.int .i64 1))), (3, (.cst (.int .i64 1)))], (some ((some 63), true)), [], []⟩,
  .gh (.dfreeze 64),
  .op ⟨some 65, .call true i_Xq58 [(.tmp 64)], (some ((some 63), true)), [], []⟩,
  .op ⟨some 66, .call true i_Xq60 [(.tmp 65), (.cst (.int .i64 2))], (some ((some 63), true)), [], []⟩,
  .op ⟨some 67, .field 0 1 false (.tmp 66), (some ((some 63), true)), [], []⟩,
  .op ⟨some 68, .len .sl (.tmp 67), (some ((some 63), true)), [], []⟩,
  .op ⟨some 69, .bin .eql (.tmp 68) (.cst (.int .i64 1)), (some ((some 63), true)), [], []⟩,
  .op ⟨some 70, .pick (.tmp 63) (.tmp 69) (.cst (.bool false)), none, [], []⟩,
  .op ⟨some 71, .mv (.tmp 70), none, [], []⟩,
  .op ⟨some 72, .bslice 1 4 [(.int .i64 0)] [(0, (.cst (.int .i64 1))), (1, (.cst (.int .i64 1))), (2, (.cst (.int .i64 1))), (3, (.cst (.int .i64 1)))], (some ((some 71), true)), [], []⟩,
  .gh (.dfreeze 72),
  .op ⟨some 73, .call true i_Xq58 [(.tmp 72)], (some ((some 71), true)), [], []⟩,
  .op ⟨some 74, .call true i_Xq60 [(.tmp 73), (.cst (.int .i64 1))], (some ((some 71), true)), [], []⟩,
  .op ⟨some 75, .field 0 1 false (.tmp 74), (some ((some 71), true)), [], []⟩,
  .op ⟨some 76, .len .sl (.tmp 75), (some ((some 71), true)), [], []⟩,
  .op ⟨some 77, .bin .eql (.tmp 76) (.cst (.int .i64 0)), (some ((some 71), true)), [], []⟩,
  .op ⟨some 78, .pick (.tmp 71) (.tmp 77) (.cst (.bool false)), none, [], []⟩,
  .op ⟨some 79, .mv (.tmp 78), none, [], []⟩,
  .op ⟨some 80, .faddr 1 (.tmp 4), (some ((some 79), true)), [], []⟩,
  .op ⟨some 81, .load false 1 (.tmp 80), (some ((some 79), true)), [], []⟩,
  .op ⟨some 82, .build [(.int .i64 0), (.int .i64 0)] [(0, 1, (.cst (.int .i64 4))), (1, 1, (.cst (.int .i64 400)))], (some ((some 79), true)), [], []⟩,
  .op ⟨some 83, .build [(.int .i64 0), (.int .i64 0)] [(0, 1, (.cst (.int .i64 1))), (1, 1, (.cst (.int .i64 100)))], (some ((some 79), true)), [], []⟩,
  .op ⟨some 84, .bslice 2 2 [(.int .i64 0), (.int .i64 0)] [(0, (.tmp 82)), (1, (.tmp 83))], (some ((some 79), true)), [], []⟩,
  .gh (.dfreeze 84),
  .op ⟨some 85, .call true i_Xq29 [(.tmp 81), (.tmp 84)], (some ((some 79), true)), [], []⟩,
  .op ⟨some 86, .pick (.tmp 79) (.tmp 85) (.cst (.bool false)), none, [], []⟩,
  .op ⟨some 87, .mv (.tmp 86), none, [], []⟩,
  .op ⟨some 88, .bslice 1 2 [(.int .i64 0)] [(0, (.cst (.int .i64 1))), (1, (.cst (.int .i64 1)))], (some ((some 87), true)), [], []⟩,
  .gh (.dfreeze 88),
  .op ⟨some 89, .call true i_Xq58 [(.tmp 88)], (some ((some 87), true)), [], []⟩,
  .op ⟨some 90, .call true i_Xq65 [(.tmp 89)], (some ((some 87), true)), [], []⟩,
  .op ⟨some 91, .field 2 1 false (.tmp 90), (some ((some 87), true)), [], []⟩,
  .op ⟨some 92, .bin .eql (.tmp 91) (.cst (.int .i64 8392)), (some ((some 87), true)), [], []⟩,
  .op ⟨some 93, .pick (.tmp 87) (.tmp 92) (.cst (.bool false)), none, [], []⟩,
  .op ⟨some 94, .mv (.tmp 93), none, [], []⟩,
  .op ⟨some 95, .bslice 1 1 [(.int .i64 0)] [(0, (.cst (.int .i64 0)))], (some ((some 94), true)), [], []⟩,
  .gh (.dfreeze 95),
  .op ⟨some 96, .call true i_Xq58 [(.tmp 95)], (some ((some 94), true)), [], []⟩,
  .op ⟨some 97, .call true i_Xq65 [(.tmp 96)], (some ((some 94), true)), [], []⟩,
  .op ⟨some 98, .field 3 1 false (.tmp 97), (some ((some 94), true)), [], []⟩,
  .op ⟨some 99, .bin .eql (.tmp 98) (.cst (.int .i64 1)), (some ((some 94), true)), [], []⟩,
  .op ⟨some 100, .pick (.tmp 94) (.tmp 99) (.cst (.bool false)), none, [], []⟩,
  .op ⟨some 101, .mv (.tmp 100), none, [], []⟩,
  .op ⟨some 102, .bslice 1 1 [(.int .i64 0)] [(0, (.cst (.int .i64 1)))], (some ((some 101), true)), [], []⟩,
  .gh (.dfreeze 102),
  .op ⟨some 103, .call true i_Xq58 [(.tmp 102)], (some ((some 101), true)), [], []⟩,
  .op ⟨some 104, .call true i_Xq45 [(.tmp 103)], (some ((some 101), true)), [], []⟩,
  .op ⟨some 105, .call true i_Xq48 [(.tmp 104)], (some ((some 101), true)), [], []⟩,
  .op ⟨some 106, .pick (.tmp 101) (.tmp 105) (.cst (.bool false)), none, [], []⟩,
  .op ⟨some 0, .mv (.tmp 106), none, [], []⟩])
 .ret)))))
def Xq41 : AFunc := ⟨107, [.tmp 0], Xq41.main, false⟩
def Xq64.c0 : ACode := (.seq (.region false [
 ⟨some 51, .mv (.tmp 3), none, [], []⟩,
 ⟨some 2, .mv (.tmp 51), none, [], []⟩])
 .ret)
def Xq64.c1 : ACode := (.seq (.region false [
 ⟨some 16, .mv (.tmp 4), none, [], []⟩,
 ⟨some 17, .bin .add (.tmp 16) (.cst (.int .i64 1)), none, [], []⟩,
 ⟨some 4, .mv (.tmp 17), none, [], []⟩])
 (.ghost (.kill [16, 17])))
def Xq64.c2 : ACode := (.seq (.region true [
 ⟨some 31, .mv (.tmp 3), none, [], [3]⟩,
 ⟨some 32, .mv (.tmp 5), none, [], [5]⟩,
 ⟨some 33, .mv (.tmp 0), none, [], [0]⟩,
 ⟨some 34, .mv (.tmp 4), none, [], [4]⟩,
 ⟨some 35, .iaddr 2 (.tmp 33) (.tmp 34), none, [2, 3], [33, 34]⟩,
 ⟨some 36, .iaddrA 2 1 (.tmp 35) (.cst (.int .i64 0)), none, [4], [35]⟩,
 ⟨some 37, .load false 1 (.tmp 36), none, [5], [36]⟩,
 ⟨some 38, .bin .quo (.tmp 37) (.cst (.int .u8 16)), none, [6], [37]⟩,
 ⟨some 39, .conv .i64 (.tmp 38), none, [7], [38]⟩,
 ⟨some 40, .bin .add (.tmp 32) (.tmp 39), none, [1, 8], [32, 39]⟩,
 ⟨some 41, .mv (.tmp 0), none, [], [0]⟩,
 ⟨some 42, .mv (.tmp 4), none, [], [4]⟩,
 ⟨some 43, .iaddr 2 (.tmp 41) (.tmp 42), none, [10, 11], [41, 42]⟩,
 ⟨some 44, .iaddrA 2 1 (.tmp 43) (.cst (.int .i64 1)), none, [12], [43]⟩,
 ⟨some 45, .load false 1 (.tmp 44), none, [13], [44]⟩,
 ⟨some 46, .conv .i64 (.tmp 45), none, [14], [45]⟩,
 ⟨some 47, .bin .mul (.tmp 46) (.cst (.int .i64 40)), none, [15], [46]⟩,
 ⟨some 48, .build [(.int .i64 0), (.int .i64 0)] [(0, 1, (.tmp 40)), (1, 1, (.tmp 47))], none, [9, 16], [40, 47]⟩,
 ⟨some 49, .bslice 2 1 [(.int .i64 0), (.int .i64 0)] [(0, (.tmp 48))], none, [17], [48]⟩,
 ⟨some 50, .append 2 16 (.tmp 31) (.tmp 49), none, [0, 18], [31, 49]⟩,
 ⟨some 3, .mv (.tmp 50), none, [19, 19, 0, 1, 2, 3, 4, 5, 6, 7, 8, 9, 10, 11, 12, 13, 14, 15, 16, 17, 18, 19], [50]⟩])
 (.ghost (.kill [5, 31, 32, 33, 34, 35, 36, 37, 38, 39, 40, 41, 42, 43, 44, 45, 46, 47, 48, 49, 50])))
def Xq64.b1 : ACode := (.seq (.seq (.seq (.region false [
 ⟨some 18, .mv (.tmp 6), none, [], []⟩,
 ⟨some 19, .mv (.tmp 0), none, [], []⟩,
 ⟨some 20, .mv (.tmp 4), none, [], []⟩,
 ⟨some 21, .iaddr 2 (.tmp 19) (.tmp 20), none, [], []⟩,
 ⟨some 22, .iaddrA 2 1 (.tmp 21) (.cst (.int .i64 0)), none, [], []⟩,
 ⟨some 23, .load false 1 (.tmp 22), none, [], []⟩,
 ⟨some 24, .bin .rem (.tmp 23) (.cst (.int .u8 4)), none, [], []⟩,
 ⟨some 25, .conv .i64 (.tmp 24), none, [], []⟩,
 ⟨some 26, .bin .lss (.tmp 18) (.tmp 25), none, [], []⟩])
 (.ghost (.kill [18, 19, 20, 21, 22, 23, 24, 25])))
 (.cond (.tmp 26) .skip
 (.exit 2)))
 (.seq (.block 3 (.seq (.region false [
 ⟨some 29, .mv (.tmp 5), none, [], []⟩,
 ⟨some 30, .bin .mul (.tmp 29) (.cst (.int .i64 4)), none, [], []⟩,
 ⟨some 5, .mv (.tmp 30), none, [], []⟩])
 (.ghost (.kill [26, 29, 30]))))
 (.seq (.region false [
 ⟨some 27, .mv (.tmp 6), none, [], []⟩,
 ⟨some 28, .bin .add (.tmp 27) (.cst (.int .i64 1)), none, [], []⟩,
 ⟨some 6, .mv (.tmp 28), none, [], []⟩])
 (.ghost (.kill [27, 28])))))
def Xq64.b0 : ACode := (.seq (.seq (.seq (.region false [
 ⟨some 8, .mv (.tmp 4), none, [], []⟩,
 ⟨some 9, .mv (.tmp 0), none, [], []⟩,
 ⟨some 10, .len .sl (.tmp 9), none, [], []⟩,
 ⟨some 11, .bin .lss (.tmp 8) (.tmp 10), none, [], []⟩,
 ⟨some 12, .mv (.tmp 11), none, [], []⟩,
 ⟨some 13, .mv (.tmp 4), (some ((some 12), true)), [], []⟩,
 ⟨some 14, .bin .lss (.tmp 13) (.cst (.int .i64 60)), (some ((some 12), true)), [], []⟩,
 ⟨some 15, .pick (.tmp 12) (.tmp 14) (.cst (.bool false)), none, [], []⟩])
 (.ghost (.kill [8, 9, 10, 11, 12, 13, 14])))
 (.cond (.tmp 15) .skip
 (.exit 0)))
 (.seq (.trunc (.block 1 (.seq (.seq (.region false [
 ⟨some 5, .mv (.cst (.int .i64 1)), none, [], []⟩])
 (.ghost (.kill [15])))
 (.seq (.seq (.region false [
 ⟨some 6, .mv (.cst (.int .i64 0)), none, [], []⟩])
 (.seq (.block 2 (.loop Xq64.b1))
 (.ghost (.kill [6, 26]))))
 Xq64.c2))))
 Xq64.c1))
def Xq64.main : ACode := (.seq (.seq (.region false [
 ⟨some 2, .mv (.cst .nils), none, [], []⟩])
 (.ghost (.kill [2])))
 (.seq (.seq (.region false [
 ⟨some 7, .bslice 2 0 [(.int .i64 0), (.int .i64 0)] [], none, [], []⟩,
 ⟨some 3, .mv (.tmp 7), none, [], []⟩])
 (.ghost (.kill [7])))
 (.seq (.seq (.region false [
 ⟨some 4, .mv (.cst (.int .i64 0)), none, [], []⟩])
 (.seq (.block 0 (.loop Xq64.b0))
 (.ghost (.kill [0, 4, 15]))))
 Xq64.c0)))
def Xq64.k1 (m0 : Nat) : List Item := [.inBlock 2, .code (.ghost (.kill [6, 26])), .code Xq64.c2, .inBlock 1, .inTrunc m0, .code Xq64.c1, .inLoop Xq64.b0, .inBlock 0, .code (.ghost (.kill [0, 4, 15])), .code Xq64.c0]
def Xq64.k0 : List Item := [.inBlock 0, .code (.ghost (.kill [0, 4, 15])), .code Xq64.c0]
def Xq64 : AFunc := ⟨52, [.tmp 2], Xq64.main, false⟩
def Xq48.main : ACode := (.seq (.seq (.region false [
 ⟨some 2, .mv (.cst (.bool false)), none, [], []⟩])
 (.ghost (.kill [2])))
 (.seq (.region false [
 ⟨some 3, .mv (.cst (.clo (.func i_Xq34) [] [])), none, [], []⟩])
 (.seq (.region false [
 ⟨some 4, .mv (.tmp 0), none, [], []⟩,
 ⟨some 5, .len .sl (.tmp 4), none, [], []⟩,
 ⟨some 6, .bin .leq (.tmp 5) (.cst (.int .i64 512)), none, [], []⟩,
 ⟨some 7, .mv (.tmp 6), none, [], []⟩,
 ⟨some 8, .mv (.tmp 0), (some ((some 7), true)), [], []⟩,
 ⟨some 9, .mv (.tmp 3), (some ((some 7), true)), [], []⟩,
 ⟨some 10, .call true i_Xq10 [(.tmp 8), (.tmp 9)], (some ((some 7), true)), [], []⟩,
 ⟨some 11, .un .not (.tmp 10), (some ((some 7), true)), [], []⟩,
 ⟨some 12, .pick (.tmp 7) (.tmp 11) (.cst (.bool false)), none, [], []⟩,
 ⟨some 2, .mv (.tmp 12), none, [], []⟩])
 .ret)))
def Xq48 : AFunc := ⟨13, [.tmp 2], Xq48.main, false⟩
def Xq45.c0 : ACode := (.seq (.region false [
 ⟨some 26, .mv (.tmp 3), none, [], []⟩,
 ⟨some 2, .mv (.tmp 26), none, [], []⟩])
 .ret)
def Xq45.b0 : ACode := (.seq (.seq (.seq (.region false [
 ⟨some 6, .mv (.tmp 4), none, [], []⟩,
 ⟨some 7, .mv (.tmp 0), none, [], []⟩,
 ⟨some 8, .len .sl (.tmp 7), none, [], []⟩,
 ⟨some 9, .bin .lss (.tmp 6) (.tmp 8), none, [], []⟩])
 (.ghost (.kill [6, 7, 8])))
 (.cond (.tmp 9) .skip
 (.exit 0)))
 (.seq (.trunc (.block 1 (.seq (.region true [
 ⟨some 12, .mv (.tmp 3), none, [], [3]⟩,
 ⟨some 13, .mv (.tmp 0), none, [], [0]⟩,
 ⟨some 14, .mv (.tmp 4), none, [], [4]⟩,
 ⟨some 15, .iaddr 2 (.tmp 13) (.tmp 14), none, [1, 2], [13, 14]⟩,
 ⟨some 16, .faddr 0 (.tmp 15), none, [3], [15]⟩,
 ⟨some 17, .load false 1 (.tmp 16), none, [4], [16]⟩,
 ⟨some 18, .mv (.tmp 0), none, [], [0]⟩,
 ⟨some 19, .mv (.tmp 4), none, [], [4]⟩,
 ⟨some 20, .iaddr 2 (.tmp 18) (.tmp 19), none, [6, 7], [18, 19]⟩,
 ⟨some 21, .faddr 1 (.tmp 20), none, [8], [20]⟩,
 ⟨some 22, .load false 1 (.tmp 21), none, [9], [21]⟩,
 ⟨some 23, .build [(.int .i64 0), (.int .i64 0)] [(0, 1, (.tmp 17)), (1, 1, (.tmp 22))], none, [5, 10], [17, 22]⟩,
 ⟨some 24, .bslice 2 1 [(.int .i64 0), (.int .i64 0)] [(0, (.tmp 23))], none, [11], [23]⟩,
 ⟨some 25, .append 2 16 (.tmp 12) (.tmp 24), none, [0, 12], [12, 24]⟩,
 ⟨some 3, .mv (.tmp 25), none, [13, 13, 0, 1, 2, 3, 4, 5, 6, 7, 8, 9, 10, 11, 12, 13], [25]⟩])
 (.ghost (.kill [9, 12, 13, 14, 15, 16, 17, 18, 19, 20, 21, 22, 23, 24, 25])))))
 (.seq (.region false [
 ⟨some 10, .mv (.tmp 4), none, [], []⟩,
 ⟨some 11, .bin .add (.tmp 10) (.cst (.int .i64 1)), none, [], []⟩,
 ⟨some 4, .mv (.tmp 11), none, [], []⟩])
 (.ghost (.kill [10, 11])))))
def Xq45.main : ACode := (.seq (.seq (.region false [
 ⟨some 2, .mv (.cst .nils), none, [], []⟩])
 (.ghost (.kill [2])))
 (.seq (.seq (.region false [
 ⟨some 5, .bslice 2 0 [(.int .i64 0), (.int .i64 0)] [], none, [], []⟩,
 ⟨some 3, .mv (.tmp 5), none, [], []⟩])
 (.ghost (.kill [5])))
 (.seq (.seq (.region false [
 ⟨some 4, .mv (.cst (.int .i64 0)), none, [], []⟩])
 (.seq (.block 0 (.loop Xq45.b0))
 (.ghost (.kill [0, 4, 9]))))
 Xq45.c0)))
def Xq45.k0 : List Item := [.inBlock 0, .code (.ghost (.kill [0, 4, 9])), .code Xq45.c0]
def Xq45 : AFunc := ⟨27, [.tmp 2], Xq45.main, false⟩
def Xq59.c0 : ACode := (.seq (.region false [
 ⟨some 40, .mv (.tmp 0), none, [], []⟩,
 ⟨some 41, .len .sl (.tmp 40), none, [], []⟩,
 ⟨some 42, .bin .leq (.tmp 41) (.cst (.int .i64 512)), none, [], []⟩,
 ⟨some 2, .mv (.tmp 42), none, [], []⟩])
 .ret)
def Xq59.b0 : ACode := (.seq (.seq (.seq (.region false [
 ⟨some 4, .mv (.tmp 3), none, [], []⟩,
 ⟨some 5, .mv (.tmp 0), none, [], []⟩,
 ⟨some 6, .len .sl (.tmp 5), none, [], []⟩,
 ⟨some 7, .bin .lss (.tmp 4) (.tmp 6), none, [], []⟩])
 (.ghost (.kill [4, 5, 6])))
 (.cond (.tmp 7) .skip
 (.exit 0)))
 (.seq (.seq (.block 1 (.seq (.seq (.region false [
 ⟨some 10, .mv (.tmp 0), none, [], []⟩,
 ⟨some 11, .mv (.tmp 3), none, [], []⟩,
 ⟨some 12, .iaddr 2 (.tmp 10) (.tmp 11), none, [], []⟩,
 ⟨some 13, .faddr 0 (.tmp 12), none, [], []⟩,
 ⟨some 14, .load false 1 (.tmp 13), none, [], []⟩,
 ⟨some 15, .bin .lss (.tmp 14) (.cst (.int .i64 1)), none, [], []⟩,
 ⟨some 16, .mv (.tmp 15), none, [], []⟩,
 ⟨some 17, .mv (.tmp 0), (some ((some 16), false)), [], []⟩,
 ⟨some 18, .mv (.tmp 3), (some ((some 16), false)), [], []⟩,
 ⟨some 19, .iaddr 2 (.tmp 17) (.tmp 18), (some ((some 16), false)), [], []⟩,
 ⟨some 20, .faddr 0 (.tmp 19), (some ((some 16), false)), [], []⟩,
 ⟨some 21, .load false 1 (.tmp 20), (some ((some 16), false)), [], []⟩,
 ⟨some 22, .bin .gtr (.tmp 21) (.cst (.int .i64 5994)), (some ((some 16), false)), [], []⟩,
 ⟨some 23, .pick (.tmp 16) (.cst (.bool true)) (.tmp 22), none, [], []⟩,
 ⟨some 24, .mv (.tmp 23), none, [], []⟩,
 ⟨some 25, .mv (.tmp 0), (some ((some 24), false)), [], []⟩,
 ⟨some 26, .mv (.tmp 3), (some ((some 24), false)), [], []⟩,
 ⟨some 27, .iaddr 2 (.tmp 25) (.tmp 26), (some ((some 24), false)), [], []⟩,
 ⟨some 28, .faddr 1 (.tmp 27), (some ((some 24), false)), [], []⟩,
 ⟨some 29, .load false 1 (.tmp 28), (some ((some 24), false)), [], []⟩,
 ⟨some 30, .bin .lss (.tmp 29) (.cst (.int .i64 0)), (some ((some 24), false)), [], []⟩,
 ⟨some 31, .pick (.tmp 24) (.cst (.bool true)) (.tmp 30), none, [], []⟩,
 ⟨some 32, .mv (.tmp 31), none, [], []⟩,
 ⟨some 33, .mv (.tmp 0), (some ((some 32), false)), [], []⟩,
 ⟨some 34, .mv (.tmp 3), (some ((some 32), false)), [], []⟩,
 ⟨some 35, .iaddr 2 (.tmp 33) (.tmp 34), (some ((some 32), false)), [], []⟩,
 ⟨some 36, .faddr 1 (.tmp 35), (some ((some 32), false)), [], []⟩,
 ⟨some 37, .load false 1 (.tmp 36), (some ((some 32), false)), [], []⟩,
 ⟨some 38, .bin .gtr (.tmp 37) (.cst (.int .i64 1000000000)), (some ((some 32), false)), [], []⟩,
 ⟨some 39, .pick (.tmp 32) (.cst (.bool true)) (.tmp 38), none, [], []⟩])
 (.ghost (.kill [7, 10, 11, 12, 13, 14, 15, 16, 17, 18, 19, 20, 21, 22, 23, 24, 25, 26, 27, 28, 29, 30, 31, 32, 33, 34, 35, 36, 37, 38])))
 (.cond (.tmp 39) (.seq (.region false [
   ⟨some 2, .mv (.cst (.bool false)), none, [], []⟩])
  .ret)
 .skip)))
 (.ghost (.kill [39])))
 (.seq (.region false [
 ⟨some 8, .mv (.tmp 3), none, [], []⟩,
 ⟨some 9, .bin .add (.tmp 8) (.cst (.int .i64 1)), none, [], []⟩,
 ⟨some 3, .mv (.tmp 9), none, [], []⟩])
 (.ghost (.kill [8, 9])))))
def Xq59.main : ACode := (.seq (.seq (.region false [
 ⟨some 2, .mv (.cst (.bool false)), none, [], []⟩])
 (.ghost (.kill [2])))
 (.seq (.seq (.region false [
 ⟨some 3, .mv (.cst (.int .i64 0)), none, [], []⟩])
 (.seq (.block 0 (.loop Xq59.b0))
 (.ghost (.kill [3, 7]))))
 Xq59.c0))
def Xq59.k0 : List Item := [.inBlock 0, .code (.ghost (.kill [3, 7])), .code Xq59.c0]
def Xq59 : AFunc := ⟨43, [.tmp 2], Xq59.main, false⟩
def Xq57.main : ACode := (.seq (.seq (.region false [
 ⟨some 2, .box 4 (.tmp 0), none, [], []⟩,
 ⟨some 3, .box 4 (.tmp 1), none, [], []⟩,
 ⟨some 4, .mv (.cst (.bool false)), none, [], []⟩])
 (.ghost (.kill [0, 1, 4])))
 (.seq (.region false [
 ⟨some 5, .faddr 3 (.tmp 2), none, [], []⟩,
 ⟨some 6, .load false 1 (.tmp 5), none, [], []⟩,
 ⟨some 7, .faddr 3 (.tmp 3), none, [], []⟩,
 ⟨some 8, .load false 1 (.tmp 7), none, [], []⟩,
 ⟨some 9, .bin .eql (.tmp 6) (.tmp 8), none, [], []⟩,
 ⟨some 10, .mv (.tmp 9), none, [], []⟩,
 ⟨some 11, .faddr 2 (.tmp 2), (some ((some 10), true)), [], []⟩,
 ⟨some 12, .load false 1 (.tmp 11), (some ((some 10), true)), [], []⟩,
 ⟨some 13, .faddr 2 (.tmp 3), (some ((some 10), true)), [], []⟩,
 ⟨some 14, .load false 1 (.tmp 13), (some ((some 10), true)), [], []⟩,
 ⟨some 15, .bin .eql (.tmp 12) (.tmp 14), (some ((some 10), true)), [], []⟩,
 ⟨some 16, .pick (.tmp 10) (.tmp 15) (.cst (.bool false)), none, [], []⟩,
 ⟨some 17, .mv (.tmp 16), none, [], []⟩,
 ⟨some 18, .faddr 0 (.tmp 2), (some ((some 17), true)), [], []⟩,
 ⟨some 19, .load false 1 (.tmp 18), (some ((some 17), true)), [], []⟩,
 ⟨some 20, .faddr 0 (.tmp 3), (some ((some 17), true)), [], []⟩,
 ⟨some 21, .load false 1 (.tmp 20), (some ((some 17), true)), [], []⟩,
 ⟨some 22, .call true i_Xq28 [(.tmp 19), (.tmp 21)], (some ((some 17), true)), [], []⟩,
 ⟨some 23, .pick (.tmp 17) (.tmp 22) (.cst (.bool false)), none, [], []⟩,
 ⟨some 24, .mv (.tmp 23), none, [], []⟩,
 ⟨some 25, .faddr 1 (.tmp 2), (some ((some 24), true)), [], []⟩,
 ⟨some 26, .load false 1 (.tmp 25), (some ((some 24), true)), [], []⟩,
 ⟨some 27, .faddr 1 (.tmp 3), (some ((some 24), true)), [], []⟩,
 ⟨some 28, .load false 1 (.tmp 27), (some ((some 24), true)), [], []⟩,
 ⟨some 29, .call true i_Xq29 [(.tmp 26), (.tmp 28)], (some ((some 24), true)), [], []⟩,
 ⟨some 30, .pick (.tmp 24) (.tmp 29) (.cst (.bool false)), none, [], []⟩,
 ⟨some 4, .mv (.tmp 30), none, [], []⟩])
 .ret))
def Xq57 : AFunc := ⟨31, [.tmp 4], Xq57.main, false⟩
def Xq52.main : ACode := (.seq (.region false [
 ⟨some 2, .alloc [.nils, .nils, (.int .i64 0), (.int .i64 0)], none, [], []⟩])
 (.seq (.seq (.region false [
 ⟨some 6, .mv (.tmp 0), none, [], []⟩,
 ⟨some 7, .call true i_Xq45 [(.tmp 6)], none, [], []⟩,
 ⟨some 8, .call true i_Xq43 [(.tmp 7)], none, [], []⟩,
 ⟨some 5, .mv (.tmp 8), none, [], []⟩,
 ⟨some 9, .extr (.tmp 5) 0, none, [], []⟩,
 ⟨some 10, .extr (.tmp 5) 1, none, [], []⟩,
 ⟨some 3, .mv (.tmp 9), none, [], []⟩,
 ⟨some 4, .mv (.tmp 10), none, [], []⟩])
 (.ghost (.kill [0, 5, 6, 7, 8, 9, 10])))
 (.seq (.region false [
 ⟨some 11, .mv (.tmp 3), none, [], []⟩,
 ⟨some 12, .mv (.tmp 4), none, [], []⟩,
 ⟨some 13, .build [.nils, .nils, (.int .i64 0), (.int .i64 0)] [(0, 1, (.tmp 11)), (3, 1, (.tmp 12))], none, [], []⟩,
 ⟨none, .store 4 (.tmp 2) (.tmp 13), none, [], []⟩])
 .ret)))
def Xq52 : AFunc := ⟨14, [.cell 2 true 4], Xq52.main, false⟩
def Xq65.main : ACode := (.seq (.region false [
 ⟨some 2, .alloc [.nils, .nils, (.int .i64 0), (.int .i64 0)], none, [], []⟩])
 (.seq (.seq (.region false [
 ⟨some 6, .mv (.tmp 0), none, [], []⟩,
 ⟨some 7, .call true i_Xq45 [(.tmp 6)], none, [], []⟩,
 ⟨some 8, .call true i_Xq61 [(.tmp 7)], none, [], []⟩,
 ⟨some 5, .mv (.tmp 8), none, [], []⟩,
 ⟨some 9, .extr (.tmp 5) 0, none, [], []⟩,
 ⟨some 10, .extr (.tmp 5) 1, none, [], []⟩,
 ⟨some 3, .mv (.tmp 9), none, [], []⟩,
 ⟨some 4, .mv (.tmp 10), none, [], []⟩])
 (.ghost (.kill [0, 5, 6, 7, 8, 9, 10])))
 (.seq (.region false [
 ⟨some 11, .mv (.tmp 3), none, [], []⟩,
 ⟨some 12, .mv (.tmp 4), none, [], []⟩,
 ⟨some 13, .build [.nils, .nils, (.int .i64 0), (.int .i64 0)] [(2, 1, (.tmp 11)), (3, 1, (.tmp 12))], none, [], []⟩,
 ⟨none, .store 4 (.tmp 2) (.tmp 13), none, [], []⟩])
 .ret)))
def Xq65 : AFunc := ⟨14, [.cell 2 true 4], Xq65.main, false⟩
def Xq55.c0 : ACode := (.seq (.region false [
 ⟨some 40, .load true 4 (.tmp 7), none, [], []⟩,
 ⟨none, .store 4 (.tmp 4) (.tmp 40), none, [], []⟩])
 .ret)
def Xq55.b0 : ACode := (.seq (.seq (.seq (.region false [
 ⟨some 18, .mv (.tmp 8), none, [], []⟩,
 ⟨some 19, .mv (.tmp 5), none, [], []⟩,
 ⟨some 20, .len .sl (.tmp 19), none, [], []⟩,
 ⟨some 21, .bin .lss (.tmp 18) (.tmp 20), none, [], []⟩])
 (.ghost (.kill [18, 19, 20])))
 (.cond (.tmp 21) .skip
 (.exit 0)))
 (.seq (.trunc (.block 1 (.seq (.region true [
 ⟨some 24, .faddr 1 (.tmp 7), none, [], [7]⟩,
 ⟨some 25, .load false 1 (.tmp 24), none, [0], [24]⟩,
 ⟨some 26, .mv (.tmp 5), none, [], [5]⟩,
 ⟨some 27, .mv (.tmp 8), none, [], [8]⟩,
 ⟨some 28, .iaddr 2 (.tmp 26) (.tmp 27), none, [2, 3], [26, 27]⟩,
 ⟨some 29, .faddr 0 (.tmp 28), none, [4], [28]⟩,
 ⟨some 30, .load false 1 (.tmp 29), none, [5], [29]⟩,
 ⟨some 31, .mv (.tmp 5), none, [], [5]⟩,
 ⟨some 32, .mv (.tmp 8), none, [], [8]⟩,
 ⟨some 33, .iaddr 2 (.tmp 31) (.tmp 32), none, [7, 8], [31, 32]⟩,
 ⟨some 34, .faddr 1 (.tmp 33), none, [9], [33]⟩,
 ⟨some 35, .load false 1 (.tmp 34), none, [10], [34]⟩,
 ⟨some 36, .build [(.int .i64 0), (.int .i64 0)] [(0, 1, (.tmp 30)), (1, 1, (.tmp 35))], none, [6, 11], [30, 35]⟩,
 ⟨some 37, .bslice 2 1 [(.int .i64 0), (.int .i64 0)] [(0, (.tmp 36))], none, [12], [36]⟩,
 ⟨some 38, .append 2 16 (.tmp 25) (.tmp 37), none, [1, 13], [25, 37]⟩,
 ⟨some 39, .faddr 1 (.tmp 7), none, [0, 1, 2, 3, 4, 5, 6, 7, 8, 9, 10, 11, 12, 13, 14], [7]⟩,
 ⟨none, .store 1 (.tmp 39) (.tmp 38), none, [15, 14, 14, 0, 1, 2, 3, 4, 5, 6, 7, 8, 9, 10, 11, 12, 13, 14], [39, 38]⟩])
 (.ghost (.kill [21, 24, 25, 26, 27, 28, 29, 30, 31, 32, 33, 34, 35, 36, 37, 38, 39])))))
 (.seq (.region false [
 ⟨some 22, .mv (.tmp 8), none, [], []⟩,
 ⟨some 23, .bin .add (.tmp 22) (.cst (.int .i64 1)), none, [], []⟩,
 ⟨some 8, .mv (.tmp 23), none, [], []⟩])
 (.ghost (.kill [22, 23])))))
def Xq55.main : ACode := (.seq (.region false [
 ⟨some 4, .alloc [.nils, .nils, (.int .i64 0), (.int .i64 0)], none, [], []⟩])
 (.seq (.seq (.region false [
 ⟨some 10, .mv (.tmp 0), none, [], []⟩,
 ⟨some 11, .call true i_Xq45 [(.tmp 10)], none, [], []⟩,
 ⟨some 12, .mv (.tmp 1), none, [], []⟩,
 ⟨some 13, .call true i_Xq54 [(.tmp 11), (.tmp 12)], none, [], []⟩,
 ⟨some 9, .mv (.tmp 13), none, [], []⟩,
 ⟨some 14, .extr (.tmp 9) 0, none, [], []⟩,
 ⟨some 15, .extr (.tmp 9) 1, none, [], []⟩,
 ⟨some 5, .mv (.tmp 14), none, [], []⟩,
 ⟨some 6, .mv (.tmp 15), none, [], []⟩])
 (.ghost (.kill [0, 1, 9, 10, 11, 12, 13, 14, 15])))
 (.seq (.seq (.regionG [
  .op ⟨some 16, .mv (.tmp 6), none, [], []⟩,
  .op ⟨some 17, .build [.nils, .nils, (.int .i64 0), (.int .i64 0)] [(3, 1, (.tmp 16))], none, [], []⟩,
  .gh (.nilagg 17 1 2),
  .op ⟨some 7, .alloc [.nils, .nils, (.int .i64 0), (.int .i64 0)], none, [], []⟩,
  .op ⟨none, .store 4 (.tmp 7) (.tmp 17), none, [], []⟩])
 (.ghost (.kill [6, 16, 17])))
 (.seq (.seq (.region false [
 ⟨some 8, .mv (.cst (.int .i64 0)), none, [], []⟩])
 (.seq (.block 0 (.loop Xq55.b0))
 (.ghost (.kill [5, 8, 21]))))
 Xq55.c0))))
def Xq55.k0 : List Item := [.inBlock 0, .code (.ghost (.kill [5, 8, 21])), .code Xq55.c0]
def Xq55 : AFunc := ⟨41, [.cell 4 true 4], Xq55.main, false⟩
def Xq62.main : ACode := (.seq (.region false [
 ⟨some 4, .alloc [.nils, .nils, (.int .i64 0), (.int .i64 0)], none, [], []⟩])
 (.seq (.seq (.region false [
 ⟨some 8, .mv (.tmp 0), none, [], []⟩,
 ⟨some 9, .call true i_Xq45 [(.tmp 8)], none, [], []⟩,
 ⟨some 10, .mv (.tmp 1), none, [], []⟩,
 ⟨some 11, .call true i_Xq50 [(.tmp 9), (.tmp 10)], none, [], []⟩,
 ⟨some 7, .mv (.tmp 11), none, [], []⟩,
 ⟨some 12, .extr (.tmp 7) 0, none, [], []⟩,
 ⟨some 13, .extr (.tmp 7) 1, none, [], []⟩,
 ⟨some 5, .mv (.tmp 12), none, [], []⟩,
 ⟨some 6, .mv (.tmp 13), none, [], []⟩])
 (.ghost (.kill [0, 1, 7, 8, 9, 10, 11, 12, 13])))
 (.seq (.region false [
 ⟨some 14, .mv (.tmp 5), none, [], []⟩,
 ⟨some 15, .mv (.tmp 6), none, [], []⟩,
 ⟨some 16, .build [.nils, .nils, (.int .i64 0), (.int .i64 0)] [(2, 1, (.tmp 14)), (3, 1, (.tmp 15))], none, [], []⟩,
 ⟨none, .store 4 (.tmp 4) (.tmp 16), none, [], []⟩])
 .ret)))
def Xq62 : AFunc := ⟨17, [.cell 4 true 4], Xq62.main, false⟩
def Xq60.main : ACode := (.seq (.region false [
 ⟨some 4, .alloc [.nils, .nils, (.int .i64 0), (.int .i64 0)], none, [], []⟩])
 (.seq (.seq (.region false [
 ⟨some 8, .mv (.tmp 0), none, [], []⟩,
 ⟨some 9, .call true i_Xq45 [(.tmp 8)], none, [], []⟩,
 ⟨some 10, .mv (.tmp 1), none, [], []⟩,
 ⟨some 11, .call true i_Xq49 [(.tmp 9), (.tmp 10)], none, [], []⟩,
 ⟨some 7, .mv (.tmp 11), none, [], []⟩,
 ⟨some 12, .extr (.tmp 7) 0, none, [], []⟩,
 ⟨some 13, .extr (.tmp 7) 1, none, [], []⟩,
 ⟨some 5, .mv (.tmp 12), none, [], []⟩,
 ⟨some 6, .mv (.tmp 13), none, [], []⟩])
 (.ghost (.kill [0, 1, 7, 8, 9, 10, 11, 12, 13])))
 (.seq (.region false [
 ⟨some 14, .mv (.tmp 5), none, [], []⟩,
 ⟨some 15, .mv (.tmp 6), none, [], []⟩,
 ⟨some 16, .build [.nils, .nils, (.int .i64 0), (.int .i64 0)] [(0, 1, (.tmp 14)), (3, 1, (.tmp 15))], none, [], []⟩,
 ⟨none, .store 4 (.tmp 4) (.tmp 16), none, [], []⟩])
 .ret)))
def Xq60 : AFunc := ⟨17, [.cell 4 true 4], Xq60.main, false⟩
def Xq47.c0 : ACode := (.seq (.region false [
 ⟨some 10, .mv (.tmp 3), none, [], []⟩,
 ⟨some 2, .mv (.tmp 10), none, [], []⟩])
 .ret)
def Xq47.b0 : ACode := (.seq (.seq (.seq (.region false [
 ⟨some 4, .mv (.tmp 0), none, [], []⟩,
 ⟨some 5, .bin .gtr (.tmp 4) (.cst (.int .i64 0)), none, [], []⟩])
 (.ghost (.kill [4])))
 (.cond (.tmp 5) .skip
 (.exit 0)))
 (.seq (.block 1 (.seq (.region false [
 ⟨some 8, .mv (.tmp 3), none, [], []⟩,
 ⟨some 9, .bin .add (.tmp 8) (.cst (.int .i64 1)), none, [], []⟩,
 ⟨some 3, .mv (.tmp 9), none, [], []⟩])
 (.ghost (.kill [5, 8, 9]))))
 (.seq (.region false [
 ⟨some 6, .mv (.tmp 0), none, [], []⟩,
 ⟨some 7, .bin .quo (.tmp 6) (.cst (.int .i64 4)), none, [], []⟩,
 ⟨some 0, .mv (.tmp 7), none, [], []⟩])
 (.ghost (.kill [6, 7])))))
def Xq47.main : ACode := (.seq (.seq (.region false [
 ⟨some 2, .mv (.cst (.int .i64 0)), none, [], []⟩])
 (.ghost (.kill [2])))
 (.seq (.region false [
 ⟨some 3, .mv (.cst (.int .i64 (-1))), none, [], []⟩])
 (.seq (.seq (.block 0 (.loop Xq47.b0))
 (.ghost (.kill [0, 5])))
 Xq47.c0)))
def Xq47.k0 : List Item := [.inBlock 0, .code (.ghost (.kill [0, 5])), .code Xq47.c0]
def Xq47 : AFunc := ⟨11, [.tmp 2], Xq47.main, false⟩
def Xq56.c0 : ACode := (.seq (.region false [
 ⟨some 30, .load true 2 (.tmp 3), none, [], []⟩,
 ⟨none, .store 2 (.tmp 2) (.tmp 30), none, [], []⟩])
 .ret)
def Xq56.b0 : ACode := (.seq (.seq (.seq (.region false [
 ⟨some 6, .mv (.tmp 4), none, [], []⟩,
 ⟨some 7, .mv (.tmp 0), none, [], []⟩,
 ⟨some 8, .len .sl (.tmp 7), none, [], []⟩,
 ⟨some 9, .bin .lss (.tmp 6) (.tmp 8), none, [], []⟩])
 (.ghost (.kill [6, 7, 8])))
 (.cond (.tmp 9) .skip
 (.exit 0)))
 (.seq (.block 1 (.seq (.seq (.region true [
 ⟨some 12, .faddr 0 (.tmp 3), none, [], [3]⟩,
 ⟨some 13, .load false 1 (.tmp 12), none, [0], [12]⟩,
 ⟨some 14, .mv (.tmp 0), none, [], [0]⟩,
 ⟨some 15, .mv (.tmp 4), none, [], [4]⟩,
 ⟨some 16, .iaddr 2 (.tmp 14) (.tmp 15), none, [2, 3], [14, 15]⟩,
 ⟨some 17, .faddr 0 (.tmp 16), none, [4], [16]⟩,
 ⟨some 18, .load false 1 (.tmp 17), none, [5], [17]⟩,
 ⟨some 19, .bin .add (.tmp 13) (.tmp 18), none, [1, 6], [13, 18]⟩,
 ⟨some 20, .faddr 0 (.tmp 3), none, [0, 1, 2, 3, 4, 5, 6, 7], [3]⟩,
 ⟨none, .store 1 (.tmp 20) (.tmp 19), none, [8, 7, 0, 1, 2, 3, 4, 5, 6, 7], [20, 19]⟩])
 (.ghost (.kill [9, 12, 13, 14, 15, 16, 17, 18, 19, 20])))
 (.seq (.region true [
 ⟨some 21, .faddr 1 (.tmp 3), none, [], [3]⟩,
 ⟨some 22, .load false 1 (.tmp 21), none, [0], [21]⟩,
 ⟨some 23, .mv (.tmp 0), none, [], [0]⟩,
 ⟨some 24, .mv (.tmp 4), none, [], [4]⟩,
 ⟨some 25, .iaddr 2 (.tmp 23) (.tmp 24), none, [2, 3], [23, 24]⟩,
 ⟨some 26, .faddr 1 (.tmp 25), none, [4], [25]⟩,
 ⟨some 27, .load false 1 (.tmp 26), none, [5], [26]⟩,
 ⟨some 28, .bin .add (.tmp 22) (.tmp 27), none, [1, 6], [22, 27]⟩,
 ⟨some 29, .faddr 1 (.tmp 3), none, [0, 1, 2, 3, 4, 5, 6, 7], [3]⟩,
 ⟨none, .store 1 (.tmp 29) (.tmp 28), none, [8, 7, 0, 1, 2, 3, 4, 5, 6, 7], [29, 28]⟩])
 (.ghost (.kill [21, 22, 23, 24, 25, 26, 27, 28, 29])))))
 (.seq (.region false [
 ⟨some 10, .mv (.tmp 4), none, [], []⟩,
 ⟨some 11, .bin .add (.tmp 10) (.cst (.int .i64 1)), none, [], []⟩,
 ⟨some 4, .mv (.tmp 11), none, [], []⟩])
 (.ghost (.kill [10, 11])))))
def Xq56.main : ACode := (.seq (.region false [
 ⟨some 2, .alloc [(.int .i64 0), (.int .i64 0)], none, [], []⟩])
 (.seq (.seq (.region false [
 ⟨some 5, .build [(.int .i64 0), (.int .i64 0)] [], none, [], []⟩,
 ⟨some 3, .alloc [(.int .i64 0), (.int .i64 0)], none, [], []⟩,
 ⟨none, .store 2 (.tmp 3) (.tmp 5), none, [], []⟩])
 (.ghost (.kill [5])))
 (.seq (.seq (.region false [
 ⟨some 4, .mv (.cst (.int .i64 0)), none, [], []⟩])
 (.seq (.block 0 (.loop Xq56.b0))
 (.ghost (.kill [0, 4, 9]))))
 Xq56.c0)))
def Xq56.k0 : List Item := [.inBlock 0, .code (.ghost (.kill [0, 4, 9])), .code Xq56.c0]
def Xq56 : AFunc := ⟨31, [.cell 2 true 2], Xq56.main, false⟩
def Xq28.c0 : ACode := (.seq (.region false [
 ⟨some 4, .mv (.cst (.bool true)), none, [], []⟩])
 .ret)
def Xq28.c1 : ACode := (.ghost (.kill [0, 1, 5, 14]))
def Xq28.b0 : ACode := (.seq (.seq (.seq (.region false [
 ⟨some 11, .mv (.tmp 5), none, [], []⟩,
 ⟨some 12, .mv (.tmp 0), none, [], []⟩,
 ⟨some 13, .len .sl (.tmp 12), none, [], []⟩,
 ⟨some 14, .bin .lss (.tmp 11) (.tmp 13), none, [], []⟩])
 (.ghost (.kill [11, 12, 13])))
 (.cond (.tmp 14) .skip
 (.exit 0)))
 (.seq (.seq (.block 1 (.seq (.seq (.region true [
 ⟨some 17, .mv (.tmp 0), none, [], [0]⟩,
 ⟨some 18, .mv (.tmp 5), none, [], [5]⟩,
 ⟨some 19, .iaddr 1 (.tmp 17) (.tmp 18), none, [0, 1], [17, 18]⟩,
 ⟨some 20, .load false 1 (.tmp 19), none, [2], [19]⟩,
 ⟨some 21, .mv (.tmp 1), none, [], [1]⟩,
 ⟨some 22, .mv (.tmp 5), none, [], [5]⟩,
 ⟨some 23, .iaddr 1 (.tmp 21) (.tmp 22), none, [4, 5], [21, 22]⟩,
 ⟨some 24, .load false 1 (.tmp 23), none, [6], [23]⟩,
 ⟨some 25, .call true i_Xq66 [(.tmp 20), (.tmp 24)], none, [3, 7], [20, 24]⟩,
 ⟨some 26, .un .not (.tmp 25), none, [8], [25]⟩])
 (.ghost (.kill [14, 17, 18, 19, 20, 21, 22, 23, 24, 25])))
 (.cond (.tmp 26) (.seq (.region false [
   ⟨some 4, .mv (.cst (.bool false)), none, [], []⟩])
  .ret)
 .skip)))
 (.ghost (.kill [26])))
 (.seq (.region false [
 ⟨some 15, .mv (.tmp 5), none, [], []⟩,
 ⟨some 16, .bin .add (.tmp 15) (.cst (.int .i64 1)), none, [], []⟩,
 ⟨some 5, .mv (.tmp 16), none, [], []⟩])
 (.ghost (.kill [15, 16])))))
def Xq28.main : ACode := (.seq (.seq (.region false [
 ⟨some 4, .mv (.cst (.bool false)), none, [], []⟩])
 (.ghost (.kill [4])))
 (.seq (.seq (.seq (.region false [
 ⟨some 6, .mv (.tmp 0), none, [], []⟩,
 ⟨some 7, .len .sl (.tmp 6), none, [], []⟩,
 ⟨some 8, .mv (.tmp 1), none, [], []⟩,
 ⟨some 9, .len .sl (.tmp 8), none, [], []⟩,
 ⟨some 10, .bin .neq (.tmp 7) (.tmp 9), none, [], []⟩])
 (.ghost (.kill [6, 7, 8, 9])))
 (.cond (.tmp 10) (.seq (.region false [
   ⟨some 4, .mv (.cst (.bool false)), none, [], []⟩])
  .ret)
 .skip))
 (.seq (.seq (.seq (.region false [
 ⟨some 5, .mv (.cst (.int .i64 0)), none, [], []⟩])
 (.ghost (.kill [10])))
 (.seq (.block 0 (.loop Xq28.b0))
 Xq28.c1))
 Xq28.c0)))
def Xq28.k0 : List Item := [.inBlock 0, .code Xq28.c1, .code Xq28.c0]
def Xq28 : AFunc := ⟨27, [.tmp 4], Xq28.main, false⟩
def Xq58.c0 : ACode := (.seq (.region false [
 ⟨some 20, .mv (.tmp 3), none, [], []⟩,
 ⟨some 2, .mv (.tmp 20), none, [], []⟩])
 .ret)
def Xq58.b0 : ACode := (.seq (.seq (.seq (.region false [
 ⟨some 6, .mv (.tmp 4), none, [], []⟩,
 ⟨some 7, .mv (.tmp 0), none, [], []⟩,
 ⟨some 8, .len .sl (.tmp 7), none, [], []⟩,
 ⟨some 9, .bin .lss (.tmp 6) (.tmp 8), none, [], []⟩])
 (.ghost (.kill [6, 7, 8])))
 (.cond (.tmp 9) .skip
 (.exit 0)))
 (.seq (.trunc (.block 1 (.seq (.region false [
 ⟨some 12, .mv (.tmp 3), none, [], []⟩,
 ⟨some 13, .mv (.tmp 0), none, [], []⟩,
 ⟨some 14, .mv (.tmp 4), none, [], []⟩,
 ⟨some 15, .iaddr 1 (.tmp 13) (.tmp 14), none, [], []⟩,
 ⟨some 16, .load false 1 (.tmp 15), none, [], []⟩,
 ⟨some 17, .build [(.int .i64 0), (.int .i64 0)] [(0, 1, (.tmp 16)), (1, 1, (.cst (.int .i64 100)))], none, [], []⟩,
 ⟨some 18, .bslice 2 1 [(.int .i64 0), (.int .i64 0)] [(0, (.tmp 17))], none, [], []⟩,
 ⟨some 19, .append 2 16 (.tmp 12) (.tmp 18), none, [], []⟩,
 ⟨some 3, .mv (.tmp 19), none, [], []⟩])
 (.ghost (.kill [9, 12, 13, 14, 15, 16, 17, 18, 19])))))
 (.seq (.region false [
 ⟨some 10, .mv (.tmp 4), none, [], []⟩,
 ⟨some 11, .bin .add (.tmp 10) (.cst (.int .i64 1)), none, [], []⟩,
 ⟨some 4, .mv (.tmp 11), none, [], []⟩])
 (.ghost (.kill [10, 11])))))
def Xq58.main : ACode := (.seq (.seq (.region false [
 ⟨some 2, .mv (.cst .nils), none, [], []⟩])
 (.ghost (.kill [2])))
 (.seq (.seq (.region false [
 ⟨some 5, .bslice 2 0 [(.int .i64 0), (.int .i64 0)] [], none, [], []⟩,
 ⟨some 3, .mv (.tmp 5), none, [], []⟩])
 (.ghost (.kill [5])))
 (.seq (.seq (.region false [
 ⟨some 4, .mv (.cst (.int .i64 0)), none, [], []⟩])
 (.seq (.block 0 (.loop Xq58.b0))
 (.ghost (.kill [0, 4, 9]))))
 Xq58.c0)))
def Xq58.k0 : List Item := [.inBlock 0, .code (.ghost (.kill [0, 4, 9])), .code Xq58.c0]
def Xq58 : AFunc := ⟨21, [.tmp 2], Xq58.main, false⟩
def Xq29.c0 : ACode := (.seq (.region false [
 ⟨some 4, .mv (.cst (.bool true)), none, [], []⟩])
 .ret)
def Xq29.c1 : ACode := (.ghost (.kill [0, 1, 5, 14]))
def Xq29.b0 : ACode := (.seq (.seq (.seq (.region false [
 ⟨some 11, .mv (.tmp 5), none, [], []⟩,
 ⟨some 12, .mv (.tmp 0), none, [], []⟩,
 ⟨some 13, .len .sl (.tmp 12), none, [], []⟩,
 ⟨some 14, .bin .lss (.tmp 11) (.tmp 13), none, [], []⟩])
 (.ghost (.kill [11, 12, 13])))
 (.cond (.tmp 14) .skip
 (.exit 0)))
 (.seq (.seq (.block 1 (.seq (.seq (.region true [
 ⟨some 17, .mv (.tmp 0), none, [], [0]⟩,
 ⟨some 18, .mv (.tmp 5), none, [], [5]⟩,
 ⟨some 19, .iaddr 2 (.tmp 17) (.tmp 18), none, [0, 1], [17, 18]⟩,
 ⟨some 20, .load true 2 (.tmp 19), none, [2], [19]⟩,
 ⟨some 21, .mv (.tmp 1), none, [], [1]⟩,
 ⟨some 22, .mv (.tmp 5), none, [], [5]⟩,
 ⟨some 23, .iaddr 2 (.tmp 21) (.tmp 22), none, [4, 5], [21, 22]⟩,
 ⟨some 24, .load true 2 (.tmp 23), none, [6], [23]⟩,
 ⟨some 25, .eqs true (.row [(0, 1, false, (.int .i64)), (1, 1, false, (.int .i64))]) (.tmp 20) (.tmp 24), none, [3, 7], [20, 24]⟩])
 (.ghost (.kill [14, 17, 18, 19, 20, 21, 22, 23, 24])))
 (.cond (.tmp 25) (.seq (.region false [
   ⟨some 4, .mv (.cst (.bool false)), none, [], []⟩])
  .ret)
 .skip)))
 (.ghost (.kill [25])))
 (.seq (.region false [
 ⟨some 15, .mv (.tmp 5), none, [], []⟩,
 ⟨some 16, .bin .add (.tmp 15) (.cst (.int .i64 1)), none, [], []⟩,
 ⟨some 5, .mv (.tmp 16), none, [], []⟩])
 (.ghost (.kill [15, 16])))))
def Xq29.main : ACode := (.seq (.seq (.region false [
 ⟨some 4, .mv (.cst (.bool false)), none, [], []⟩])
 (.ghost (.kill [4])))
 (.seq (.seq (.seq (.region false [
 ⟨some 6, .mv (.tmp 0), none, [], []⟩,
 ⟨some 7, .len .sl (.tmp 6), none, [], []⟩,
 ⟨some 8, .mv (.tmp 1), none, [], []⟩,
 ⟨some 9, .len .sl (.tmp 8), none, [], []⟩,
 ⟨some 10, .bin .neq (.tmp 7) (.tmp 9), none, [], []⟩])
 (.ghost (.kill [6, 7, 8, 9])))
 (.cond (.tmp 10) (.seq (.region false [
   ⟨some 4, .mv (.cst (.bool false)), none, [], []⟩])
  .ret)
 .skip))
 (.seq (.seq (.seq (.region false [
 ⟨some 5, .mv (.cst (.int .i64 0)), none, [], []⟩])
 (.ghost (.kill [10])))
 (.seq (.block 0 (.loop Xq29.b0))
 Xq29.c1))
 Xq29.c0)))
def Xq29.k0 : List Item := [.inBlock 0, .code Xq29.c1, .code Xq29.c0]
def Xq29 : AFunc := ⟨26, [.tmp 4], Xq29.main, false⟩
def Xq34.main : ACode := (.seq (.seq (.region false [
 ⟨some 1, .box 2 (.tmp 0), none, [], []⟩,
 ⟨some 2, .mv (.cst (.bool false)), none, [], []⟩])
 (.ghost (.kill [0, 2])))
 (.seq (.region false [
 ⟨some 3, .faddr 0 (.tmp 1), none, [], []⟩,
 ⟨some 4, .load false 1 (.tmp 3), none, [], []⟩,
 ⟨some 5, .bin .lss (.tmp 4) (.cst (.int .i64 1)), none, [], []⟩,
 ⟨some 6, .mv (.tmp 5), none, [], []⟩,
 ⟨some 7, .faddr 0 (.tmp 1), (some ((some 6), false)), [], []⟩,
 ⟨some 8, .load false 1 (.tmp 7), (some ((some 6), false)), [], []⟩,
 ⟨some 9, .bin .gtr (.tmp 8) (.cst (.int .i64 5994)), (some ((some 6), false)), [], []⟩,
 ⟨some 10, .pick (.tmp 6) (.cst (.bool true)) (.tmp 9), none, [], []⟩,
 ⟨some 11, .mv (.tmp 10), none, [], []⟩,
 ⟨some 12, .faddr 1 (.tmp 1), (some ((some 11), false)), [], []⟩,
 ⟨some 13, .load false 1 (.tmp 12), (some ((some 11), false)), [], []⟩,
 ⟨some 14, .bin .lss (.tmp 13) (.cst (.int .i64 0)), (some ((some 11), false)), [], []⟩,
 ⟨some 15, .pick (.tmp 11) (.cst (.bool true)) (.tmp 14), none, [], []⟩,
 ⟨some 16, .mv (.tmp 15), none, [], []⟩,
 ⟨some 17, .faddr 1 (.tmp 1), (some ((some 16), false)), [], []⟩,
 ⟨some 18, .load false 1 (.tmp 17), (some ((some 16), false)), [], []⟩,
 ⟨some 19, .bin .gtr (.tmp 18) (.cst (.int .i64 1000000000)), (some ((some 16), false)), [], []⟩,
 ⟨some 20, .pick (.tmp 16) (.cst (.bool true)) (.tmp 19), none, [], []⟩,
 ⟨some 2, .mv (.tmp 20), none, [], []⟩])
 .ret))
def Xq34 : AFunc := ⟨21, [.tmp 2], Xq34.main, false⟩
def Xq10.main : ACode := (.seq (.seq (.region false [
 ⟨some 4, .mv (.cst (.bool false)), none, [], []⟩])
 (.ghost (.kill [4])))
 (.seq (.region false [
 ⟨some 5, .mv (.tmp 0), none, [], []⟩,
 ⟨some 6, .mv (.tmp 1), none, [], []⟩,
 ⟨some 7, .call true i_Xq16 [(.tmp 5), (.tmp 6)], none, [], []⟩,
 ⟨some 8, .bin .geq (.tmp 7) (.cst (.int .i64 0)), none, [], []⟩,
 ⟨some 4, .mv (.tmp 8), none, [], []⟩])
 .ret))
def Xq10 : AFunc := ⟨9, [.tmp 4], Xq10.main, false⟩
def Xq43.c0 : ACode := (.seq (.region false [
 ⟨some 45, .mv (.tmp 6), none, [], []⟩,
 ⟨some 2, .mv (.tmp 45), none, [], []⟩,
 ⟨some 3, .mv (.cst (.int .i64 0)), none, [], []⟩])
 .ret)
def Xq43.c1 : ACode := (.seq (.region false [
 ⟨some 23, .mv (.tmp 7), none, [], []⟩,
 ⟨some 24, .nilck (.tmp 23), none, [], []⟩,
 ⟨some 25, .faddr 2 (.tmp 24), none, [], []⟩,
 ⟨some 26, .load false 1 (.tmp 25), none, [], []⟩,
 ⟨some 7, .mv (.tmp 26), none, [], []⟩])
 (.ghost (.kill [23, 24, 25, 26])))
def Xq43.b1 : ACode := (.seq (.seq (.seq (.region false [
 ⟨some 21, .mv (.tmp 7), none, [], []⟩,
 ⟨some 22, .eqnil true .pt (.tmp 21), none, [], []⟩])
 (.ghost (.kill [21])))
 (.cond (.tmp 22) .skip
 (.exit 2)))
 (.seq (.block 3 (.seq (.seq (.region false [
 ⟨some 27, .mv (.tmp 7), none, [], []⟩,
 ⟨some 28, .nilck (.tmp 27), none, [], []⟩,
 ⟨some 29, .faddr 0 (.tmp 28), none, [], []⟩,
 ⟨some 30, .load false 1 (.tmp 29), none, [], []⟩,
 ⟨some 31, .len .sl (.tmp 30), none, [], []⟩,
 ⟨some 32, .bin .gtr (.tmp 31) (.cst (.int .i64 1)), none, [], []⟩])
 (.ghost (.kill [22, 27, 28, 29, 30, 31])))
 (.seq (.cond (.tmp 32) (.seq (.seq (.region false [
   ⟨some 33, .mv (.tmp 7), none, [], []⟩,
   ⟨some 34, .nilck (.tmp 33), none, [], []⟩,
   ⟨some 35, .faddr 0 (.tmp 34), none, [], []⟩,
   ⟨some 36, .load false 1 (.tmp 35), none, [], []⟩,
   ⟨some 37, .call false i_Xq27 [(.tmp 36)], none, [], []⟩])
  (.ghost (.kill [32, 33, 34, 35, 36, 37])))
  (.seq (.region false [
   ⟨some 38, .mv (.tmp 6), none, [], []⟩,
   ⟨some 39, .mv (.tmp 7), none, [], []⟩,
   ⟨some 40, .nilck (.tmp 39), none, [], []⟩,
   ⟨some 41, .faddr 0 (.tmp 40), none, [], []⟩,
   ⟨some 42, .load false 1 (.tmp 41), none, [], []⟩,
   ⟨some 43, .bslice 1 1 [.nils] [(0, (.tmp 42))], none, [], []⟩,
   ⟨some 44, .append 1 24 (.tmp 38) (.tmp 43), none, [], []⟩,
   ⟨some 6, .mv (.tmp 44), none, [], []⟩])
  (.ghost (.kill [38, 39, 40, 41, 42, 43, 44]))))
 .skip)
 (.ghost (.kill [32])))))
 Xq43.c1))
def Xq43.c2 : ACode := (.seq (.seq (.region false [
 ⟨some 6, .mv (.cst .nils), none, [], []⟩])
 (.ghost (.nilref 6 1)))
 (.seq (.seq (.seq (.region false [
 ⟨some 17, .mv (.tmp 4), none, [], []⟩,
 ⟨some 18, .nilck (.tmp 17), none, [], []⟩,
 ⟨some 19, .faddr 0 (.tmp 18), none, [], []⟩,
 ⟨some 20, .load false 1 (.tmp 19), none, [], []⟩,
 ⟨some 7, .mv (.tmp 20), none, [], []⟩])
 (.ghost (.kill [4, 17, 18, 19, 20])))
 (.seq (.block 2 (.loop Xq43.b1))
 (.ghost (.kill [7, 22]))))
 Xq43.c0))
def Xq43.b0 : ACode := (.seq (.seq (.seq (.region false [
 ⟨some 15, .mv (.tmp 5), none, [], []⟩,
 ⟨some 16, .callv false (.tmp 15) [], none, [], []⟩])
 (.ghost (.kill [15])))
 (.cond (.tmp 16) .skip
 (.exit 0)))
 (.seq (.block 1 .skip)
 (.ghost (.kill [16]))))
def Xq43.main : ACode := (.seq (.seq (.region false [
 ⟨some 2, .mv (.cst .nils), none, [], []⟩,
 ⟨some 3, .mv (.cst (.int .i64 0)), none, [], []⟩])
 (.ghost (.kill [2, 3])))
 (.seq (.seq (.seq (.region false [
 ⟨some 8, .mv (.tmp 0), none, [], []⟩,
 ⟨some 9, .call true i_Xq48 [(.tmp 8)], none, [], []⟩,
 ⟨some 10, .un .not (.tmp 9), none, [], []⟩])
 (.ghost (.kill [8, 9])))
 (.cond (.tmp 10) (.seq (.region false [
   ⟨some 2, .mv (.cst .nils), none, [], []⟩,
   ⟨some 3, .mv (.cst (.int .i64 1)), none, [], []⟩])
  .ret)
 .skip))
 (.seq (.seq (.region false [
 ⟨some 11, .mv (.tmp 0), none, [], []⟩,
 ⟨some 12, .call false i_Xq46 [(.tmp 11)], none, [], []⟩,
 ⟨some 4, .mv (.tmp 12), none, [], []⟩])
 (.ghost (.kill [0, 10, 11, 12])))
 (.seq (.seq (.seq (.region false [
 ⟨some 13, .mv (.tmp 4), none, [], []⟩,
 ⟨some 14, .mkfn (.func i_Xq25) [(.tmp 13)] [], none, [], []⟩,
 ⟨some 5, .mv (.tmp 14), none, [], []⟩])
 (.ghost (.kill [13, 14])))
 (.seq (.block 0 (.loop Xq43.b0))
 (.ghost (.kill [5, 16]))))
 Xq43.c2))))
def Xq43.k1 : List Item := [.inBlock 2, .code (.ghost (.kill [7, 22])), .code Xq43.c0]
def Xq43.k0 : List Item := [.inBlock 0, .code (.ghost (.kill [5, 16])), .code Xq43.c2]
def Xq43 : AFunc := ⟨46, [.tmp 2, .tmp 3], Xq43.main, false⟩
def Xq61.main : ACode := (.seq (.seq (.region false [
 ⟨some 2, .mv (.cst (.int .i64 0)), none, [], []⟩,
 ⟨some 3, .mv (.cst (.int .i64 0)), none, [], []⟩])
 (.ghost (.kill [2, 3])))
 (.seq (.seq (.seq (.region false [
 ⟨some 4, .mv (.tmp 0), none, [], []⟩,
 ⟨some 5, .call true i_Xq48 [(.tmp 4)], none, [], []⟩,
 ⟨some 6, .un .not (.tmp 5), none, [], []⟩])
 (.ghost (.kill [4, 5])))
 (.cond (.tmp 6) (.seq (.region false [
   ⟨some 2, .mv (.cst (.int .i64 0)), none, [], []⟩,
   ⟨some 3, .mv (.cst (.int .i64 1)), none, [], []⟩])
  .ret)
 .skip))
 (.seq (.region false [
 ⟨some 7, .mv (.tmp 0), none, [], []⟩,
 ⟨some 8, .call true i_Xq30 [(.tmp 7), (.cst (.clo (.func i_Xq44) [] []))], none, [], []⟩,
 ⟨some 2, .mv (.tmp 8), none, [], []⟩,
 ⟨some 3, .mv (.cst (.int .i64 0)), none, [], []⟩])
 .ret)))
def Xq61 : AFunc := ⟨9, [.tmp 2, .tmp 3], Xq61.main, false⟩
def Xq54.c0 : ACode := (.seq (.region false [
 ⟨some 83, .mv (.tmp 11), none, [], []⟩,
 ⟨some 4, .mv (.tmp 83), none, [], []⟩,
 ⟨some 5, .mv (.cst (.int .i64 0)), none, [], []⟩])
 .ret)
def Xq54.c1 : ACode := (.ghost (.kill [2, 6, 48, 49, 50, 51]))
def Xq54.c2 : ACode := (.seq (.region false [
 ⟨some 82, .bin .add (.tmp 50) (.cst (.int .i64 1)), none, [], []⟩,
 ⟨some 50, .mv (.tmp 82), none, [], []⟩])
 (.ghost (.kill [82])))
def Xq54.b2 : ACode := (.seq (.region false [
 ⟨some 51, .bin .lss (.tmp 50) (.tmp 49), none, [], []⟩])
 (.seq (.cond (.tmp 51) .skip
 (.exit 4))
 (.seq (.trunc (.block 5 (.seq (.seq (.region false [
 ⟨some 52, .mv (.tmp 50), none, [], []⟩,
 ⟨some 53, .iaddr 2 (.tmp 48) (.tmp 50), none, [], []⟩,
 ⟨some 54, .load true 2 (.tmp 53), none, [], []⟩,
 ⟨some 13, .alloc [(.int .i64 0), (.int .i64 0)], none, [], []⟩,
 ⟨some 12, .mv (.tmp 52), none, [], []⟩,
 ⟨none, .store 2 (.tmp 13) (.tmp 54), none, [], []⟩])
 (.ghost (.kill [51, 52, 53, 54])))
 (.seq (.seq (.region false [
 ⟨some 55, .mv (.tmp 6), none, [], []⟩,
 ⟨some 56, .mv (.tmp 12), none, [], []⟩,
 ⟨some 57, .iaddr 1 (.tmp 55) (.tmp 56), none, [], []⟩,
 ⟨some 58, .load false 1 (.tmp 57), none, [], []⟩,
 ⟨some 14, .mv (.tmp 58), none, [], []⟩])
 (.ghost (.kill [55, 56, 57, 58])))
 (.block 6 (.seq (.seq (.region false [
 ⟨some 60, .mv (.tmp 14), none, [], []⟩,
 ⟨some 61, .eqnil false .sl (.tmp 60), none, [], []⟩,
 ⟨some 59, .mv (.tmp 61), none, [], []⟩])
 (.ghost (.kill [60, 61])))
 (.cond (.tmp 59) (.seq (.region false [
   ⟨some 62, .mv (.tmp 11), none, [], []⟩,
   ⟨some 63, .load true 2 (.tmp 13), none, [], []⟩,
   ⟨some 64, .bslice 2 1 [(.int .i64 0), (.int .i64 0)] [(0, (.tmp 63))], none, [], []⟩,
   ⟨some 65, .append 2 16 (.tmp 62) (.tmp 64), none, [], []⟩,
   ⟨some 11, .mv (.tmp 65), none, [], []⟩])
  (.ghost (.kill [12, 13, 14, 59, 62, 63, 64, 65])))
 (.seq (.seq (.region false [
   ⟨some 67, .mv (.tmp 14), none, [], []⟩,
   ⟨some 68, .iaddr 1 (.tmp 67) (.cst (.int .i64 0)), none, [], []⟩,
   ⟨some 69, .load false 1 (.tmp 68), none, [], []⟩,
   ⟨some 70, .mv (.tmp 12), none, [], []⟩,
   ⟨some 71, .bin .eql (.tmp 69) (.tmp 70), none, [], []⟩,
   ⟨some 66, .mv (.tmp 71), none, [], []⟩])
  (.ghost (.kill [12, 13, 59, 67, 68, 69, 70, 71])))
  (.seq (.cond (.tmp 66) (.seq (.region false [
    ⟨some 72, .mv (.tmp 11), none, [], []⟩,
    ⟨some 73, .mv (.tmp 14), none, [], []⟩,
    ⟨some 74, .mkfn (.func i_Xq37) [] [(.tmp 2)], none, [], []⟩,
    ⟨some 75, .call true i_Xq33 [(.tmp 73), (.tmp 74)], none, [], []⟩,
    ⟨some 76, .mv (.tmp 14), none, [], []⟩,
    ⟨some 77, .mkfn (.func i_Xq39) [] [(.tmp 2)], none, [], []⟩,
    ⟨some 78, .call true i_Xq33 [(.tmp 76), (.tmp 77)], none, [], []⟩,
    ⟨some 79, .build [(.int .i64 0), (.int .i64 0)] [(0, 1, (.tmp 75)), (1, 1, (.tmp 78))], none, [], []⟩,
    ⟨some 80, .bslice 2 1 [(.int .i64 0), (.int .i64 0)] [(0, (.tmp 79))], none, [], []⟩,
    ⟨some 81, .append 2 16 (.tmp 72) (.tmp 80), none, [], []⟩,
    ⟨some 11, .mv (.tmp 81), none, [], []⟩])
   (.ghost (.kill [14, 66, 72, 73, 74, 75, 76, 77, 78, 79, 80, 81])))
  .skip)
  (.ghost (.kill [14, 66])))))))))))
 Xq54.c2)))
def Xq54.c3 : ACode := (.seq (.seq (.region false [
 ⟨some 11, .mv (.cst .nils), none, [], []⟩])
 (.ghost (.nilref 11 2)))
 (.seq (.seq (.region false [
 ⟨some 48, .load false 1 (.tmp 2), none, [], []⟩,
 ⟨some 49, .len .sl (.tmp 48), none, [], []⟩,
 ⟨some 50, .mv (.cst (.int .i64 0)), none, [], []⟩])
 (.seq (.block 4 (.loop Xq54.b2))
 Xq54.c1))
 Xq54.c0))
def Xq54.c4 : ACode := (.ghost (.kill [21, 22, 23, 24]))
def Xq54.c5 : ACode := (.seq (.region false [
 ⟨some 47, .bin .add (.tmp 23) (.cst (.int .i64 1)), none, [], []⟩,
 ⟨some 23, .mv (.tmp 47), none, [], []⟩])
 (.ghost (.kill [47])))
def Xq54.c6 : ACode := (.ghost (.kill [8, 31, 32, 33, 34]))
def Xq54.b1 : ACode := (.seq (.region false [
 ⟨some 34, .bin .lss (.tmp 33) (.tmp 32), none, [], []⟩])
 (.seq (.cond (.tmp 34) .skip
 (.exit 2))
 (.seq (.block 3 (.seq (.seq (.region false [
 ⟨some 35, .iaddr 1 (.tmp 31) (.tmp 33), none, [], []⟩,
 ⟨some 36, .load false 1 (.tmp 35), none, [], []⟩,
 ⟨some 10, .mv (.tmp 36), none, [], []⟩])
 (.ghost (.kill [34, 35, 36])))
 (.seq (.seq (.seq (.region false [
 ⟨some 37, .mv (.tmp 6), none, [], []⟩,
 ⟨some 38, .mv (.tmp 10), none, [], []⟩,
 ⟨some 39, .iaddr 1 (.tmp 37) (.tmp 38), none, [], []⟩,
 ⟨some 40, .load false 1 (.tmp 39), none, [], []⟩,
 ⟨some 41, .eqnil true .sl (.tmp 40), none, [], []⟩])
 (.ghost (.kill [37, 38, 39, 40])))
 (.cond (.tmp 41) (.seq (.region false [
   ⟨some 4, .mv (.cst .nils), none, [], []⟩,
   ⟨some 5, .mv (.cst (.int .i64 1)), none, [], []⟩])
  .ret)
 .skip))
 (.seq (.region false [
 ⟨some 42, .mv (.tmp 6), none, [], []⟩,
 ⟨some 43, .mv (.tmp 10), none, [], []⟩,
 ⟨some 44, .mv (.tmp 8), none, [], []⟩,
 ⟨some 45, .iaddr 1 (.tmp 42) (.tmp 43), none, [], []⟩,
 ⟨none, .store 1 (.tmp 45) (.tmp 44), none, [], []⟩])
 (.ghost (.kill [10, 41, 42, 43, 44, 45]))))))
 (.seq (.region false [
 ⟨some 46, .bin .add (.tmp 33) (.cst (.int .i64 1)), none, [], []⟩,
 ⟨some 33, .mv (.tmp 46), none, [], []⟩])
 (.ghost (.kill [46]))))))
def Xq54.b0 : ACode := (.seq (.region false [
 ⟨some 24, .bin .lss (.tmp 23) (.tmp 22), none, [], []⟩])
 (.seq (.cond (.tmp 24) .skip
 (.exit 0))
 (.seq (.block 1 (.seq (.seq (.region false [
 ⟨some 25, .iaddr 1 (.tmp 21) (.tmp 23), none, [], []⟩,
 ⟨some 26, .load false 1 (.tmp 25), none, [], []⟩,
 ⟨some 8, .mv (.tmp 26), none, [], []⟩])
 (.ghost (.kill [24, 25, 26])))
 (.seq (.seq (.seq (.region false [
 ⟨some 27, .load false 1 (.tmp 2), none, [], []⟩,
 ⟨some 28, .mv (.tmp 8), none, [], []⟩,
 ⟨some 29, .call true i_Xq35 [(.tmp 27), (.tmp 28)], none, [], []⟩,
 ⟨some 30, .un .not (.tmp 29), none, [], []⟩])
 (.ghost (.kill [27, 28, 29])))
 (.cond (.tmp 30) (.seq (.region false [
   ⟨some 4, .mv (.cst .nils), none, [], []⟩,
   ⟨some 5, .mv (.cst (.int .i64 1)), none, [], []⟩])
  .ret)
 .skip))
 (.seq (.seq (.region false [
 ⟨some 31, .mv (.tmp 8), none, [], []⟩,
 ⟨some 32, .len .sl (.tmp 31), none, [], []⟩,
 ⟨some 33, .mv (.cst (.int .i64 0)), none, [], []⟩])
 (.ghost (.kill [30])))
 (.seq (.block 2 (.loop Xq54.b1))
 Xq54.c6)))))
 Xq54.c5)))
def Xq54.main : ACode := (.seq (.seq (.region false [
 ⟨some 2, .box 1 (.tmp 0), none, [], []⟩,
 ⟨some 4, .mv (.cst .nils), none, [], []⟩,
 ⟨some 5, .mv (.cst (.int .i64 0)), none, [], []⟩])
 (.ghost (.kill [0, 4, 5])))
 (.seq (.seq (.seq (.region false [
 ⟨some 15, .load false 1 (.tmp 2), none, [], []⟩,
 ⟨some 16, .call true i_Xq48 [(.tmp 15)], none, [], []⟩,
 ⟨some 17, .un .not (.tmp 16), none, [], []⟩])
 (.ghost (.kill [15, 16])))
 (.cond (.tmp 17) (.seq (.region false [
   ⟨some 4, .mv (.cst .nils), none, [], []⟩,
   ⟨some 5, .mv (.cst (.int .i64 1)), none, [], []⟩])
  .ret)
 .skip))
 (.seq (.seq (.region false [
 ⟨some 18, .load false 1 (.tmp 2), none, [], []⟩,
 ⟨some 19, .len .sl (.tmp 18), none, [], []⟩,
 ⟨some 20, .mkslice 1 24 [.nils] (.tmp 19) (.tmp 19), none, [], []⟩,
 ⟨some 6, .mv (.tmp 20), none, [], []⟩])
 (.ghost (.kill [17, 18, 19, 20])))
 (.seq (.seq (.seq (.region false [
 ⟨some 21, .mv (.tmp 1), none, [], []⟩,
 ⟨some 22, .len .sl (.tmp 21), none, [], []⟩,
 ⟨some 23, .mv (.cst (.int .i64 0)), none, [], []⟩])
 (.ghost (.kill [1])))
 (.seq (.block 0 (.loop Xq54.b0))
 Xq54.c4))
 Xq54.c3))))
def Xq54.k2 : List Item := [.inBlock 4, .code Xq54.c1, .code Xq54.c0]
def Xq54.k1 : List Item := [.inBlock 2, .code Xq54.c6, .inBlock 1, .code Xq54.c5, .inLoop Xq54.b0, .inBlock 0, .code Xq54.c4, .code Xq54.c3]
def Xq54.k0 : List Item := [.inBlock 0, .code Xq54.c4, .code Xq54.c3]
def Xq54 : AFunc := ⟨84, [.tmp 4, .tmp 5], Xq54.main, false⟩
def Xq50.main : ACode := (.seq (.seq (.region false [
 ⟨some 2, .box 1 (.tmp 0), none, [], []⟩,
 ⟨some 4, .mv (.cst (.int .i64 0)), none, [], []⟩,
 ⟨some 5, .mv (.cst (.int .i64 0)), none, [], []⟩])
 (.ghost (.kill [0, 4, 5])))
 (.seq (.seq (.seq (.region false [
 ⟨some 6, .load false 1 (.tmp 2), none, [], []⟩,
 ⟨some 7, .call true i_Xq48 [(.tmp 6)], none, [], []⟩,
 ⟨some 8, .un .not (.tmp 7), none, [], []⟩,
 ⟨some 9, .mv (.tmp 8), none, [], []⟩,
 ⟨some 10, .load false 1 (.tmp 2), (some ((some 9), false)), [], []⟩,
 ⟨some 11, .mv (.tmp 1), (some ((some 9), false)), [], []⟩,
 ⟨some 12, .call true i_Xq35 [(.tmp 10), (.tmp 11)], (some ((some 9), false)), [], []⟩,
 ⟨some 13, .un .not (.tmp 12), (some ((some 9), false)), [], []⟩,
 ⟨some 14, .pick (.tmp 9) (.cst (.bool true)) (.tmp 13), none, [], []⟩])
 (.ghost (.kill [6, 7, 8, 9, 10, 11, 12, 13])))
 (.cond (.tmp 14) (.seq (.region false [
   ⟨some 4, .mv (.cst (.int .i64 0)), none, [], []⟩,
   ⟨some 5, .mv (.cst (.int .i64 1)), none, [], []⟩])
  .ret)
 .skip))
 (.seq (.region false [
 ⟨some 15, .mv (.tmp 1), none, [], []⟩,
 ⟨some 16, .mkfn (.func i_Xq38) [] [(.tmp 2)], none, [], []⟩,
 ⟨some 17, .call true i_Xq33 [(.tmp 15), (.tmp 16)], none, [], []⟩,
 ⟨some 18, .bin .add (.cst (.int .i64 4096)) (.tmp 17), none, [], []⟩,
 ⟨some 4, .mv (.tmp 18), none, [], []⟩,
 ⟨some 5, .mv (.cst (.int .i64 0)), none, [], []⟩])
 .ret)))
def Xq50 : AFunc := ⟨19, [.tmp 4, .tmp 5], Xq50.main, false⟩
def Xq49.main : ACode := (.seq (.seq (.region false [
 ⟨some 2, .box 1 (.tmp 0), none, [], []⟩,
 ⟨some 3, .box 1 (.tmp 1), none, [], []⟩,
 ⟨some 4, .mv (.cst .nils), none, [], []⟩,
 ⟨some 5, .mv (.cst (.int .i64 0)), none, [], []⟩])
 (.ghost (.kill [0, 1, 4, 5])))
 (.seq (.seq (.region false [
 ⟨some 10, .load false 1 (.tmp 2), none, [], []⟩,
 ⟨some 11, .call false i_Xq43 [(.tmp 10)], none, [], []⟩,
 ⟨some 9, .mv (.tmp 11), none, [], []⟩,
 ⟨some 12, .extr (.tmp 9) 0, none, [], []⟩,
 ⟨some 13, .extr (.tmp 9) 1, none, [], []⟩,
 ⟨some 6, .mv (.tmp 12), none, [], []⟩,
 ⟨some 7, .mv (.tmp 13), none, [], []⟩])
 (.ghost (.kill [9, 10, 11, 12, 13])))
 (.seq (.seq (.seq (.region false [
 ⟨some 14, .mv (.tmp 7), none, [], []⟩,
 ⟨some 15, .bin .neq (.tmp 14) (.cst (.int .i64 0)), none, [], []⟩,
 ⟨some 16, .mv (.tmp 15), none, [], []⟩,
 ⟨some 17, .load false 1 (.tmp 3), (some ((some 16), false)), [], []⟩,
 ⟨some 18, .bin .lss (.tmp 17) (.cst (.int .i64 0)), (some ((some 16), false)), [], []⟩,
 ⟨some 19, .pick (.tmp 16) (.cst (.bool true)) (.tmp 18), none, [], []⟩,
 ⟨some 20, .mv (.tmp 19), none, [], []⟩,
 ⟨some 21, .load false 1 (.tmp 3), (some ((some 20), false)), [], []⟩,
 ⟨some 22, .bin .gtr (.tmp 21) (.cst (.int .i64 1000000000)), (some ((some 20), false)), [], []⟩,
 ⟨some 23, .pick (.tmp 20) (.cst (.bool true)) (.tmp 22), none, [], []⟩])
 (.ghost (.kill [7, 14, 15, 16, 17, 18, 19, 20, 21, 22])))
 (.cond (.tmp 23) (.seq (.region false [
   ⟨some 4, .mv (.cst .nils), none, [], []⟩,
   ⟨some 5, .mv (.cst (.int .i64 1)), none, [], []⟩])
  .ret)
 .skip))
 (.seq (.seq (.region false [
 ⟨some 24, .mkfn (.func i_Xq36) [] [(.tmp 2), (.tmp 3)], none, [], []⟩,
 ⟨some 8, .mv (.tmp 24), none, [], []⟩])
 (.ghost (.kill [2, 3, 23, 24])))
 (.seq (.region false [
 ⟨some 25, .mv (.tmp 6), none, [], []⟩,
 ⟨some 26, .mv (.tmp 8), none, [], []⟩,
 ⟨some 27, .call false i_Xq18 [(.tmp 25), (.tmp 26)], none, [], []⟩,
 ⟨some 4, .mv (.tmp 27), none, [], []⟩,
 ⟨some 5, .mv (.cst (.int .i64 0)), none, [], []⟩])
 .ret)))))
def Xq49 : AFunc := ⟨28, [.tmp 4, .tmp 5], Xq49.main, false⟩
def Xq66.c0 : ACode := (.seq (.region false [
 ⟨some 4, .mv (.cst (.bool true)), none, [], []⟩])
 .ret)
def Xq66.c1 : ACode := (.ghost (.kill [0, 1, 5, 14]))
def Xq66.b0 : ACode := (.seq (.seq (.seq (.region false [
 ⟨some 11, .mv (.tmp 5), none, [], []⟩,
 ⟨some 12, .mv (.tmp 0), none, [], []⟩,
 ⟨some 13, .len .sl (.tmp 12), none, [], []⟩,
 ⟨some 14, .bin .lss (.tmp 11) (.tmp 13), none, [], []⟩])
 (.ghost (.kill [11, 12, 13])))
 (.cond (.tmp 14) .skip
 (.exit 0)))
 (.seq (.seq (.block 1 (.seq (.seq (.region true [
 ⟨some 17, .mv (.tmp 0), none, [], [0]⟩,
 ⟨some 18, .mv (.tmp 5), none, [], [5]⟩,
 ⟨some 19, .iaddr 1 (.tmp 17) (.tmp 18), none, [0, 1], [17, 18]⟩,
 ⟨some 20, .load false 1 (.tmp 19), none, [2], [19]⟩,
 ⟨some 21, .mv (.tmp 1), none, [], [1]⟩,
 ⟨some 22, .mv (.tmp 5), none, [], [5]⟩,
 ⟨some 23, .iaddr 1 (.tmp 21) (.tmp 22), none, [4, 5], [21, 22]⟩,
 ⟨some 24, .load false 1 (.tmp 23), none, [6], [23]⟩,
 ⟨some 25, .bin .neq (.tmp 20) (.tmp 24), none, [3, 7], [20, 24]⟩])
 (.ghost (.kill [14, 17, 18, 19, 20, 21, 22, 23, 24])))
 (.cond (.tmp 25) (.seq (.region false [
   ⟨some 4, .mv (.cst (.bool false)), none, [], []⟩])
  .ret)
 .skip)))
 (.ghost (.kill [25])))
 (.seq (.region false [
 ⟨some 15, .mv (.tmp 5), none, [], []⟩,
 ⟨some 16, .bin .add (.tmp 15) (.cst (.int .i64 1)), none, [], []⟩,
 ⟨some 5, .mv (.tmp 16), none, [], []⟩])
 (.ghost (.kill [15, 16])))))
def Xq66.main : ACode := (.seq (.seq (.region false [
 ⟨some 4, .mv (.cst (.bool false)), none, [], []⟩])
 (.ghost (.kill [4])))
 (.seq (.seq (.seq (.region false [
 ⟨some 6, .mv (.tmp 0), none, [], []⟩,
 ⟨some 7, .len .sl (.tmp 6), none, [], []⟩,
 ⟨some 8, .mv (.tmp 1), none, [], []⟩,
 ⟨some 9, .len .sl (.tmp 8), none, [], []⟩,
 ⟨some 10, .bin .neq (.tmp 7) (.tmp 9), none, [], []⟩])
 (.ghost (.kill [6, 7, 8, 9])))
 (.cond (.tmp 10) (.seq (.region false [
   ⟨some 4, .mv (.cst (.bool false)), none, [], []⟩])
  .ret)
 .skip))
 (.seq (.seq (.seq (.region false [
 ⟨some 5, .mv (.cst (.int .i64 0)), none, [], []⟩])
 (.ghost (.kill [10])))
 (.seq (.block 0 (.loop Xq66.b0))
 Xq66.c1))
 Xq66.c0)))
def Xq66.k0 : List Item := [.inBlock 0, .code Xq66.c1, .code Xq66.c0]
def Xq66 : AFunc := ⟨26, [.tmp 4], Xq66.main, false⟩
def Xq16.c0 : ACode := (.seq (.region false [
 ⟨some 4, .mv (.cst (.int .i64 (-1))), none, [], []⟩])
 .ret)
def Xq16.c1 : ACode := (.ghost (.kill [0, 1, 7, 8, 9]))
def Xq16.b0 : ACode := (.seq (.region false [
 ⟨some 9, .bin .lss (.tmp 8) (.tmp 7), none, [], []⟩])
 (.seq (.cond (.tmp 9) .skip
 (.exit 0))
 (.seq (.seq (.block 1 (.seq (.seq (.region false [
 ⟨some 10, .mv (.tmp 8), none, [], []⟩,
 ⟨some 5, .mv (.tmp 10), none, [], []⟩])
 (.ghost (.kill [9, 10])))
 (.seq (.seq (.region false [
 ⟨some 11, .mv (.tmp 1), none, [], []⟩,
 ⟨some 12, .mv (.tmp 0), none, [], []⟩,
 ⟨some 13, .mv (.tmp 5), none, [], []⟩,
 ⟨some 14, .iaddr 2 (.tmp 12) (.tmp 13), none, [], []⟩,
 ⟨some 15, .load true 2 (.tmp 14), none, [], []⟩,
 ⟨some 16, .callv true (.tmp 11) [(.tmp 15)], none, [], []⟩])
 (.ghost (.kill [11, 12, 13, 14, 15])))
 (.cond (.tmp 16) (.seq (.region false [
   ⟨some 17, .mv (.tmp 5), none, [], []⟩,
   ⟨some 4, .mv (.tmp 17), none, [], []⟩])
  .ret)
 .skip))))
 (.ghost (.kill [5, 16])))
 (.seq (.region false [
 ⟨some 18, .bin .add (.tmp 8) (.cst (.int .i64 1)), none, [], []⟩,
 ⟨some 8, .mv (.tmp 18), none, [], []⟩])
 (.ghost (.kill [18]))))))
def Xq16.main : ACode := (.seq (.seq (.region false [
 ⟨some 4, .mv (.cst (.int .i64 0)), none, [], []⟩])
 (.ghost (.kill [4])))
 (.seq (.seq (.seq (.region false [
 ⟨some 6, .mv (.tmp 0), none, [], []⟩,
 ⟨some 7, .len .sl (.tmp 6), none, [], []⟩,
 ⟨some 8, .mv (.cst (.int .i64 0)), none, [], []⟩])
 (.ghost (.kill [6])))
 (.seq (.block 0 (.loop Xq16.b0))
 Xq16.c1))
 Xq16.c0))
def Xq16.k0 : List Item := [.inBlock 0, .code Xq16.c1, .code Xq16.c0]
def Xq16 : AFunc := ⟨19, [.tmp 4], Xq16.main, false⟩
def Xq46.c0 : ACode := (.seq (.region false [
 ⟨some 25, .load false 1 (.tmp 3), none, [], []⟩,
 ⟨some 2, .mv (.tmp 25), none, [], []⟩])
 .ret)
def Xq46.y0 : ACode := (.seq (.region false [
 ⟨some 4, .mv (.tmp 10), none, [], []⟩,
 ⟨some 5, .alloc [(.int .i64 0), (.int .i64 0)], none, [], []⟩,
 ⟨none, .store 2 (.tmp 5) (.tmp 11), none, [], []⟩])
 (.block 1 (.seq (.region true [
 ⟨some 12, .load false 1 (.tmp 3), none, [], [3]⟩,
 ⟨some 13, .mv (.tmp 4), none, [], [4]⟩,
 ⟨some 14, .bslice 1 1 [(.int .i64 0)] [(0, (.tmp 13))], none, [1], [13]⟩,
 ⟨some 15, .faddr 0 (.tmp 5), none, [], [5]⟩,
 ⟨some 16, .load false 1 (.tmp 15), none, [3], [15]⟩,
 ⟨some 17, .load false 1 (.tmp 3), none, [], [3]⟩,
 ⟨some 18, .nilck (.tmp 17), none, [5], [17]⟩,
 ⟨some 19, .faddr 0 (.tmp 18), none, [6], [18]⟩,
 ⟨some 20, .load false 1 (.tmp 19), none, [7], [19]⟩,
 ⟨some 21, .build [.nils, (.int .i64 0), .nilp] [(0, 1, (.tmp 14)), (1, 1, (.tmp 16)), (2, 1, (.tmp 20))], none, [2, 4, 8], [14, 16, 20]⟩,
 ⟨some 22, .box 3 (.tmp 21), none, [9], [21]⟩,
 ⟨some 23, .nilck (.tmp 12), none, [0, 0, 1, 2, 3, 4, 5, 6, 7, 8, 9, 10], [12]⟩,
 ⟨some 24, .faddr 0 (.tmp 23), none, [11, 0, 1, 2, 3, 4, 5, 6, 7, 8, 9, 10], [23]⟩,
 ⟨none, .store 1 (.tmp 24) (.tmp 22), none, [12, 10, 0, 1, 2, 3, 4, 5, 6, 7, 8, 9, 10], [24, 22]⟩])
 (.ghost (.kill [3, 4, 5, 9, 10, 11, 12, 13, 14, 15, 16, 17, 18, 19, 20, 21, 22, 23, 24])))))
def Xq46.main : ACode := (.seq (.seq (.region false [
 ⟨some 2, .mv (.cst .nilp), none, [], []⟩])
 (.ghost (.kill [2])))
 (.seq (.seq (.region false [
 ⟨some 6, .build [.nilp] [], none, [], []⟩,
 ⟨some 7, .box 1 (.tmp 6), none, [], []⟩,
 ⟨some 3, .alloc [.nilp], none, [], []⟩,
 ⟨none, .store 1 (.tmp 3) (.tmp 7), none, [], []⟩])
 (.ghost (.kill [6, 7])))
 (.seq (.seq (.seq (.region false [
 ⟨some 8, .mv (.tmp 0), none, [], []⟩,
 ⟨some 9, .call true i_Xq19 [(.tmp 8)], none, [], []⟩])
 (.ghost (.kill [0, 8])))
 (.block 0 (.seq (.rangeF (.tmp 9) [10, 11] Xq46.y0)
 (.ghost (.kill [9])))))
 Xq46.c0)))
def Xq46 : AFunc := ⟨26, [.tmp 2], Xq46.main, false⟩
def Xq25.c0 : ACode := (.seq (.region false [
 ⟨some 2, .mv (.cst (.bool true)), none, [], []⟩])
 .ret)
def Xq25.c1 : ACode := (.ghost (.kill [0, 6, 54, 55, 56, 57]))
def Xq25.b2 : ACode := (.seq (.region false [
 ⟨some 57, .bin .lss (.tmp 56) (.tmp 55), none, [], []⟩])
 (.seq (.cond (.tmp 57) .skip
 (.exit 4))
 (.seq (.block 5 (.seq (.seq (.region false [
 ⟨some 58, .iaddr 1 (.tmp 54) (.tmp 56), none, [], []⟩,
 ⟨some 59, .load false 1 (.tmp 58), none, [], []⟩,
 ⟨some 9, .mv (.tmp 59), none, [], []⟩])
 (.ghost (.kill [57, 58, 59])))
 (.seq (.seq (.region false [
 ⟨some 60, .mv (.tmp 6), none, [], []⟩,
 ⟨some 61, .iaddr 1 (.tmp 60) (.cst (.int .i64 0)), none, [], []⟩,
 ⟨some 62, .load false 1 (.tmp 61), none, [], []⟩,
 ⟨some 63, .mv (.tmp 9), none, [], []⟩,
 ⟨some 64, .call false i_Xq24 [(.tmp 62), (.tmp 63)], none, [], []⟩])
 (.ghost (.kill [60, 61, 62, 63, 64])))
 (.seq (.region false [
 ⟨some 65, .mv (.tmp 0), none, [], []⟩,
 ⟨some 66, .mv (.tmp 9), none, [], []⟩,
 ⟨some 67, .call false i_Xq26 [(.tmp 65), (.tmp 66)], none, [], []⟩])
 (.ghost (.kill [9, 65, 66, 67]))))))
 (.seq (.region false [
 ⟨some 68, .bin .add (.tmp 56) (.cst (.int .i64 1)), none, [], []⟩,
 ⟨some 56, .mv (.tmp 68), none, [], []⟩])
 (.ghost (.kill [68]))))))
def Xq25.c2 : ACode := (.seq (.seq (.seq (.region false [
 ⟨some 53, .mv (.tmp 6), none, [], []⟩,
 ⟨some 54, .slice 1 (.tmp 53) (some (.cst (.int .i64 1))) none none, none, [], []⟩,
 ⟨some 55, .len .sl (.tmp 54), none, [], []⟩,
 ⟨some 56, .mv (.cst (.int .i64 0)), none, [], []⟩])
 (.ghost (.kill [53])))
 (.seq (.block 4 (.loop Xq25.b2))
 Xq25.c1))
 Xq25.c0)
def Xq25.c3 : ACode := (.seq (.region false [
 ⟨some 41, .mv (.tmp 7), none, [], []⟩,
 ⟨some 42, .nilck (.tmp 41), none, [], []⟩,
 ⟨some 43, .faddr 2 (.tmp 42), none, [], []⟩,
 ⟨some 44, .load false 1 (.tmp 43), none, [], []⟩,
 ⟨some 7, .mv (.tmp 44), none, [], []⟩])
 (.ghost (.kill [41, 42, 43, 44])))
def Xq25.b1 : ACode := (.seq (.seq (.seq (.region false [
 ⟨some 34, .mv (.tmp 7), none, [], []⟩,
 ⟨some 35, .eqnil true .pt (.tmp 34), none, [], []⟩,
 ⟨some 36, .mv (.tmp 35), none, [], []⟩,
 ⟨some 37, .mv (.tmp 6), (some ((some 36), true)), [], []⟩,
 ⟨some 38, .len .sl (.tmp 37), (some ((some 36), true)), [], []⟩,
 ⟨some 39, .bin .lss (.tmp 38) (.cst (.int .i64 4)), (some ((some 36), true)), [], []⟩,
 ⟨some 40, .pick (.tmp 36) (.tmp 39) (.cst (.bool false)), none, [], []⟩])
 (.ghost (.kill [34, 35, 36, 37, 38, 39])))
 (.cond (.tmp 40) .skip
 (.exit 2)))
 (.seq (.block 3 (.seq (.seq (.region false [
 ⟨some 45, .mv (.tmp 7), none, [], []⟩,
 ⟨some 46, .call false i_Xq23 [(.tmp 45)], none, [], []⟩,
 ⟨some 47, .mv (.tmp 5), none, [], []⟩,
 ⟨some 48, .bin .eql (.tmp 46) (.tmp 47), none, [], []⟩])
 (.ghost (.kill [40, 45, 46, 47])))
 (.seq (.cond (.tmp 48) (.seq (.region false [
   ⟨some 49, .mv (.tmp 6), none, [], []⟩,
   ⟨some 50, .mv (.tmp 7), none, [], []⟩,
   ⟨some 51, .bslice 1 1 [.nilp] [(0, (.tmp 50))], none, [], []⟩,
   ⟨some 52, .append 1 8 (.tmp 49) (.tmp 51), none, [], []⟩,
   ⟨some 6, .mv (.tmp 52), none, [], []⟩])
  (.ghost (.kill [48, 49, 50, 51, 52])))
 .skip)
 (.ghost (.kill [48])))))
 Xq25.c3))
def Xq25.c4 : ACode := (.seq (.seq (.region false [
 ⟨some 26, .slarr 16 1 (.tmp 3) none none, none, [], []⟩,
 ⟨some 27, .call true i_Xq20 [(.tmp 26), (.cst (.clo (.func i_Xq22) [] []))], none, [], []⟩,
 ⟨some 5, .mv (.tmp 27), none, [], []⟩])
 (.ghost (.kill [3, 26, 27])))
 (.seq (.seq (.seq (.region false [
 ⟨some 28, .mv (.tmp 5), none, [], []⟩,
 ⟨some 29, .bin .lss (.tmp 28) (.cst (.int .i64 0)), none, [], []⟩])
 (.ghost (.kill [28])))
 (.cond (.tmp 29) (.seq (.region false [
   ⟨some 2, .mv (.cst (.bool false)), none, [], []⟩])
  .ret)
 .skip))
 (.seq (.seq (.seq (.region false [
 ⟨some 6, .mv (.cst .nils), none, [], []⟩])
 (.ghost (.nilref 6 1)))
 (.ghost (.kill [29])))
 (.seq (.seq (.seq (.region false [
 ⟨some 30, .mv (.tmp 0), none, [], []⟩,
 ⟨some 31, .nilck (.tmp 30), none, [], []⟩,
 ⟨some 32, .faddr 0 (.tmp 31), none, [], []⟩,
 ⟨some 33, .load false 1 (.tmp 32), none, [], []⟩,
 ⟨some 7, .mv (.tmp 33), none, [], []⟩])
 (.ghost (.kill [30, 31, 32, 33])))
 (.seq (.block 2 (.loop Xq25.b1))
 (.ghost (.kill [5, 7, 40]))))
 Xq25.c2))))
def Xq25.b0 : ACode := (.seq (.seq (.seq (.region false [
 ⟨some 14, .mv (.tmp 4), none, [], []⟩,
 ⟨some 15, .eqnil true .pt (.tmp 14), none, [], []⟩])
 (.ghost (.kill [14])))
 (.cond (.tmp 15) .skip
 (.exit 0)))
 (.seq (.block 1 (.seq (.region false [
 ⟨some 20, .mv (.tmp 4), none, [], []⟩,
 ⟨some 21, .call false i_Xq23 [(.tmp 20)], none, [], []⟩,
 ⟨some 22, .iaddrA 16 1 (.tmp 3) (.tmp 21), none, [], []⟩,
 ⟨some 23, .load false 1 (.tmp 22), none, [], []⟩,
 ⟨some 24, .bin .add (.tmp 23) (.cst (.int .i64 1)), none, [], []⟩,
 ⟨some 25, .iaddrA 16 1 (.tmp 3) (.tmp 21), none, [], []⟩,
 ⟨none, .store 1 (.tmp 25) (.tmp 24), none, [], []⟩])
 (.ghost (.kill [15, 20, 21, 22, 23, 24, 25]))))
 (.seq (.region false [
 ⟨some 16, .mv (.tmp 4), none, [], []⟩,
 ⟨some 17, .nilck (.tmp 16), none, [], []⟩,
 ⟨some 18, .faddr 2 (.tmp 17), none, [], []⟩,
 ⟨some 19, .load false 1 (.tmp 18), none, [], []⟩,
 ⟨some 4, .mv (.tmp 19), none, [], []⟩])
 (.ghost (.kill [16, 17, 18, 19])))))
def Xq25.main : ACode := (.seq (.seq (.region false [
 ⟨some 2, .mv (.cst (.bool false)), none, [], []⟩])
 (.ghost (.kill [2])))
 (.seq (.region false [
 ⟨some 3, .alloc [(.int .i64 0), (.int .i64 0), (.int .i64 0), (.int .i64 0), (.int .i64 0), (.int .i64 0), (.int .i64 0), (.int .i64 0), (.int .i64 0), (.int .i64 0), (.int .i64 0), (.int .i64 0), (.int .i64 0), (.int .i64 0), (.int .i64 0), (.int .i64 0)], none, [], []⟩])
 (.seq (.seq (.seq (.region false [
 ⟨some 10, .mv (.tmp 0), none, [], []⟩,
 ⟨some 11, .nilck (.tmp 10), none, [], []⟩,
 ⟨some 12, .faddr 0 (.tmp 11), none, [], []⟩,
 ⟨some 13, .load false 1 (.tmp 12), none, [], []⟩,
 ⟨some 4, .mv (.tmp 13), none, [], []⟩])
 (.ghost (.kill [10, 11, 12, 13])))
 (.seq (.block 0 (.loop Xq25.b0))
 (.ghost (.kill [4, 15]))))
 Xq25.c4)))
def Xq25.k2 : List Item := [.inBlock 4, .code Xq25.c1, .code Xq25.c0]
def Xq25.k1 : List Item := [.inBlock 2, .code (.ghost (.kill [5, 7, 40])), .code Xq25.c2]
def Xq25.k0 : List Item := [.inBlock 0, .code (.ghost (.kill [4, 15])), .code Xq25.c4]
def Xq25 : AFunc := ⟨69, [.tmp 2], Xq25.main, false⟩
def Xq27.main : ACode := (.seq (.seq (.region false [
 ⟨some 3, .mv (.tmp 0), none, [], []⟩,
 ⟨some 4, .len .sl (.tmp 3), none, [], []⟩,
 ⟨some 2, .mv (.tmp 4), none, [], []⟩])
 (.ghost (.kill [3, 4])))
 (.seq (.region false [
 ⟨some 5, .mv (.tmp 0), none, [], []⟩,
 ⟨some 6, .mv (.tmp 2), none, [], []⟩,
 ⟨some 7, .mv (.tmp 2), none, [], []⟩,
 ⟨some 8, .conv .u64 (.tmp 7), none, [], []⟩,
 ⟨some 9, .call true i_Xq63 [(.tmp 8)], none, [], []⟩,
 ⟨some 10, .call false i_Xq11 [(.tmp 5), (.cst (.int .i64 0)), (.tmp 6), (.tmp 9)], none, [], []⟩])
 (.ghost (.kill [0, 2, 5, 6, 7, 8, 9, 10]))))
def Xq27 : AFunc := ⟨11, [], Xq27.main, false⟩
def Xq30.c0 : ACode := (.seq (.region false [
 ⟨some 20, .mv (.tmp 5), none, [], []⟩,
 ⟨some 4, .mv (.tmp 20), none, [], []⟩])
 .ret)
def Xq30.c1 : ACode := (.ghost (.kill [1, 8, 9, 10, 11]))
def Xq30.b0 : ACode := (.seq (.region false [
 ⟨some 11, .bin .lss (.tmp 10) (.tmp 9), none, [], []⟩])
 (.seq (.cond (.tmp 11) .skip
 (.exit 0))
 (.seq (.trunc (.block 1 (.seq (.seq (.region false [
 ⟨some 12, .iaddr 2 (.tmp 8) (.tmp 10), none, [], []⟩,
 ⟨some 13, .load true 2 (.tmp 12), none, [], []⟩,
 ⟨some 7, .alloc [(.int .i64 0), (.int .i64 0)], none, [], []⟩,
 ⟨none, .store 2 (.tmp 7) (.tmp 13), none, [], []⟩])
 (.ghost (.kill [11, 12, 13])))
 (.seq (.region false [
 ⟨some 14, .mv (.tmp 5), none, [], []⟩,
 ⟨some 15, .mv (.tmp 1), none, [], []⟩,
 ⟨some 16, .load true 2 (.tmp 7), none, [], []⟩,
 ⟨some 17, .callv true (.tmp 15) [(.tmp 16)], none, [], []⟩,
 ⟨some 18, .bin .add (.tmp 14) (.tmp 17), none, [], []⟩,
 ⟨some 5, .mv (.tmp 18), none, [], []⟩])
 (.ghost (.kill [7, 14, 15, 16, 17, 18]))))))
 (.seq (.region false [
 ⟨some 19, .bin .add (.tmp 10) (.cst (.int .i64 1)), none, [], []⟩,
 ⟨some 10, .mv (.tmp 19), none, [], []⟩])
 (.ghost (.kill [19]))))))
def Xq30.main : ACode := (.seq (.seq (.region false [
 ⟨some 4, .mv (.cst (.int .i64 0)), none, [], []⟩])
 (.ghost (.kill [4])))
 (.seq (.region false [
 ⟨some 5, .mv (.cst (.int .i64 0)), none, [], []⟩])
 (.seq (.seq (.seq (.region false [
 ⟨some 8, .mv (.tmp 0), none, [], []⟩,
 ⟨some 9, .len .sl (.tmp 8), none, [], []⟩,
 ⟨some 10, .mv (.cst (.int .i64 0)), none, [], []⟩])
 (.ghost (.kill [0])))
 (.seq (.block 0 (.loop Xq30.b0))
 Xq30.c1))
 Xq30.c0)))
def Xq30.k0 : List Item := [.inBlock 0, .code Xq30.c1, .code Xq30.c0]
def Xq30 : AFunc := ⟨21, [.tmp 4], Xq30.main, false⟩
def Xq44.main : ACode := (.seq (.seq (.region false [
 ⟨some 1, .box 2 (.tmp 0), none, [], []⟩,
 ⟨some 2, .mv (.cst (.int .i64 0)), none, [], []⟩])
 (.ghost (.kill [0, 2])))
 (.seq (.region false [
 ⟨some 3, .faddr 1 (.tmp 1), none, [], []⟩,
 ⟨some 4, .load false 1 (.tmp 3), none, [], []⟩,
 ⟨some 5, .bin .add (.cst (.int .i64 4096)) (.tmp 4), none, [], []⟩,
 ⟨some 2, .mv (.tmp 5), none, [], []⟩])
 .ret))
def Xq44 : AFunc := ⟨6, [.tmp 2], Xq44.main, false⟩
def Xq35.c0 : ACode := (.seq (.region false [
 ⟨some 25, .mv (.tmp 1), none, [], []⟩,
 ⟨some 26, .len .sl (.tmp 25), none, [], []⟩,
 ⟨some 27, .bin .gtr (.tmp 26) (.cst (.int .i64 0)), none, [], []⟩,
 ⟨some 4, .mv (.tmp 27), none, [], []⟩])
 .ret)
def Xq35.c1 : ACode := (.ghost (.kill [0, 5, 8, 9, 10, 11]))
def Xq35.b0 : ACode := (.seq (.region false [
 ⟨some 11, .bin .lss (.tmp 10) (.tmp 9), none, [], []⟩])
 (.seq (.cond (.tmp 11) .skip
 (.exit 0))
 (.seq (.block 1 (.seq (.seq (.region false [
 ⟨some 12, .iaddr 1 (.tmp 8) (.tmp 10), none, [], []⟩,
 ⟨some 13, .load false 1 (.tmp 12), none, [], []⟩,
 ⟨some 7, .mv (.tmp 13), none, [], []⟩])
 (.ghost (.kill [11, 12, 13])))
 (.seq (.seq (.seq (.region false [
 ⟨some 14, .mv (.tmp 7), none, [], []⟩,
 ⟨some 15, .mv (.tmp 5), none, [], []⟩,
 ⟨some 16, .bin .leq (.tmp 14) (.tmp 15), none, [], []⟩,
 ⟨some 17, .mv (.tmp 16), none, [], []⟩,
 ⟨some 18, .mv (.tmp 7), (some ((some 17), false)), [], []⟩,
 ⟨some 19, .mv (.tmp 0), (some ((some 17), false)), [], []⟩,
 ⟨some 20, .len .sl (.tmp 19), (some ((some 17), false)), [], []⟩,
 ⟨some 21, .bin .geq (.tmp 18) (.tmp 20), (some ((some 17), false)), [], []⟩,
 ⟨some 22, .pick (.tmp 17) (.cst (.bool true)) (.tmp 21), none, [], []⟩])
 (.ghost (.kill [5, 14, 15, 16, 17, 18, 19, 20, 21])))
 (.cond (.tmp 22) (.seq (.region false [
   ⟨some 4, .mv (.cst (.bool false)), none, [], []⟩])
  .ret)
 .skip))
 (.seq (.region false [
 ⟨some 23, .mv (.tmp 7), none, [], []⟩,
 ⟨some 5, .mv (.tmp 23), none, [], []⟩])
 (.ghost (.kill [7, 22, 23]))))))
 (.seq (.region false [
 ⟨some 24, .bin .add (.tmp 10) (.cst (.int .i64 1)), none, [], []⟩,
 ⟨some 10, .mv (.tmp 24), none, [], []⟩])
 (.ghost (.kill [24]))))))
def Xq35.main : ACode := (.seq (.seq (.region false [
 ⟨some 4, .mv (.cst (.bool false)), none, [], []⟩])
 (.ghost (.kill [4])))
 (.seq (.region false [
 ⟨some 5, .mv (.cst (.int .i64 (-1))), none, [], []⟩])
 (.seq (.seq (.region false [
 ⟨some 8, .mv (.tmp 1), none, [], []⟩,
 ⟨some 9, .len .sl (.tmp 8), none, [], []⟩,
 ⟨some 10, .mv (.cst (.int .i64 0)), none, [], []⟩])
 (.seq (.block 0 (.loop Xq35.b0))
 Xq35.c1))
 Xq35.c0)))
def Xq35.k0 : List Item := [.inBlock 0, .code Xq35.c1, .code Xq35.c0]
def Xq35 : AFunc := ⟨28, [.tmp 4], Xq35.main, false⟩
def Xq33.c0 : ACode := (.seq (.region false [
 ⟨some 20, .mv (.tmp 5), none, [], []⟩,
 ⟨some 4, .mv (.tmp 20), none, [], []⟩])
 .ret)
def Xq33.c1 : ACode := (.ghost (.kill [1, 8, 9, 10, 11]))
def Xq33.b0 : ACode := (.seq (.region false [
 ⟨some 11, .bin .lss (.tmp 10) (.tmp 9), none, [], []⟩])
 (.seq (.cond (.tmp 11) .skip
 (.exit 0))
 (.seq (.block 1 (.seq (.seq (.region false [
 ⟨some 12, .iaddr 1 (.tmp 8) (.tmp 10), none, [], []⟩,
 ⟨some 13, .load false 1 (.tmp 12), none, [], []⟩,
 ⟨some 7, .mv (.tmp 13), none, [], []⟩])
 (.ghost (.kill [11, 12, 13])))
 (.seq (.region false [
 ⟨some 14, .mv (.tmp 5), none, [], []⟩,
 ⟨some 15, .mv (.tmp 1), none, [], []⟩,
 ⟨some 16, .mv (.tmp 7), none, [], []⟩,
 ⟨some 17, .callv true (.tmp 15) [(.tmp 16)], none, [], []⟩,
 ⟨some 18, .bin .add (.tmp 14) (.tmp 17), none, [], []⟩,
 ⟨some 5, .mv (.tmp 18), none, [], []⟩])
 (.ghost (.kill [7, 14, 15, 16, 17, 18])))))
 (.seq (.region false [
 ⟨some 19, .bin .add (.tmp 10) (.cst (.int .i64 1)), none, [], []⟩,
 ⟨some 10, .mv (.tmp 19), none, [], []⟩])
 (.ghost (.kill [19]))))))
def Xq33.main : ACode := (.seq (.seq (.region false [
 ⟨some 4, .mv (.cst (.int .i64 0)), none, [], []⟩])
 (.ghost (.kill [4])))
 (.seq (.region false [
 ⟨some 5, .mv (.cst (.int .i64 0)), none, [], []⟩])
 (.seq (.seq (.seq (.region false [
 ⟨some 8, .mv (.tmp 0), none, [], []⟩,
 ⟨some 9, .len .sl (.tmp 8), none, [], []⟩,
 ⟨some 10, .mv (.cst (.int .i64 0)), none, [], []⟩])
 (.ghost (.kill [0])))
 (.seq (.block 0 (.loop Xq33.b0))
 Xq33.c1))
 Xq33.c0)))
def Xq33.k0 : List Item := [.inBlock 0, .code Xq33.c1, .code Xq33.c0]
def Xq33 : AFunc := ⟨21, [.tmp 4], Xq33.main, false⟩
def Xq37.main : ACode := (.seq (.seq (.region false [
 ⟨some 3, .mv (.cst (.int .i64 0)), none, [], []⟩])
 (.ghost (.kill [3])))
 (.seq (.region false [
 ⟨some 4, .load false 1 (.tmp 1), none, [], []⟩,
 ⟨some 5, .mv (.tmp 0), none, [], []⟩,
 ⟨some 6, .iaddr 2 (.tmp 4) (.tmp 5), none, [], []⟩,
 ⟨some 7, .faddr 0 (.tmp 6), none, [], []⟩,
 ⟨some 8, .load false 1 (.tmp 7), none, [], []⟩,
 ⟨some 3, .mv (.tmp 8), none, [], []⟩])
 .ret))
def Xq37 : AFunc := ⟨9, [.tmp 3], Xq37.main, false⟩
def Xq39.main : ACode := (.seq (.seq (.region false [
 ⟨some 3, .mv (.cst (.int .i64 0)), none, [], []⟩])
 (.ghost (.kill [3])))
 (.seq (.region false [
 ⟨some 4, .load false 1 (.tmp 1), none, [], []⟩,
 ⟨some 5, .mv (.tmp 0), none, [], []⟩,
 ⟨some 6, .iaddr 2 (.tmp 4) (.tmp 5), none, [], []⟩,
 ⟨some 7, .faddr 1 (.tmp 6), none, [], []⟩,
 ⟨some 8, .load false 1 (.tmp 7), none, [], []⟩,
 ⟨some 3, .mv (.tmp 8), none, [], []⟩])
 .ret))
def Xq39 : AFunc := ⟨9, [.tmp 3], Xq39.main, false⟩
def Xq38.main : ACode := (.seq (.seq (.region false [
 ⟨some 3, .mv (.cst (.int .i64 0)), none, [], []⟩])
 (.ghost (.kill [3])))
 (.seq (.region false [
 ⟨some 4, .load false 1 (.tmp 1), none, [], []⟩,
 ⟨some 5, .mv (.tmp 0), none, [], []⟩,
 ⟨some 6, .iaddr 2 (.tmp 4) (.tmp 5), none, [], []⟩,
 ⟨some 7, .faddr 1 (.tmp 6), none, [], []⟩,
 ⟨some 8, .load false 1 (.tmp 7), none, [], []⟩,
 ⟨some 9, .bin .mul (.cst (.int .i64 2)) (.tmp 8), none, [], []⟩,
 ⟨some 10, .bin .add (.cst (.int .i64 4096)) (.tmp 9), none, [], []⟩,
 ⟨some 3, .mv (.tmp 10), none, [], []⟩])
 .ret))
def Xq38 : AFunc := ⟨11, [.tmp 3], Xq38.main, false⟩
def Xq36.main : ACode := (.seq (.seq (.region false [
 ⟨some 4, .mv (.cst (.bool false)), none, [], []⟩])
 (.ghost (.kill [4])))
 (.seq (.seq (.region false [
 ⟨some 8, .load false 1 (.tmp 1), none, [], []⟩,
 ⟨some 9, .mv (.tmp 0), none, [], []⟩,
 ⟨some 10, .call true i_Xq50 [(.tmp 8), (.tmp 9)], none, [], []⟩,
 ⟨some 7, .mv (.tmp 10), none, [], []⟩,
 ⟨some 11, .extr (.tmp 7) 0, none, [], []⟩,
 ⟨some 12, .extr (.tmp 7) 1, none, [], []⟩,
 ⟨some 5, .mv (.tmp 11), none, [], []⟩,
 ⟨some 6, .mv (.tmp 12), none, [], []⟩])
 (.ghost (.kill [6, 7, 8, 9, 10, 11, 12])))
 (.seq (.region false [
 ⟨some 13, .load false 1 (.tmp 2), none, [], []⟩,
 ⟨some 14, .bin .mul (.tmp 13) (.cst (.int .i64 4096)), none, [], []⟩,
 ⟨some 15, .mv (.tmp 0), none, [], []⟩,
 ⟨some 16, .len .sl (.tmp 15), none, [], []⟩,
 ⟨some 17, .bin .sub (.tmp 16) (.cst (.int .i64 1)), none, [], []⟩,
 ⟨some 18, .bin .mul (.tmp 14) (.tmp 17), none, [], []⟩,
 ⟨some 19, .mv (.tmp 5), none, [], []⟩,
 ⟨some 20, .bin .leq (.tmp 18) (.tmp 19), none, [], []⟩,
 ⟨some 4, .mv (.tmp 20), none, [], []⟩])
 .ret)))
def Xq36 : AFunc := ⟨21, [.tmp 4], Xq36.main, false⟩
def Xq18.c0 : ACode := (.seq (.seq (.region false [
 ⟨some 36, .mv (.tmp 0), none, [], []⟩,
 ⟨some 37, .mv (.tmp 5), none, [], []⟩,
 ⟨some 38, .slice 1 (.tmp 36) (some (.tmp 37)) none none, none, [], []⟩,
 ⟨none, .clear [.nils] (.tmp 38), none, [], []⟩])
 (.ghost (.kill [36, 37, 38])))
 (.seq (.region false [
 ⟨some 39, .mv (.tmp 0), none, [], []⟩,
 ⟨some 40, .mv (.tmp 5), none, [], []⟩,
 ⟨some 41, .slice 1 (.tmp 39) none (some (.tmp 40)) none, none, [], []⟩,
 ⟨some 4, .mv (.tmp 41), none, [], []⟩])
 .ret))
def Xq18.c1 : ACode := (.seq (.region false [
 ⟨some 20, .mv (.tmp 6), none, [], []⟩,
 ⟨some 21, .bin .add (.tmp 20) (.cst (.int .i64 1)), none, [], []⟩,
 ⟨some 6, .mv (.tmp 21), none, [], []⟩])
 (.ghost (.kill [20, 21])))
def Xq18.b0 : ACode := (.seq (.seq (.seq (.region false [
 ⟨some 16, .mv (.tmp 6), none, [], []⟩,
 ⟨some 17, .mv (.tmp 0), none, [], []⟩,
 ⟨some 18, .len .sl (.tmp 17), none, [], []⟩,
 ⟨some 19, .bin .lss (.tmp 16) (.tmp 18), none, [], []⟩])
 (.ghost (.kill [16, 17, 18])))
 (.cond (.tmp 19) .skip
 (.exit 0)))
 (.seq (.block 1 (.seq (.seq (.region false [
 ⟨some 22, .mv (.tmp 0), none, [], []⟩,
 ⟨some 23, .mv (.tmp 6), none, [], []⟩,
 ⟨some 24, .iaddr 1 (.tmp 22) (.tmp 23), none, [], []⟩,
 ⟨some 25, .load false 1 (.tmp 24), none, [], []⟩,
 ⟨some 7, .mv (.tmp 25), none, [], []⟩])
 (.ghost (.kill [19, 22, 23, 24, 25])))
 (.seq (.seq (.region false [
 ⟨some 26, .mv (.tmp 1), none, [], []⟩,
 ⟨some 27, .mv (.tmp 7), none, [], []⟩,
 ⟨some 28, .callv true (.tmp 26) [(.tmp 27)], none, [], []⟩,
 ⟨some 29, .un .not (.tmp 28), none, [], []⟩])
 (.ghost (.kill [26, 27, 28])))
 (.seq (.cond (.tmp 29) (.seq (.seq (.region false [
   ⟨some 30, .mv (.tmp 0), none, [], []⟩,
   ⟨some 31, .mv (.tmp 5), none, [], []⟩,
   ⟨some 32, .mv (.tmp 7), none, [], []⟩,
   ⟨some 33, .iaddr 1 (.tmp 30) (.tmp 31), none, [], []⟩,
   ⟨none, .store 1 (.tmp 33) (.tmp 32), none, [], []⟩])
  (.ghost (.kill [7, 29, 30, 31, 32, 33])))
  (.seq (.region false [
   ⟨some 34, .mv (.tmp 5), none, [], []⟩,
   ⟨some 35, .bin .add (.tmp 34) (.cst (.int .i64 1)), none, [], []⟩,
   ⟨some 5, .mv (.tmp 35), none, [], []⟩])
  (.ghost (.kill [34, 35]))))
 .skip)
 (.ghost (.kill [7, 29]))))))
 Xq18.c1))
def Xq18.main : ACode := (.seq (.seq (.region false [
 ⟨some 4, .mv (.cst .nils), none, [], []⟩])
 (.ghost (.kill [4])))
 (.seq (.seq (.region false [
 ⟨some 8, .mv (.tmp 0), none, [], []⟩,
 ⟨some 9, .mv (.tmp 1), none, [], []⟩,
 ⟨some 10, .call true i_Xq15 [(.tmp 8), (.tmp 9)], none, [], []⟩,
 ⟨some 5, .mv (.tmp 10), none, [], []⟩])
 (.ghost (.kill [8, 9, 10])))
 (.seq (.seq (.seq (.region false [
 ⟨some 11, .mv (.tmp 5), none, [], []⟩,
 ⟨some 12, .bin .eql (.tmp 11) (.cst (.int .i64 (-1))), none, [], []⟩])
 (.ghost (.kill [11])))
 (.cond (.tmp 12) (.seq (.region false [
   ⟨some 13, .mv (.tmp 0), none, [], []⟩,
   ⟨some 4, .mv (.tmp 13), none, [], []⟩])
  .ret)
 .skip))
 (.seq (.seq (.seq (.region false [
 ⟨some 14, .mv (.tmp 5), none, [], []⟩,
 ⟨some 15, .bin .add (.tmp 14) (.cst (.int .i64 1)), none, [], []⟩,
 ⟨some 6, .mv (.tmp 15), none, [], []⟩])
 (.ghost (.kill [12, 14, 15])))
 (.seq (.block 0 (.loop Xq18.b0))
 (.ghost (.kill [1, 6, 19]))))
 Xq18.c0))))
def Xq18.k0 : List Item := [.inBlock 0, .code (.ghost (.kill [1, 6, 19])), .code Xq18.c0]
def Xq18 : AFunc := ⟨42, [.tmp 4], Xq18.main, false⟩
def Xq19.main : ACode := (.seq (.seq (.region false [
 ⟨some 1, .box 1 (.tmp 0), none, [], []⟩,
 ⟨some 2, .mv (.cst .nilf), none, [], []⟩])
 (.ghost (.kill [0, 2])))
 (.seq (.region false [
 ⟨some 3, .mkfn (.func i_Xq14) [] [(.tmp 1)], none, [], []⟩,
 ⟨some 2, .mv (.tmp 3), none, [], []⟩])
 .ret))
def Xq19 : AFunc := ⟨4, [.tmp 2], Xq19.main, false⟩
def Xq23.main : ACode := (.seq (.seq (.region false [
 ⟨some 2, .mv (.cst (.int .i64 0)), none, [], []⟩])
 (.ghost (.kill [2])))
 (.seq (.region false [
 ⟨some 3, .mv (.tmp 0), none, [], []⟩,
 ⟨some 4, .nilck (.tmp 3), none, [], []⟩,
 ⟨some 5, .faddr 1 (.tmp 4), none, [], []⟩,
 ⟨some 6, .load false 1 (.tmp 5), none, [], []⟩,
 ⟨some 7, .call true i_Xq47 [(.tmp 6)], none, [], []⟩,
 ⟨some 2, .mv (.tmp 7), none, [], []⟩])
 .ret))
def Xq23 : AFunc := ⟨8, [.tmp 2], Xq23.main, false⟩
def Xq20.c0 : ACode := (.seq (.region false [
 ⟨some 4, .mv (.cst (.int .i64 (-1))), none, [], []⟩])
 .ret)
def Xq20.c1 : ACode := (.ghost (.kill [0, 1, 7, 8, 9]))
def Xq20.b0 : ACode := (.seq (.region false [
 ⟨some 9, .bin .lss (.tmp 8) (.tmp 7), none, [], []⟩])
 (.seq (.cond (.tmp 9) .skip
 (.exit 0))
 (.seq (.seq (.block 1 (.seq (.seq (.region false [
 ⟨some 10, .mv (.tmp 8), none, [], []⟩,
 ⟨some 5, .mv (.tmp 10), none, [], []⟩])
 (.ghost (.kill [9, 10])))
 (.seq (.seq (.region false [
 ⟨some 11, .mv (.tmp 1), none, [], []⟩,
 ⟨some 12, .mv (.tmp 0), none, [], []⟩,
 ⟨some 13, .mv (.tmp 5), none, [], []⟩,
 ⟨some 14, .iaddr 1 (.tmp 12) (.tmp 13), none, [], []⟩,
 ⟨some 15, .load false 1 (.tmp 14), none, [], []⟩,
 ⟨some 16, .callv true (.tmp 11) [(.tmp 15)], none, [], []⟩])
 (.ghost (.kill [11, 12, 13, 14, 15])))
 (.cond (.tmp 16) (.seq (.region false [
   ⟨some 17, .mv (.tmp 5), none, [], []⟩,
   ⟨some 4, .mv (.tmp 17), none, [], []⟩])
  .ret)
 .skip))))
 (.ghost (.kill [5, 16])))
 (.seq (.region false [
 ⟨some 18, .bin .add (.tmp 8) (.cst (.int .i64 1)), none, [], []⟩,
 ⟨some 8, .mv (.tmp 18), none, [], []⟩])
 (.ghost (.kill [18]))))))
def Xq20.main : ACode := (.seq (.seq (.region false [
 ⟨some 4, .mv (.cst (.int .i64 0)), none, [], []⟩])
 (.ghost (.kill [4])))
 (.seq (.seq (.seq (.region false [
 ⟨some 6, .mv (.tmp 0), none, [], []⟩,
 ⟨some 7, .len .sl (.tmp 6), none, [], []⟩,
 ⟨some 8, .mv (.cst (.int .i64 0)), none, [], []⟩])
 (.ghost (.kill [6])))
 (.seq (.block 0 (.loop Xq20.b0))
 Xq20.c1))
 Xq20.c0))
def Xq20.k0 : List Item := [.inBlock 0, .code Xq20.c1, .code Xq20.c0]
def Xq20 : AFunc := ⟨19, [.tmp 4], Xq20.main, false⟩
def Xq22.main : ACode := (.seq (.seq (.region false [
 ⟨some 2, .mv (.cst (.bool false)), none, [], []⟩])
 (.ghost (.kill [2])))
 (.seq (.region false [
 ⟨some 3, .mv (.tmp 0), none, [], []⟩,
 ⟨some 4, .bin .geq (.tmp 3) (.cst (.int .i64 4)), none, [], []⟩,
 ⟨some 2, .mv (.tmp 4), none, [], []⟩])
 .ret))
def Xq22 : AFunc := ⟨5, [.tmp 2], Xq22.main, false⟩
def Xq24.main : ACode := (.seq (.seq (.region true [
 ⟨some 4, .mv (.tmp 0), none, [], [0]⟩,
 ⟨some 5, .mv (.tmp 0), none, [], [0]⟩,
 ⟨some 6, .nilck (.tmp 5), none, [1], [5]⟩,
 ⟨some 7, .faddr 0 (.tmp 6), none, [2], [6]⟩,
 ⟨some 8, .load false 1 (.tmp 7), none, [3], [7]⟩,
 ⟨some 9, .mv (.tmp 1), none, [], [1]⟩,
 ⟨some 10, .nilck (.tmp 9), none, [5], [9]⟩,
 ⟨some 11, .faddr 0 (.tmp 10), none, [6], [10]⟩,
 ⟨some 12, .load false 1 (.tmp 11), none, [7], [11]⟩,
 ⟨some 13, .append 1 8 (.tmp 8) (.tmp 12), none, [4, 8], [8, 12]⟩,
 ⟨some 14, .nilck (.tmp 4), none, [0, 0, 1, 2, 3, 4, 5, 6, 7, 8, 9], [4]⟩,
 ⟨some 15, .faddr 0 (.tmp 14), none, [10, 0, 1, 2, 3, 4, 5, 6, 7, 8, 9], [14]⟩,
 ⟨none, .store 1 (.tmp 15) (.tmp 13), none, [11, 9, 9, 0, 1, 2, 3, 4, 5, 6, 7, 8, 9], [15, 13]⟩])
 (.ghost (.kill [4, 5, 6, 7, 8, 9, 10, 11, 12, 13, 14, 15])))
 (.seq (.region true [
 ⟨some 16, .mv (.tmp 0), none, [], [0]⟩,
 ⟨some 17, .nilck (.tmp 16), none, [0], [16]⟩,
 ⟨some 18, .faddr 1 (.tmp 17), none, [1], [17]⟩,
 ⟨some 19, .load false 1 (.tmp 18), none, [2], [18]⟩,
 ⟨some 20, .mv (.tmp 1), none, [], [1]⟩,
 ⟨some 21, .nilck (.tmp 20), none, [4], [20]⟩,
 ⟨some 22, .faddr 1 (.tmp 21), none, [5], [21]⟩,
 ⟨some 23, .load false 1 (.tmp 22), none, [6], [22]⟩,
 ⟨some 24, .bin .add (.tmp 19) (.tmp 23), none, [3, 7], [19, 23]⟩,
 ⟨some 25, .nilck (.tmp 16), none, [0, 0, 1, 2, 3, 4, 5, 6, 7, 8], [16]⟩,
 ⟨some 26, .faddr 1 (.tmp 25), none, [9, 0, 1, 2, 3, 4, 5, 6, 7, 8], [25]⟩,
 ⟨none, .store 1 (.tmp 26) (.tmp 24), none, [10, 8, 0, 1, 2, 3, 4, 5, 6, 7, 8], [26, 24]⟩])
 (.ghost (.kill [0, 1, 16, 17, 18, 19, 20, 21, 22, 23, 24, 25, 26]))))
def Xq24 : AFunc := ⟨27, [], Xq24.main, false⟩
def Xq26.b0 : ACode := (.seq (.seq (.seq (.region false [
 ⟨some 9, .mv (.tmp 4), none, [], []⟩,
 ⟨some 10, .eqnil true .pt (.tmp 9), none, [], []⟩])
 (.ghost (.kill [9])))
 (.cond (.tmp 10) .skip
 (.exit 0)))
 (.seq (.seq (.block 1 (.seq (.seq (.region false [
 ⟨some 15, .mv (.tmp 4), none, [], []⟩,
 ⟨some 16, .nilck (.tmp 15), none, [], []⟩,
 ⟨some 17, .faddr 2 (.tmp 16), none, [], []⟩,
 ⟨some 18, .load false 1 (.tmp 17), none, [], []⟩,
 ⟨some 19, .mv (.tmp 1), none, [], []⟩,
 ⟨some 20, .eqp false (.tmp 18) (.tmp 19), none, [], []⟩])
 (.ghost (.kill [10, 15, 16, 17, 18, 19])))
 (.cond (.tmp 20) (.seq (.region false [
   ⟨some 21, .mv (.tmp 4), none, [], []⟩,
   ⟨some 22, .mv (.tmp 1), none, [], []⟩,
   ⟨some 23, .nilck (.tmp 22), none, [], []⟩,
   ⟨some 24, .faddr 2 (.tmp 23), none, [], []⟩,
   ⟨some 25, .load false 1 (.tmp 24), none, [], []⟩,
   ⟨some 26, .nilck (.tmp 21), none, [], []⟩,
   ⟨some 27, .faddr 2 (.tmp 26), none, [], []⟩,
   ⟨none, .store 1 (.tmp 27) (.tmp 25), none, [], []⟩])
  .ret)
 .skip)))
 (.ghost (.kill [20])))
 (.seq (.region false [
 ⟨some 11, .mv (.tmp 4), none, [], []⟩,
 ⟨some 12, .nilck (.tmp 11), none, [], []⟩,
 ⟨some 13, .faddr 2 (.tmp 12), none, [], []⟩,
 ⟨some 14, .load false 1 (.tmp 13), none, [], []⟩,
 ⟨some 4, .mv (.tmp 14), none, [], []⟩])
 (.ghost (.kill [11, 12, 13, 14])))))
def Xq26.main : ACode := (.seq (.seq (.region false [
 ⟨some 5, .mv (.tmp 0), none, [], []⟩,
 ⟨some 6, .nilck (.tmp 5), none, [], []⟩,
 ⟨some 7, .faddr 0 (.tmp 6), none, [], []⟩,
 ⟨some 8, .load false 1 (.tmp 7), none, [], []⟩,
 ⟨some 4, .mv (.tmp 8), none, [], []⟩])
 (.ghost (.kill [0, 5, 6, 7, 8])))
 (.seq (.block 0 (.loop Xq26.b0))
 (.ghost (.kill [1, 4, 10]))))
def Xq26.k0 : List Item := [.inBlock 0, .code (.ghost (.kill [1, 4, 10]))]
def Xq26 : AFunc := ⟨28, [], Xq26.main, false⟩
def Xq11.c0 : ACode := (.seq (.seq (.seq (.region true [
 ⟨some 73, .mv (.tmp 1), none, [], [1]⟩,
 ⟨some 74, .bin .gtr (.tmp 73) (.cst (.int .i64 0)), none, [0], [73]⟩,
 ⟨some 75, .mv (.tmp 74), none, [1], [74]⟩,
 ⟨some 76, .mv (.tmp 0), (some ((some 75), true)), [2], [0]⟩,
 ⟨some 77, .mv (.tmp 1), (some ((some 75), true)), [2], [1]⟩,
 ⟨some 78, .bin .sub (.tmp 77) (.cst (.int .i64 1)), (some ((some 75), true)), [4, 2], [77]⟩,
 ⟨some 79, .iaddr 1 (.tmp 76) (.tmp 78), (some ((some 75), true)), [3, 5, 2], [76, 78]⟩,
 ⟨some 80, .load false 1 (.tmp 79), (some ((some 75), true)), [6, 2], [79]⟩,
 ⟨some 81, .mv (.tmp 0), (some ((some 75), true)), [2], [0]⟩,
 ⟨some 82, .mv (.tmp 11), (some ((some 75), true)), [2], [11]⟩,
 ⟨some 83, .iaddr 1 (.tmp 81) (.tmp 82), (some ((some 75), true)), [8, 9, 2], [81, 82]⟩,
 ⟨some 84, .load false 1 (.tmp 83), (some ((some 75), true)), [10, 2], [83]⟩,
 ⟨some 85, .call true i_Xq40 [(.tmp 80), (.tmp 84)], (some ((some 75), true)), [7, 11, 2, 2], [80, 84]⟩,
 ⟨some 86, .un .not (.tmp 85), (some ((some 75), true)), [12, 2], [85]⟩,
 ⟨some 87, .pick (.tmp 75) (.tmp 86) (.cst (.bool false)), none, [2, 13], [75, 86]⟩])
 (.ghost (.kill [73, 74, 75, 76, 77, 78, 79, 80, 81, 82, 83, 84, 85, 86])))
 (.cond (.tmp 87) (.seq (.seq (.region false [
   ⟨some 88, .mv (.tmp 0), none, [], []⟩,
   ⟨some 89, .mv (.tmp 1), none, [], []⟩,
   ⟨some 90, .mv (.tmp 2), none, [], []⟩,
   ⟨some 91, .mv (.tmp 11), none, [], []⟩,
   ⟨some 92, .call false i_Xq2 [(.tmp 88), (.tmp 89), (.tmp 90), (.tmp 91)], none, [], []⟩,
   ⟨some 13, .mv (.tmp 92), none, [], []⟩])
  (.ghost (.kill [1, 10, 11, 87, 88, 89, 90, 91, 92])))
  (.seq (.seq (.region false [
   ⟨some 93, .mv (.tmp 13), none, [], []⟩,
   ⟨some 1, .mv (.tmp 93), none, [], []⟩])
  (.ghost (.kill [13, 93])))
  (.exit 1)))
 .skip))
 (.seq (.seq (.region false [
 ⟨some 95, .mv (.tmp 0), none, [], []⟩,
 ⟨some 96, .mv (.tmp 1), none, [], []⟩,
 ⟨some 97, .mv (.tmp 2), none, [], []⟩,
 ⟨some 98, .mv (.tmp 11), none, [], []⟩,
 ⟨some 99, .call false i_Xq7 [(.tmp 95), (.tmp 96), (.tmp 97), (.tmp 98)], none, [], []⟩,
 ⟨some 94, .mv (.tmp 99), none, [], []⟩,
 ⟨some 100, .extr (.tmp 94) 0, none, [], []⟩,
 ⟨some 101, .extr (.tmp 94) 1, none, [], []⟩,
 ⟨some 14, .mv (.tmp 100), none, [], []⟩,
 ⟨some 15, .mv (.tmp 101), none, [], []⟩])
 (.ghost (.kill [8, 9, 11, 87, 94, 95, 96, 97, 98, 99, 100, 101])))
 (.seq (.seq (.region false [
 ⟨some 102, .mv (.tmp 15), none, [], []⟩,
 ⟨some 9, .mv (.tmp 102), none, [], []⟩])
 (.ghost (.kill [15, 102])))
 (.seq (.seq (.region false [
 ⟨some 103, .mv (.tmp 14), none, [], []⟩,
 ⟨some 104, .mv (.tmp 1), none, [], []⟩,
 ⟨some 105, .bin .sub (.tmp 103) (.tmp 104), none, [], []⟩,
 ⟨some 106, .mv (.tmp 2), none, [], []⟩,
 ⟨some 107, .mv (.tmp 14), none, [], []⟩,
 ⟨some 108, .bin .sub (.tmp 106) (.tmp 107), none, [], []⟩,
 ⟨some 16, .mv (.tmp 105), none, [], []⟩,
 ⟨some 17, .mv (.tmp 108), none, [], []⟩])
 (.ghost (.kill [103, 104, 105, 106, 107, 108])))
 (.seq (.seq (.region false [
 ⟨some 109, .mv (.tmp 10), none, [], []⟩,
 ⟨some 110, .bin .quo (.tmp 109) (.cst (.int .i64 8)), none, [], []⟩,
 ⟨some 18, .mv (.tmp 110), none, [], []⟩])
 (.ghost (.kill [10, 109, 110])))
 (.seq (.seq (.region false [
 ⟨some 111, .mv (.tmp 16), none, [], []⟩,
 ⟨some 112, .mv (.tmp 17), none, [], []⟩,
 ⟨some 113, .bin .lss (.tmp 111) (.tmp 112), none, [], []⟩])
 (.ghost (.kill [111, 112])))
 (.cond (.tmp 113) (.seq (.seq (.region false [
   ⟨some 114, .mv (.tmp 16), none, [], []⟩,
   ⟨some 115, .mv (.tmp 18), none, [], []⟩,
   ⟨some 116, .bin .geq (.tmp 114) (.tmp 115), none, [], []⟩,
   ⟨some 8, .mv (.tmp 116), none, [], []⟩])
  (.ghost (.kill [16, 17, 18, 113, 114, 115, 116])))
  (.seq (.seq (.region false [
   ⟨some 117, .mv (.tmp 0), none, [], []⟩,
   ⟨some 118, .mv (.tmp 1), none, [], []⟩,
   ⟨some 119, .mv (.tmp 14), none, [], []⟩,
   ⟨some 120, .mv (.tmp 3), none, [], []⟩,
   ⟨some 121, .call false i_Xq11 [(.tmp 117), (.tmp 118), (.tmp 119), (.tmp 120)], none, [], []⟩])
  (.ghost (.kill [1, 117, 118, 119, 120, 121])))
  (.seq (.region false [
   ⟨some 122, .mv (.tmp 14), none, [], []⟩,
   ⟨some 123, .bin .add (.tmp 122) (.cst (.int .i64 1)), none, [], []⟩,
   ⟨some 1, .mv (.tmp 123), none, [], []⟩])
  (.ghost (.kill [14, 122, 123])))))
 (.seq (.seq (.region false [
   ⟨some 124, .mv (.tmp 17), none, [], []⟩,
   ⟨some 125, .mv (.tmp 18), none, [], []⟩,
   ⟨some 126, .bin .geq (.tmp 124) (.tmp 125), none, [], []⟩,
   ⟨some 8, .mv (.tmp 126), none, [], []⟩])
  (.ghost (.kill [16, 17, 18, 113, 124, 125, 126])))
  (.seq (.seq (.region false [
   ⟨some 127, .mv (.tmp 0), none, [], []⟩,
   ⟨some 128, .mv (.tmp 14), none, [], []⟩,
   ⟨some 129, .bin .add (.tmp 128) (.cst (.int .i64 1)), none, [], []⟩,
   ⟨some 130, .mv (.tmp 2), none, [], []⟩,
   ⟨some 131, .mv (.tmp 3), none, [], []⟩,
   ⟨some 132, .call false i_Xq11 [(.tmp 127), (.tmp 129), (.tmp 130), (.tmp 131)], none, [], []⟩])
  (.ghost (.kill [2, 127, 128, 129, 130, 131, 132])))
  (.seq (.region false [
   ⟨some 133, .mv (.tmp 14), none, [], []⟩,
   ⟨some 2, .mv (.tmp 133), none, [], []⟩])
  (.ghost (.kill [14, 133]))))))))))))
def Xq11.c1 : ACode := (.seq (.seq (.seq (.region false [
 ⟨some 61, .mv (.tmp 8), none, [], []⟩,
 ⟨some 62, .mv (.tmp 61), none, [], []⟩,
 ⟨some 63, .mv (.tmp 9), (some ((some 62), true)), [], []⟩,
 ⟨some 64, .pick (.tmp 62) (.tmp 63) (.cst (.bool false)), none, [], []⟩,
 ⟨some 65, .mv (.tmp 64), none, [], []⟩,
 ⟨some 66, .mv (.tmp 12), (some ((some 65), true)), [], []⟩,
 ⟨some 67, .bin .eql (.tmp 66) (.cst (.int .i64 1)), (some ((some 65), true)), [], []⟩,
 ⟨some 68, .pick (.tmp 65) (.tmp 67) (.cst (.bool false)), none, [], []⟩])
 (.ghost (.kill [12, 61, 62, 63, 64, 65, 66, 67])))
 (.seq (.cond (.tmp 68) (.seq (.seq (.region false [
   ⟨some 69, .mv (.tmp 0), none, [], []⟩,
   ⟨some 70, .mv (.tmp 1), none, [], []⟩,
   ⟨some 71, .mv (.tmp 2), none, [], []⟩,
   ⟨some 72, .call false i_Xq0 [(.tmp 69), (.tmp 70), (.tmp 71)], none, [], []⟩])
  (.ghost (.kill [68, 69, 70, 71])))
  (.cond (.tmp 72) .ret
  .skip))
 .skip)
 (.ghost (.kill [68, 72]))))
 Xq11.c0)
def Xq11.c2 : ACode := (.seq (.seq (.region false [
 ⟨some 43, .mv (.tmp 0), none, [], []⟩,
 ⟨some 44, .mv (.tmp 1), none, [], []⟩,
 ⟨some 45, .mv (.tmp 2), none, [], []⟩,
 ⟨some 46, .call false i_Xq6 [(.tmp 43), (.tmp 44), (.tmp 45)], none, [], []⟩,
 ⟨some 42, .mv (.tmp 46), none, [], []⟩,
 ⟨some 47, .extr (.tmp 42) 0, none, [], []⟩,
 ⟨some 48, .extr (.tmp 42) 1, none, [], []⟩,
 ⟨some 11, .mv (.tmp 47), none, [], []⟩,
 ⟨some 12, .mv (.tmp 48), none, [], []⟩])
 (.ghost (.kill [42, 43, 44, 45, 46, 47, 48])))
 (.seq (.seq (.seq (.region false [
 ⟨some 49, .mv (.tmp 12), none, [], []⟩,
 ⟨some 50, .bin .eql (.tmp 49) (.cst (.int .i64 2)), none, [], []⟩])
 (.ghost (.kill [49])))
 (.seq (.cond (.tmp 50) (.seq (.seq (.region false [
   ⟨some 51, .mv (.tmp 0), none, [], []⟩,
   ⟨some 52, .mv (.tmp 1), none, [], []⟩,
   ⟨some 53, .mv (.tmp 2), none, [], []⟩,
   ⟨some 54, .call false i_Xq5 [(.tmp 51), (.tmp 52), (.tmp 53)], none, [], []⟩])
  (.ghost (.kill [12, 50, 51, 52, 53, 54])))
  (.seq (.seq (.region false [
   ⟨some 55, .mv (.tmp 2), none, [], []⟩,
   ⟨some 56, .bin .sub (.tmp 55) (.cst (.int .i64 1)), none, [], []⟩,
   ⟨some 57, .mv (.tmp 11), none, [], []⟩,
   ⟨some 58, .mv (.tmp 1), none, [], []⟩,
   ⟨some 59, .bin .sub (.tmp 57) (.tmp 58), none, [], []⟩,
   ⟨some 60, .bin .sub (.tmp 56) (.tmp 59), none, [], []⟩,
   ⟨some 11, .mv (.tmp 60), none, [], []⟩])
  (.ghost (.kill [55, 56, 57, 58, 59, 60])))
  (.region false [
   ⟨some 12, .mv (.cst (.int .i64 1)), none, [], []⟩])))
 .skip)
 (.ghost (.kill [50]))))
 Xq11.c1))
def Xq11.b0 : ACode := (.block 1 (.seq (.seq (.region false [
 ⟨some 19, .mv (.tmp 2), none, [], []⟩,
 ⟨some 20, .mv (.tmp 1), none, [], []⟩,
 ⟨some 21, .bin .sub (.tmp 19) (.tmp 20), none, [], []⟩,
 ⟨some 10, .mv (.tmp 21), none, [], []⟩])
 (.ghost (.kill [19, 20, 21])))
 (.seq (.seq (.seq (.region false [
 ⟨some 22, .mv (.tmp 10), none, [], []⟩,
 ⟨some 23, .bin .leq (.tmp 22) (.cst (.int .i64 12)), none, [], []⟩])
 (.ghost (.kill [22])))
 (.cond (.tmp 23) (.seq (.region false [
   ⟨some 24, .mv (.tmp 0), none, [], []⟩,
   ⟨some 25, .mv (.tmp 1), none, [], []⟩,
   ⟨some 26, .mv (.tmp 2), none, [], []⟩,
   ⟨some 27, .call false i_Xq4 [(.tmp 24), (.tmp 25), (.tmp 26)], none, [], []⟩])
  .ret)
 .skip))
 (.seq (.seq (.seq (.region false [
 ⟨some 28, .mv (.tmp 3), none, [], []⟩,
 ⟨some 29, .bin .eql (.tmp 28) (.cst (.int .i64 0)), none, [], []⟩])
 (.ghost (.kill [23, 28])))
 (.cond (.tmp 29) (.seq (.region false [
   ⟨some 30, .mv (.tmp 0), none, [], []⟩,
   ⟨some 31, .mv (.tmp 1), none, [], []⟩,
   ⟨some 32, .mv (.tmp 2), none, [], []⟩,
   ⟨some 33, .call false i_Xq9 [(.tmp 30), (.tmp 31), (.tmp 32)], none, [], []⟩])
  .ret)
 .skip))
 (.seq (.seq (.seq (.region false [
 ⟨some 34, .mv (.tmp 8), none, [], []⟩,
 ⟨some 35, .un .not (.tmp 34), none, [], []⟩])
 (.ghost (.kill [29, 34])))
 (.seq (.cond (.tmp 35) (.seq (.seq (.region false [
   ⟨some 36, .mv (.tmp 0), none, [], []⟩,
   ⟨some 37, .mv (.tmp 1), none, [], []⟩,
   ⟨some 38, .mv (.tmp 2), none, [], []⟩,
   ⟨some 39, .call false i_Xq3 [(.tmp 36), (.tmp 37), (.tmp 38)], none, [], []⟩])
  (.ghost (.kill [35, 36, 37, 38, 39])))
  (.seq (.region false [
   ⟨some 40, .mv (.tmp 3), none, [], []⟩,
   ⟨some 41, .bin .sub (.tmp 40) (.cst (.int .i64 1)), none, [], []⟩,
   ⟨some 3, .mv (.tmp 41), none, [], []⟩])
  (.ghost (.kill [40, 41]))))
 .skip)
 (.ghost (.kill [35]))))
 Xq11.c2)))))
def Xq11.main : ACode := (.seq (.region false [
 ⟨some 8, .mv (.cst (.bool true)), none, [], []⟩])
 (.seq (.region false [
 ⟨some 9, .mv (.cst (.bool true)), none, [], []⟩])
 (.block 0 (.loop Xq11.b0))))
def Xq11.k0 : List Item := [.inBlock 0]
def Xq11 : AFunc := ⟨134, [], Xq11.main, false⟩
def Xq63.main : ACode := (.seq (.seq (.region false [
 ⟨some 2, .mv (.cst (.int .i64 0)), none, [], []⟩])
 (.ghost (.kill [2])))
 (.seq (.cond (.cst (.bool false)) (.seq (.region false [
   ⟨some 3, .mv (.tmp 0), none, [], []⟩,
   ⟨some 4, .conv .u32 (.tmp 3), none, [], []⟩,
   ⟨some 5, .call true i_Xq53 [(.tmp 4)], none, [], []⟩,
   ⟨some 2, .mv (.tmp 5), none, [], []⟩])
  .ret)
 .skip)
 (.seq (.region false [
 ⟨some 6, .mv (.tmp 0), none, [], []⟩,
 ⟨some 7, .call true i_Xq51 [(.tmp 6)], none, [], []⟩,
 ⟨some 2, .mv (.tmp 7), none, [], []⟩])
 .ret)))
def Xq63 : AFunc := ⟨8, [.tmp 2], Xq63.main, false⟩
def Xq15.c0 : ACode := (.seq (.region false [
 ⟨some 4, .mv (.cst (.int .i64 (-1))), none, [], []⟩])
 .ret)
def Xq15.c1 : ACode := (.ghost (.kill [0, 1, 7, 8, 9]))
def Xq15.b0 : ACode := (.seq (.region false [
 ⟨some 9, .bin .lss (.tmp 8) (.tmp 7), none, [], []⟩])
 (.seq (.cond (.tmp 9) .skip
 (.exit 0))
 (.seq (.seq (.block 1 (.seq (.seq (.region false [
 ⟨some 10, .mv (.tmp 8), none, [], []⟩,
 ⟨some 5, .mv (.tmp 10), none, [], []⟩])
 (.ghost (.kill [9, 10])))
 (.seq (.seq (.region false [
 ⟨some 11, .mv (.tmp 1), none, [], []⟩,
 ⟨some 12, .mv (.tmp 0), none, [], []⟩,
 ⟨some 13, .mv (.tmp 5), none, [], []⟩,
 ⟨some 14, .iaddr 1 (.tmp 12) (.tmp 13), none, [], []⟩,
 ⟨some 15, .load false 1 (.tmp 14), none, [], []⟩,
 ⟨some 16, .callv true (.tmp 11) [(.tmp 15)], none, [], []⟩])
 (.ghost (.kill [11, 12, 13, 14, 15])))
 (.cond (.tmp 16) (.seq (.region false [
   ⟨some 17, .mv (.tmp 5), none, [], []⟩,
   ⟨some 4, .mv (.tmp 17), none, [], []⟩])
  .ret)
 .skip))))
 (.ghost (.kill [5, 16])))
 (.seq (.region false [
 ⟨some 18, .bin .add (.tmp 8) (.cst (.int .i64 1)), none, [], []⟩,
 ⟨some 8, .mv (.tmp 18), none, [], []⟩])
 (.ghost (.kill [18]))))))
def Xq15.main : ACode := (.seq (.seq (.region false [
 ⟨some 4, .mv (.cst (.int .i64 0)), none, [], []⟩])
 (.ghost (.kill [4])))
 (.seq (.seq (.seq (.region false [
 ⟨some 6, .mv (.tmp 0), none, [], []⟩,
 ⟨some 7, .len .sl (.tmp 6), none, [], []⟩,
 ⟨some 8, .mv (.cst (.int .i64 0)), none, [], []⟩])
 (.ghost (.kill [6])))
 (.seq (.block 0 (.loop Xq15.b0))
 Xq15.c1))
 Xq15.c0))
def Xq15.k0 : List Item := [.inBlock 0, .code Xq15.c1, .code Xq15.c0]
def Xq15 : AFunc := ⟨19, [.tmp 4], Xq15.main, false⟩
def Xq14.b0 : ACode := (.seq (.seq (.seq (.region false [
 ⟨some 7, .mv (.tmp 3), none, [], []⟩,
 ⟨some 8, .bin .geq (.tmp 7) (.cst (.int .i64 0)), none, [], []⟩])
 (.ghost (.kill [7])))
 (.cond (.tmp 8) .skip
 (.exit 0)))
 (.seq (.seq (.block 1 (.seq (.seq (.region false [
 ⟨some 11, .mv (.tmp 0), none, [], []⟩,
 ⟨some 12, .mv (.tmp 3), none, [], []⟩,
 ⟨some 13, .load false 1 (.tmp 1), none, [], []⟩,
 ⟨some 14, .mv (.tmp 3), none, [], []⟩,
 ⟨some 15, .iaddr 2 (.tmp 13) (.tmp 14), none, [], []⟩,
 ⟨some 16, .load true 2 (.tmp 15), none, [], []⟩,
 ⟨some 17, .callv false (.tmp 11) [(.tmp 12), (.tmp 16)], none, [], []⟩,
 ⟨some 18, .un .not (.tmp 17), none, [], []⟩])
 (.ghost (.kill [8, 11, 12, 13, 14, 15, 16, 17])))
 (.cond (.tmp 18) .ret
 .skip)))
 (.ghost (.kill [18])))
 (.seq (.region false [
 ⟨some 9, .mv (.tmp 3), none, [], []⟩,
 ⟨some 10, .bin .sub (.tmp 9) (.cst (.int .i64 1)), none, [], []⟩,
 ⟨some 3, .mv (.tmp 10), none, [], []⟩])
 (.ghost (.kill [9, 10])))))
def Xq14.main : ACode := (.seq (.seq (.region false [
 ⟨some 4, .load false 1 (.tmp 1), none, [], []⟩,
 ⟨some 5, .len .sl (.tmp 4), none, [], []⟩,
 ⟨some 6, .bin .sub (.tmp 5) (.cst (.int .i64 1)), none, [], []⟩,
 ⟨some 3, .mv (.tmp 6), none, [], []⟩])
 (.ghost (.kill [4, 5, 6])))
 (.seq (.block 0 (.loop Xq14.b0))
 (.ghost (.kill [0, 3, 8]))))
def Xq14.k0 : List Item := [.inBlock 0, .code (.ghost (.kill [0, 3, 8]))]
def Xq14 : AFunc := ⟨19, [], Xq14.main, false⟩
def Xq4.c0 : ACode := (.ghost (.kill [0, 1, 2, 6, 12]))
def Xq4.c1 : ACode := (.seq (.region false [
 ⟨some 13, .mv (.tmp 6), none, [], []⟩,
 ⟨some 14, .bin .add (.tmp 13) (.cst (.int .i64 1)), none, [], []⟩,
 ⟨some 6, .mv (.tmp 14), none, [], []⟩])
 (.ghost (.kill [13, 14])))
def Xq4.b1 : ACode := (.seq (.seq (.seq (.region true [
 ⟨some 16, .mv (.tmp 7), none, [], [7]⟩,
 ⟨some 17, .mv (.tmp 1), none, [], [1]⟩,
 ⟨some 18, .bin .gtr (.tmp 16) (.tmp 17), none, [0, 1], [16, 17]⟩,
 ⟨some 19, .mv (.tmp 18), none, [2], [18]⟩,
 ⟨some 20, .mv (.tmp 0), (some ((some 19), true)), [3], [0]⟩,
 ⟨some 21, .mv (.tmp 7), (some ((some 19), true)), [3], [7]⟩,
 ⟨some 22, .iaddr 1 (.tmp 20) (.tmp 21), (some ((some 19), true)), [4, 5, 3], [20, 21]⟩,
 ⟨some 23, .load false 1 (.tmp 22), (some ((some 19), true)), [6, 3], [22]⟩,
 ⟨some 24, .mv (.tmp 0), (some ((some 19), true)), [3], [0]⟩,
 ⟨some 25, .mv (.tmp 7), (some ((some 19), true)), [3], [7]⟩,
 ⟨some 26, .bin .sub (.tmp 25) (.cst (.int .i64 1)), (some ((some 19), true)), [9, 3], [25]⟩,
 ⟨some 27, .iaddr 1 (.tmp 24) (.tmp 26), (some ((some 19), true)), [8, 10, 3], [24, 26]⟩,
 ⟨some 28, .load false 1 (.tmp 27), (some ((some 19), true)), [11, 3], [27]⟩,
 ⟨some 29, .call true i_Xq40 [(.tmp 23), (.tmp 28)], (some ((some 19), true)), [7, 12, 3, 3], [23, 28]⟩,
 ⟨some 30, .pick (.tmp 19) (.tmp 29) (.cst (.bool false)), none, [3, 13], [19, 29]⟩])
 (.ghost (.kill [16, 17, 18, 19, 20, 21, 22, 23, 24, 25, 26, 27, 28, 29])))
 (.cond (.tmp 30) .skip
 (.exit 2)))
 (.seq (.block 3 (.seq (.region true [
 ⟨some 33, .mv (.tmp 0), none, [], [0]⟩,
 ⟨some 34, .mv (.tmp 7), none, [], [7]⟩,
 ⟨some 35, .mv (.tmp 0), none, [], [0]⟩,
 ⟨some 36, .mv (.tmp 7), none, [], [7]⟩,
 ⟨some 37, .bin .sub (.tmp 36) (.cst (.int .i64 1)), none, [3], [36]⟩,
 ⟨some 38, .mv (.tmp 0), none, [], [0]⟩,
 ⟨some 39, .mv (.tmp 7), none, [], [7]⟩,
 ⟨some 40, .bin .sub (.tmp 39) (.cst (.int .i64 1)), none, [6], [39]⟩,
 ⟨some 41, .iaddr 1 (.tmp 38) (.tmp 40), none, [5, 7], [38, 40]⟩,
 ⟨some 42, .load false 1 (.tmp 41), none, [8], [41]⟩,
 ⟨some 43, .mv (.tmp 0), none, [], [0]⟩,
 ⟨some 44, .mv (.tmp 7), none, [], [7]⟩,
 ⟨some 45, .iaddr 1 (.tmp 43) (.tmp 44), none, [10, 11], [43, 44]⟩,
 ⟨some 46, .load false 1 (.tmp 45), none, [12], [45]⟩,
 ⟨some 47, .iaddr 1 (.tmp 33) (.tmp 34), none, [0, 1, 0, 1, 5, 6, 7, 8, 9, 13], [33, 34]⟩,
 ⟨none, .store 1 (.tmp 47) (.tmp 42), none, [14, 9, 0, 1, 5, 6, 7, 8, 9, 13], [47, 42]⟩,
 ⟨some 48, .iaddr 1 (.tmp 35) (.tmp 37), none, [2, 4, 0, 1, 2, 3, 4, 5, 6, 7, 8, 9, 10, 11, 12, 13, 14, 15], [35, 37]⟩,
 ⟨none, .store 1 (.tmp 48) (.tmp 46), none, [16, 13, 15, 0, 1, 2, 3, 4, 5, 6, 7, 8, 9, 10, 11, 12, 13, 14, 15], [48, 46]⟩])
 (.ghost (.kill [30, 33, 34, 35, 36, 37, 38, 39, 40, 41, 42, 43, 44, 45, 46, 47, 48]))))
 (.seq (.region false [
 ⟨some 31, .mv (.tmp 7), none, [], []⟩,
 ⟨some 32, .bin .sub (.tmp 31) (.cst (.int .i64 1)), none, [], []⟩,
 ⟨some 7, .mv (.tmp 32), none, [], []⟩])
 (.ghost (.kill [31, 32])))))
def Xq4.b0 : ACode := (.seq (.seq (.seq (.region false [
 ⟨some 10, .mv (.tmp 6), none, [], []⟩,
 ⟨some 11, .mv (.tmp 2), none, [], []⟩,
 ⟨some 12, .bin .lss (.tmp 10) (.tmp 11), none, [], []⟩])
 (.ghost (.kill [10, 11])))
 (.cond (.tmp 12) .skip
 (.exit 0)))
 (.seq (.block 1 (.seq (.seq (.region false [
 ⟨some 15, .mv (.tmp 6), none, [], []⟩,
 ⟨some 7, .mv (.tmp 15), none, [], []⟩])
 (.ghost (.kill [12, 15])))
 (.seq (.block 2 (.loop Xq4.b1))
 (.ghost (.kill [7, 30])))))
 Xq4.c1))
def Xq4.main : ACode := (.seq (.seq (.region false [
 ⟨some 8, .mv (.tmp 1), none, [], []⟩,
 ⟨some 9, .bin .add (.tmp 8) (.cst (.int .i64 1)), none, [], []⟩,
 ⟨some 6, .mv (.tmp 9), none, [], []⟩])
 (.ghost (.kill [8, 9])))
 (.seq (.block 0 (.loop Xq4.b0))
 Xq4.c0))
def Xq4.k1 : List Item := [.inBlock 2, .code (.ghost (.kill [7, 30])), .inBlock 1, .code Xq4.c1, .inLoop Xq4.b0, .inBlock 0, .code Xq4.c0]
def Xq4.k0 : List Item := [.inBlock 0, .code Xq4.c0]
def Xq4 : AFunc := ⟨49, [], Xq4.main, false⟩
def Xq9.c0 : ACode := (.ghost (.kill [0, 6, 7, 10, 30]))
def Xq9.b1 : ACode := (.seq (.seq (.seq (.region false [
 ⟨some 29, .mv (.tmp 10), none, [], []⟩,
 ⟨some 30, .bin .geq (.tmp 29) (.cst (.int .i64 0)), none, [], []⟩])
 (.ghost (.kill [29])))
 (.cond (.tmp 30) .skip
 (.exit 2)))
 (.seq (.block 3 (.seq (.seq (.region true [
 ⟨some 33, .mv (.tmp 0), none, [], [0]⟩,
 ⟨some 34, .mv (.tmp 6), none, [], [6]⟩,
 ⟨some 35, .mv (.tmp 0), none, [], [0]⟩,
 ⟨some 36, .mv (.tmp 6), none, [], [6]⟩,
 ⟨some 37, .mv (.tmp 10), none, [], [10]⟩,
 ⟨some 38, .bin .add (.tmp 36) (.tmp 37), none, [3, 4], [36, 37]⟩,
 ⟨some 39, .mv (.tmp 0), none, [], [0]⟩,
 ⟨some 40, .mv (.tmp 6), none, [], [6]⟩,
 ⟨some 41, .mv (.tmp 10), none, [], [10]⟩,
 ⟨some 42, .bin .add (.tmp 40) (.tmp 41), none, [7, 8], [40, 41]⟩,
 ⟨some 43, .iaddr 1 (.tmp 39) (.tmp 42), none, [6, 9], [39, 42]⟩,
 ⟨some 44, .load false 1 (.tmp 43), none, [10], [43]⟩,
 ⟨some 45, .mv (.tmp 0), none, [], [0]⟩,
 ⟨some 46, .mv (.tmp 6), none, [], [6]⟩,
 ⟨some 47, .iaddr 1 (.tmp 45) (.tmp 46), none, [12, 13], [45, 46]⟩,
 ⟨some 48, .load false 1 (.tmp 47), none, [14], [47]⟩,
 ⟨some 49, .iaddr 1 (.tmp 33) (.tmp 34), none, [0, 1, 0, 1, 6, 7, 8, 9, 10, 11, 15], [33, 34]⟩,
 ⟨none, .store 1 (.tmp 49) (.tmp 44), none, [16, 11, 0, 1, 6, 7, 8, 9, 10, 11, 15], [49, 44]⟩,
 ⟨some 50, .iaddr 1 (.tmp 35) (.tmp 38), none, [2, 5, 0, 1, 2, 3, 4, 5, 6, 7, 8, 9, 10, 11, 12, 13, 14, 15, 16, 17], [35, 38]⟩,
 ⟨none, .store 1 (.tmp 50) (.tmp 48), none, [18, 15, 17, 0, 1, 2, 3, 4, 5, 6, 7, 8, 9, 10, 11, 12, 13, 14, 15, 16, 17], [50, 48]⟩])
 (.ghost (.kill [30, 33, 34, 35, 36, 37, 38, 39, 40, 41, 42, 43, 44, 45, 46, 47, 48, 49, 50])))
 (.seq (.region false [
 ⟨some 51, .mv (.tmp 0), none, [], []⟩,
 ⟨some 52, .mv (.tmp 7), none, [], []⟩,
 ⟨some 53, .mv (.tmp 10), none, [], []⟩,
 ⟨some 54, .mv (.tmp 6), none, [], []⟩,
 ⟨some 55, .call false i_Xq8 [(.tmp 51), (.tmp 52), (.tmp 53), (.tmp 54)], none, [], []⟩])
 (.ghost (.kill [51, 52, 53, 54, 55])))))
 (.seq (.region false [
 ⟨some 31, .mv (.tmp 10), none, [], []⟩,
 ⟨some 32, .bin .sub (.tmp 31) (.cst (.int .i64 1)), none, [], []⟩,
 ⟨some 10, .mv (.tmp 32), none, [], []⟩])
 (.ghost (.kill [31, 32])))))
def Xq9.c1 : ACode := (.seq (.seq (.region false [
 ⟨some 27, .mv (.tmp 8), none, [], []⟩,
 ⟨some 28, .bin .sub (.tmp 27) (.cst (.int .i64 1)), none, [], []⟩,
 ⟨some 10, .mv (.tmp 28), none, [], []⟩])
 (.ghost (.kill [8, 27, 28])))
 (.seq (.block 2 (.loop Xq9.b1))
 Xq9.c0))
def Xq9.b0 : ACode := (.seq (.seq (.seq (.region false [
 ⟨some 18, .mv (.tmp 9), none, [], []⟩,
 ⟨some 19, .bin .geq (.tmp 18) (.cst (.int .i64 0)), none, [], []⟩])
 (.ghost (.kill [18])))
 (.cond (.tmp 19) .skip
 (.exit 0)))
 (.seq (.block 1 (.seq (.region false [
 ⟨some 22, .mv (.tmp 0), none, [], []⟩,
 ⟨some 23, .mv (.tmp 9), none, [], []⟩,
 ⟨some 24, .mv (.tmp 8), none, [], []⟩,
 ⟨some 25, .mv (.tmp 6), none, [], []⟩,
 ⟨some 26, .call false i_Xq8 [(.tmp 22), (.tmp 23), (.tmp 24), (.tmp 25)], none, [], []⟩])
 (.ghost (.kill [19, 22, 23, 24, 25, 26]))))
 (.seq (.region false [
 ⟨some 20, .mv (.tmp 9), none, [], []⟩,
 ⟨some 21, .bin .sub (.tmp 20) (.cst (.int .i64 1)), none, [], []⟩,
 ⟨some 9, .mv (.tmp 21), none, [], []⟩])
 (.ghost (.kill [20, 21])))))
def Xq9.main : ACode := (.seq (.seq (.region false [
 ⟨some 11, .mv (.tmp 1), none, [], []⟩,
 ⟨some 6, .mv (.tmp 11), none, [], []⟩])
 (.ghost (.kill [11])))
 (.seq (.region false [
 ⟨some 7, .mv (.cst (.int .i64 0)), none, [], []⟩])
 (.seq (.seq (.region false [
 ⟨some 12, .mv (.tmp 2), none, [], []⟩,
 ⟨some 13, .mv (.tmp 1), none, [], []⟩,
 ⟨some 14, .bin .sub (.tmp 12) (.tmp 13), none, [], []⟩,
 ⟨some 8, .mv (.tmp 14), none, [], []⟩])
 (.ghost (.kill [1, 2, 12, 13, 14])))
 (.seq (.seq (.seq (.region false [
 ⟨some 15, .mv (.tmp 8), none, [], []⟩,
 ⟨some 16, .bin .sub (.tmp 15) (.cst (.int .i64 1)), none, [], []⟩,
 ⟨some 17, .bin .quo (.tmp 16) (.cst (.int .i64 2)), none, [], []⟩,
 ⟨some 9, .mv (.tmp 17), none, [], []⟩])
 (.ghost (.kill [15, 16, 17])))
 (.seq (.block 0 (.loop Xq9.b0))
 (.ghost (.kill [9, 19]))))
 Xq9.c1))))
def Xq9.k1 : List Item := [.inBlock 2, .code Xq9.c0]
def Xq9.k0 : List Item := [.inBlock 0, .code (.ghost (.kill [9, 19])), .code Xq9.c1]
def Xq9 : AFunc := ⟨56, [], Xq9.main, false⟩
def Xq3.c0 : ACode := (.ghost (.kill [0, 1, 6, 15]))
def Xq3.c1 : ACode := (.ghost (.kill [0, 1, 6, 7, 8, 9, 33]))
def Xq3.c2 : ACode := (.seq (.region false [
 ⟨some 34, .mv (.tmp 9), none, [], []⟩,
 ⟨some 35, .bin .add (.tmp 34) (.cst (.int .i64 1)), none, [], []⟩,
 ⟨some 9, .mv (.tmp 35), none, [], []⟩])
 (.ghost (.kill [34, 35])))
def Xq3.c3 : ACode := (.seq (.region true [
 ⟨some 47, .mv (.tmp 0), none, [], [0]⟩,
 ⟨some 48, .mv (.tmp 9), none, [], [9]⟩,
 ⟨some 49, .mv (.tmp 0), none, [], [0]⟩,
 ⟨some 50, .mv (.tmp 1), none, [], [1]⟩,
 ⟨some 51, .mv (.tmp 10), none, [], [10]⟩,
 ⟨some 52, .bin .add (.tmp 50) (.tmp 51), none, [3, 4], [50, 51]⟩,
 ⟨some 53, .mv (.tmp 0), none, [], [0]⟩,
 ⟨some 54, .mv (.tmp 1), none, [], [1]⟩,
 ⟨some 55, .mv (.tmp 10), none, [], [10]⟩,
 ⟨some 56, .bin .add (.tmp 54) (.tmp 55), none, [7, 8], [54, 55]⟩,
 ⟨some 57, .iaddr 1 (.tmp 53) (.tmp 56), none, [6, 9], [53, 56]⟩,
 ⟨some 58, .load false 1 (.tmp 57), none, [10], [57]⟩,
 ⟨some 59, .mv (.tmp 0), none, [], [0]⟩,
 ⟨some 60, .mv (.tmp 9), none, [], [9]⟩,
 ⟨some 61, .iaddr 1 (.tmp 59) (.tmp 60), none, [12, 13], [59, 60]⟩,
 ⟨some 62, .load false 1 (.tmp 61), none, [14], [61]⟩,
 ⟨some 63, .iaddr 1 (.tmp 47) (.tmp 48), none, [0, 1, 0, 1, 6, 7, 8, 9, 10, 11, 15], [47, 48]⟩,
 ⟨none, .store 1 (.tmp 63) (.tmp 58), none, [16, 11, 0, 1, 6, 7, 8, 9, 10, 11, 15], [63, 58]⟩,
 ⟨some 64, .iaddr 1 (.tmp 49) (.tmp 52), none, [2, 5, 0, 1, 2, 3, 4, 5, 6, 7, 8, 9, 10, 11, 12, 13, 14, 15, 16, 17], [49, 52]⟩,
 ⟨none, .store 1 (.tmp 64) (.tmp 62), none, [18, 15, 17, 0, 1, 2, 3, 4, 5, 6, 7, 8, 9, 10, 11, 12, 13, 14, 15, 16, 17], [64, 62]⟩])
 (.ghost (.kill [10, 47, 48, 49, 50, 51, 52, 53, 54, 55, 56, 57, 58, 59, 60, 61, 62, 63, 64])))
def Xq3.b0 : ACode := (.seq (.seq (.seq (.region false [
 ⟨some 26, .mv (.tmp 9), none, [], []⟩,
 ⟨some 27, .mv (.tmp 1), none, [], []⟩,
 ⟨some 28, .mv (.tmp 6), none, [], []⟩,
 ⟨some 29, .bin .quo (.tmp 28) (.cst (.int .i64 4)), none, [], []⟩,
 ⟨some 30, .bin .mul (.tmp 29) (.cst (.int .i64 2)), none, [], []⟩,
 ⟨some 31, .bin .add (.tmp 27) (.tmp 30), none, [], []⟩,
 ⟨some 32, .bin .add (.tmp 31) (.cst (.int .i64 1)), none, [], []⟩,
 ⟨some 33, .bin .leq (.tmp 26) (.tmp 32), none, [], []⟩])
 (.ghost (.kill [26, 27, 28, 29, 30, 31, 32])))
 (.cond (.tmp 33) .skip
 (.exit 0)))
 (.seq (.block 1 (.seq (.seq (.region false [
 ⟨some 36, .call false i_Xq21 [(.tmp 7)], none, [], []⟩,
 ⟨some 37, .mv (.tmp 8), none, [], []⟩,
 ⟨some 38, .bin .sub (.tmp 37) (.cst (.int .u64 1)), none, [], []⟩,
 ⟨some 39, .bin .and (.tmp 36) (.tmp 38), none, [], []⟩,
 ⟨some 40, .conv .i64 (.tmp 39), none, [], []⟩,
 ⟨some 10, .mv (.tmp 40), none, [], []⟩])
 (.ghost (.kill [33, 36, 37, 38, 39, 40])))
 (.seq (.seq (.seq (.region false [
 ⟨some 41, .mv (.tmp 10), none, [], []⟩,
 ⟨some 42, .mv (.tmp 6), none, [], []⟩,
 ⟨some 43, .bin .geq (.tmp 41) (.tmp 42), none, [], []⟩])
 (.ghost (.kill [41, 42])))
 (.seq (.cond (.tmp 43) (.seq (.region false [
   ⟨some 44, .mv (.tmp 10), none, [], []⟩,
   ⟨some 45, .mv (.tmp 6), none, [], []⟩,
   ⟨some 46, .bin .sub (.tmp 44) (.tmp 45), none, [], []⟩,
   ⟨some 10, .mv (.tmp 46), none, [], []⟩])
  (.ghost (.kill [43, 44, 45, 46])))
 .skip)
 (.ghost (.kill [43]))))
 Xq3.c3)))
 Xq3.c2))
def Xq3.main : ACode := (.seq (.seq (.region false [
 ⟨some 11, .mv (.tmp 2), none, [], []⟩,
 ⟨some 12, .mv (.tmp 1), none, [], []⟩,
 ⟨some 13, .bin .sub (.tmp 11) (.tmp 12), none, [], []⟩,
 ⟨some 6, .mv (.tmp 13), none, [], []⟩])
 (.ghost (.kill [2, 11, 12, 13])))
 (.seq (.seq (.region false [
 ⟨some 14, .mv (.tmp 6), none, [], []⟩,
 ⟨some 15, .bin .geq (.tmp 14) (.cst (.int .i64 8)), none, [], []⟩])
 (.ghost (.kill [14])))
 (.seq (.cond (.tmp 15) (.seq (.seq (.region false [
   ⟨some 16, .mv (.tmp 6), none, [], []⟩,
   ⟨some 17, .conv .u64 (.tmp 16), none, [], []⟩,
   ⟨some 7, .alloc [(.int .u64 0)], none, [], []⟩,
   ⟨none, .store 1 (.tmp 7) (.tmp 17), none, [], []⟩])
  (.ghost (.kill [15, 16, 17])))
  (.seq (.seq (.region false [
   ⟨some 18, .mv (.tmp 6), none, [], []⟩,
   ⟨some 19, .call true i_Xq17 [(.tmp 18)], none, [], []⟩,
   ⟨some 8, .mv (.tmp 19), none, [], []⟩])
  (.ghost (.kill [18, 19])))
  (.seq (.seq (.region false [
   ⟨some 20, .mv (.tmp 1), none, [], []⟩,
   ⟨some 21, .mv (.tmp 6), none, [], []⟩,
   ⟨some 22, .bin .quo (.tmp 21) (.cst (.int .i64 4)), none, [], []⟩,
   ⟨some 23, .bin .mul (.tmp 22) (.cst (.int .i64 2)), none, [], []⟩,
   ⟨some 24, .bin .add (.tmp 20) (.tmp 23), none, [], []⟩,
   ⟨some 25, .bin .sub (.tmp 24) (.cst (.int .i64 1)), none, [], []⟩,
   ⟨some 9, .mv (.tmp 25), none, [], []⟩])
  (.ghost (.kill [20, 21, 22, 23, 24, 25])))
  (.seq (.block 0 (.loop Xq3.b0))
  Xq3.c1))))
 .skip)
 Xq3.c0)))
def Xq3.k0 : List Item := [.inBlock 0, .code Xq3.c1, .code Xq3.c0]
def Xq3 : AFunc := ⟨65, [], Xq3.main, false⟩
def Xq6.c0 : ACode := (.seq (.seq (.region false [
 ⟨some 49, .load false 1 (.tmp 9), none, [], []⟩])
 (.ghost (.kill [9])))
 (.block 0 (.seq (.seq (.region false [
 ⟨some 52, .bin .eql (.tmp 49) (.cst (.int .i64 0)), none, [], []⟩,
 ⟨some 51, .mv (.tmp 52), none, [], []⟩])
 (.ghost (.kill [52])))
 (.cond (.tmp 51) (.seq (.region false [
   ⟨some 53, .mv (.tmp 11), none, [], []⟩,
   ⟨some 6, .mv (.tmp 53), none, [], []⟩,
   ⟨some 7, .mv (.cst (.int .i64 1)), none, [], []⟩])
  .ret)
 (.seq (.seq (.region false [
   ⟨some 55, .bin .eql (.tmp 49) (.cst (.int .i64 12)), none, [], []⟩,
   ⟨some 54, .mv (.tmp 55), none, [], []⟩])
  (.ghost (.kill [49, 51, 55])))
  (.cond (.tmp 54) (.seq (.region false [
    ⟨some 56, .mv (.tmp 11), none, [], []⟩,
    ⟨some 6, .mv (.tmp 56), none, [], []⟩,
    ⟨some 7, .mv (.cst (.int .i64 2)), none, [], []⟩])
   .ret)
  (.seq (.region false [
    ⟨some 50, .mv (.tmp 11), none, [], []⟩,
    ⟨some 6, .mv (.tmp 50), none, [], []⟩,
    ⟨some 7, .mv (.cst (.int .i64 0)), none, [], []⟩])
   .ret)))))))
def Xq6.c1 : ACode := (.ghost (.kill [0, 8, 10, 12, 32]))
def Xq6.c2 : ACode := (.seq (.region false [
 ⟨some 44, .mv (.tmp 0), none, [], []⟩,
 ⟨some 45, .mv (.tmp 10), none, [], []⟩,
 ⟨some 46, .mv (.tmp 11), none, [], []⟩,
 ⟨some 47, .mv (.tmp 12), none, [], []⟩,
 ⟨some 48, .call false i_Xq13 [(.tmp 44), (.tmp 45), (.tmp 46), (.tmp 47), (.tmp 9)], none, [], []⟩,
 ⟨some 11, .mv (.tmp 48), none, [], []⟩])
 (.ghost (.kill [0, 10, 12, 44, 45, 46, 47, 48])))
def Xq6.main : ACode := (.seq (.seq (.region false [
 ⟨some 6, .mv (.cst (.int .i64 0)), none, [], []⟩,
 ⟨some 7, .mv (.cst (.int .i64 0)), none, [], []⟩])
 (.ghost (.kill [6, 7])))
 (.seq (.seq (.region false [
 ⟨some 13, .mv (.tmp 2), none, [], []⟩,
 ⟨some 14, .mv (.tmp 1), none, [], []⟩,
 ⟨some 15, .bin .sub (.tmp 13) (.tmp 14), none, [], []⟩,
 ⟨some 8, .mv (.tmp 15), none, [], []⟩])
 (.ghost (.kill [2, 13, 14, 15])))
 (.seq (.region false [
 ⟨some 9, .alloc [(.int .i64 0)], none, [], []⟩])
 (.seq (.seq (.region false [
 ⟨some 16, .mv (.tmp 1), none, [], []⟩,
 ⟨some 17, .mv (.tmp 8), none, [], []⟩,
 ⟨some 18, .bin .quo (.tmp 17) (.cst (.int .i64 4)), none, [], []⟩,
 ⟨some 19, .bin .mul (.tmp 18) (.cst (.int .i64 1)), none, [], []⟩,
 ⟨some 20, .bin .add (.tmp 16) (.tmp 19), none, [], []⟩,
 ⟨some 10, .mv (.tmp 20), none, [], []⟩])
 (.ghost (.kill [16, 17, 18, 19, 20])))
 (.seq (.seq (.region false [
 ⟨some 21, .mv (.tmp 1), none, [], []⟩,
 ⟨some 22, .mv (.tmp 8), none, [], []⟩,
 ⟨some 23, .bin .quo (.tmp 22) (.cst (.int .i64 4)), none, [], []⟩,
 ⟨some 24, .bin .mul (.tmp 23) (.cst (.int .i64 2)), none, [], []⟩,
 ⟨some 25, .bin .add (.tmp 21) (.tmp 24), none, [], []⟩,
 ⟨some 11, .mv (.tmp 25), none, [], []⟩])
 (.ghost (.kill [21, 22, 23, 24, 25])))
 (.seq (.seq (.region false [
 ⟨some 26, .mv (.tmp 1), none, [], []⟩,
 ⟨some 27, .mv (.tmp 8), none, [], []⟩,
 ⟨some 28, .bin .quo (.tmp 27) (.cst (.int .i64 4)), none, [], []⟩,
 ⟨some 29, .bin .mul (.tmp 28) (.cst (.int .i64 3)), none, [], []⟩,
 ⟨some 30, .bin .add (.tmp 26) (.tmp 29), none, [], []⟩,
 ⟨some 12, .mv (.tmp 30), none, [], []⟩])
 (.ghost (.kill [1, 26, 27, 28, 29, 30])))
 (.seq (.seq (.seq (.region false [
 ⟨some 31, .mv (.tmp 8), none, [], []⟩,
 ⟨some 32, .bin .geq (.tmp 31) (.cst (.int .i64 8)), none, [], []⟩])
 (.ghost (.kill [31])))
 (.seq (.cond (.tmp 32) (.seq (.seq (.seq (.region false [
   ⟨some 33, .mv (.tmp 8), none, [], []⟩,
   ⟨some 34, .bin .geq (.tmp 33) (.cst (.int .i64 50)), none, [], []⟩])
  (.ghost (.kill [8, 32, 33])))
  (.seq (.cond (.tmp 34) (.seq (.seq (.region false [
    ⟨some 35, .mv (.tmp 0), none, [], []⟩,
    ⟨some 36, .mv (.tmp 10), none, [], []⟩,
    ⟨some 37, .call false i_Xq1 [(.tmp 35), (.tmp 36), (.tmp 9)], none, [], []⟩,
    ⟨some 10, .mv (.tmp 37), none, [], []⟩])
   (.ghost (.kill [34, 35, 36, 37])))
   (.seq (.seq (.region false [
    ⟨some 38, .mv (.tmp 0), none, [], []⟩,
    ⟨some 39, .mv (.tmp 11), none, [], []⟩,
    ⟨some 40, .call false i_Xq1 [(.tmp 38), (.tmp 39), (.tmp 9)], none, [], []⟩,
    ⟨some 11, .mv (.tmp 40), none, [], []⟩])
   (.ghost (.kill [38, 39, 40])))
   (.seq (.region false [
    ⟨some 41, .mv (.tmp 0), none, [], []⟩,
    ⟨some 42, .mv (.tmp 12), none, [], []⟩,
    ⟨some 43, .call false i_Xq1 [(.tmp 41), (.tmp 42), (.tmp 9)], none, [], []⟩,
    ⟨some 12, .mv (.tmp 43), none, [], []⟩])
   (.ghost (.kill [41, 42, 43])))))
  .skip)
  (.ghost (.kill [34]))))
  Xq6.c2)
 .skip)
 Xq6.c1))
 Xq6.c0)))))))
def Xq6 : AFunc := ⟨57, [.tmp 6, .tmp 7], Xq6.main, false⟩
def Xq5.c0 : ACode := (.ghost (.kill [0, 6, 7, 13]))
def Xq5.b0 : ACode := (.seq (.seq (.seq (.region false [
 ⟨some 11, .mv (.tmp 6), none, [], []⟩,
 ⟨some 12, .mv (.tmp 7), none, [], []⟩,
 ⟨some 13, .bin .lss (.tmp 11) (.tmp 12), none, [], []⟩])
 (.ghost (.kill [11, 12])))
 (.cond (.tmp 13) .skip
 (.exit 0)))
 (.block 1 (.seq (.seq (.region true [
 ⟨some 14, .mv (.tmp 0), none, [], [0]⟩,
 ⟨some 15, .mv (.tmp 6), none, [], [6]⟩,
 ⟨some 16, .mv (.tmp 0), none, [], [0]⟩,
 ⟨some 17, .mv (.tmp 7), none, [], [7]⟩,
 ⟨some 18, .mv (.tmp 0), none, [], [0]⟩,
 ⟨some 19, .mv (.tmp 7), none, [], [7]⟩,
 ⟨some 20, .iaddr 1 (.tmp 18) (.tmp 19), none, [4, 5], [18, 19]⟩,
 ⟨some 21, .load false 1 (.tmp 20), none, [6], [20]⟩,
 ⟨some 22, .mv (.tmp 0), none, [], [0]⟩,
 ⟨some 23, .mv (.tmp 6), none, [], [6]⟩,
 ⟨some 24, .iaddr 1 (.tmp 22) (.tmp 23), none, [8, 9], [22, 23]⟩,
 ⟨some 25, .load false 1 (.tmp 24), none, [10], [24]⟩,
 ⟨some 26, .iaddr 1 (.tmp 14) (.tmp 15), none, [0, 1, 0, 1, 4, 5, 6, 7, 11], [14, 15]⟩,
 ⟨none, .store 1 (.tmp 26) (.tmp 21), none, [12, 7, 0, 1, 4, 5, 6, 7, 11], [26, 21]⟩,
 ⟨some 27, .iaddr 1 (.tmp 16) (.tmp 17), none, [2, 3, 0, 1, 2, 3, 4, 5, 6, 7, 8, 9, 10, 11, 12, 13], [16, 17]⟩,
 ⟨none, .store 1 (.tmp 27) (.tmp 25), none, [14, 11, 13, 0, 1, 2, 3, 4, 5, 6, 7, 8, 9, 10, 11, 12, 13], [27, 25]⟩])
 (.ghost (.kill [13, 14, 15, 16, 17, 18, 19, 20, 21, 22, 23, 24, 25, 26, 27])))
 (.seq (.seq (.region false [
 ⟨some 28, .mv (.tmp 6), none, [], []⟩,
 ⟨some 29, .bin .add (.tmp 28) (.cst (.int .i64 1)), none, [], []⟩,
 ⟨some 6, .mv (.tmp 29), none, [], []⟩])
 (.ghost (.kill [28, 29])))
 (.seq (.region false [
 ⟨some 30, .mv (.tmp 7), none, [], []⟩,
 ⟨some 31, .bin .sub (.tmp 30) (.cst (.int .i64 1)), none, [], []⟩,
 ⟨some 7, .mv (.tmp 31), none, [], []⟩])
 (.ghost (.kill [30, 31])))))))
def Xq5.main : ACode := (.seq (.seq (.region false [
 ⟨some 8, .mv (.tmp 1), none, [], []⟩,
 ⟨some 6, .mv (.tmp 8), none, [], []⟩])
 (.ghost (.kill [1, 8])))
 (.seq (.seq (.region false [
 ⟨some 9, .mv (.tmp 2), none, [], []⟩,
 ⟨some 10, .bin .sub (.tmp 9) (.cst (.int .i64 1)), none, [], []⟩,
 ⟨some 7, .mv (.tmp 10), none, [], []⟩])
 (.ghost (.kill [2, 9, 10])))
 (.seq (.block 0 (.loop Xq5.b0))
 Xq5.c0)))
def Xq5.k0 : List Item := [.inBlock 0, .code Xq5.c0]
def Xq5 : AFunc := ⟨32, [], Xq5.main, false⟩
def Xq0.c0 : ACode := (.seq (.region false [
 ⟨some 6, .mv (.cst (.bool false)), none, [], []⟩])
 .ret)
def Xq0.c1 : ACode := (.ghost (.kill [0, 1, 2, 7, 8, 14]))
def Xq0.c2 : ACode := (.seq (.region false [
 ⟨some 15, .mv (.tmp 8), none, [], []⟩,
 ⟨some 16, .bin .add (.tmp 15) (.cst (.int .i64 1)), none, [], []⟩,
 ⟨some 8, .mv (.tmp 16), none, [], []⟩])
 (.ghost (.kill [15, 16])))
def Xq0.c3 : ACode := (.ghost (.kill [10, 103, 116]))
def Xq0.b3 : ACode := (.seq (.seq (.seq (.region false [
 ⟨some 101, .mv (.tmp 10), none, [], []⟩,
 ⟨some 102, .mv (.tmp 2), none, [], []⟩,
 ⟨some 103, .bin .lss (.tmp 101) (.tmp 102), none, [], []⟩])
 (.ghost (.kill [101, 102])))
 (.cond (.tmp 103) .skip
 (.exit 6)))
 (.seq (.block 7 (.seq (.seq (.seq (.region true [
 ⟨some 106, .mv (.tmp 0), none, [], [0]⟩,
 ⟨some 107, .mv (.tmp 10), none, [], [10]⟩,
 ⟨some 108, .iaddr 1 (.tmp 106) (.tmp 107), none, [0, 1], [106, 107]⟩,
 ⟨some 109, .load false 1 (.tmp 108), none, [2], [108]⟩,
 ⟨some 110, .mv (.tmp 0), none, [], [0]⟩,
 ⟨some 111, .mv (.tmp 10), none, [], [10]⟩,
 ⟨some 112, .bin .sub (.tmp 111) (.cst (.int .i64 1)), none, [5], [111]⟩,
 ⟨some 113, .iaddr 1 (.tmp 110) (.tmp 112), none, [4, 6], [110, 112]⟩,
 ⟨some 114, .load false 1 (.tmp 113), none, [7], [113]⟩,
 ⟨some 115, .call true i_Xq40 [(.tmp 109), (.tmp 114)], none, [3, 8], [109, 114]⟩,
 ⟨some 116, .un .not (.tmp 115), none, [9], [115]⟩])
 (.ghost (.kill [103, 106, 107, 108, 109, 110, 111, 112, 113, 114, 115])))
 (.cond (.tmp 116) (.exit 6)
 .skip))
 (.seq (.region true [
 ⟨some 117, .mv (.tmp 0), none, [], [0]⟩,
 ⟨some 118, .mv (.tmp 10), none, [], [10]⟩,
 ⟨some 119, .mv (.tmp 0), none, [], [0]⟩,
 ⟨some 120, .mv (.tmp 10), none, [], [10]⟩,
 ⟨some 121, .bin .sub (.tmp 120) (.cst (.int .i64 1)), none, [3], [120]⟩,
 ⟨some 122, .mv (.tmp 0), none, [], [0]⟩,
 ⟨some 123, .mv (.tmp 10), none, [], [10]⟩,
 ⟨some 124, .bin .sub (.tmp 123) (.cst (.int .i64 1)), none, [6], [123]⟩,
 ⟨some 125, .iaddr 1 (.tmp 122) (.tmp 124), none, [5, 7], [122, 124]⟩,
 ⟨some 126, .load false 1 (.tmp 125), none, [8], [125]⟩,
 ⟨some 127, .mv (.tmp 0), none, [], [0]⟩,
 ⟨some 128, .mv (.tmp 10), none, [], [10]⟩,
 ⟨some 129, .iaddr 1 (.tmp 127) (.tmp 128), none, [10, 11], [127, 128]⟩,
 ⟨some 130, .load false 1 (.tmp 129), none, [12], [129]⟩,
 ⟨some 131, .iaddr 1 (.tmp 117) (.tmp 118), none, [0, 1, 0, 1, 5, 6, 7, 8, 9, 13], [117, 118]⟩,
 ⟨none, .store 1 (.tmp 131) (.tmp 126), none, [14, 9, 0, 1, 5, 6, 7, 8, 9, 13], [131, 126]⟩,
 ⟨some 132, .iaddr 1 (.tmp 119) (.tmp 121), none, [2, 4, 0, 1, 2, 3, 4, 5, 6, 7, 8, 9, 10, 11, 12, 13, 14, 15], [119, 121]⟩,
 ⟨none, .store 1 (.tmp 132) (.tmp 130), none, [16, 13, 15, 0, 1, 2, 3, 4, 5, 6, 7, 8, 9, 10, 11, 12, 13, 14, 15], [132, 130]⟩])
 (.ghost (.kill [116, 117, 118, 119, 120, 121, 122, 123, 124, 125, 126, 127, 128, 129, 130, 131, 132])))))
 (.seq (.region false [
 ⟨some 104, .mv (.tmp 10), none, [], []⟩,
 ⟨some 105, .bin .add (.tmp 104) (.cst (.int .i64 1)), none, [], []⟩,
 ⟨some 10, .mv (.tmp 105), none, [], []⟩])
 (.ghost (.kill [104, 105])))))
def Xq0.c4 : ACode := (.seq (.seq (.region false [
 ⟨some 95, .mv (.tmp 2), none, [], []⟩,
 ⟨some 96, .mv (.tmp 7), none, [], []⟩,
 ⟨some 97, .bin .sub (.tmp 95) (.tmp 96), none, [], []⟩,
 ⟨some 98, .bin .geq (.tmp 97) (.cst (.int .i64 2)), none, [], []⟩])
 (.ghost (.kill [95, 96, 97])))
 (.seq (.cond (.tmp 98) (.seq (.seq (.region false [
   ⟨some 99, .mv (.tmp 7), none, [], []⟩,
   ⟨some 100, .bin .add (.tmp 99) (.cst (.int .i64 1)), none, [], []⟩,
   ⟨some 10, .mv (.tmp 100), none, [], []⟩])
  (.ghost (.kill [98, 99, 100])))
  (.seq (.block 6 (.loop Xq0.b3))
  Xq0.c3))
 .skip)
 (.ghost (.kill [98]))))
def Xq0.b2 : ACode := (.seq (.seq (.seq (.region false [
 ⟨some 64, .mv (.tmp 9), none, [], []⟩,
 ⟨some 65, .bin .geq (.tmp 64) (.cst (.int .i64 1)), none, [], []⟩])
 (.ghost (.kill [64])))
 (.cond (.tmp 65) .skip
 (.exit 4)))
 (.seq (.block 5 (.seq (.seq (.seq (.region true [
 ⟨some 68, .mv (.tmp 0), none, [], [0]⟩,
 ⟨some 69, .mv (.tmp 9), none, [], [9]⟩,
 ⟨some 70, .iaddr 1 (.tmp 68) (.tmp 69), none, [0, 1], [68, 69]⟩,
 ⟨some 71, .load false 1 (.tmp 70), none, [2], [70]⟩,
 ⟨some 72, .mv (.tmp 0), none, [], [0]⟩,
 ⟨some 73, .mv (.tmp 9), none, [], [9]⟩,
 ⟨some 74, .bin .sub (.tmp 73) (.cst (.int .i64 1)), none, [5], [73]⟩,
 ⟨some 75, .iaddr 1 (.tmp 72) (.tmp 74), none, [4, 6], [72, 74]⟩,
 ⟨some 76, .load false 1 (.tmp 75), none, [7], [75]⟩,
 ⟨some 77, .call true i_Xq40 [(.tmp 71), (.tmp 76)], none, [3, 8], [71, 76]⟩,
 ⟨some 78, .un .not (.tmp 77), none, [9], [77]⟩])
 (.ghost (.kill [65, 68, 69, 70, 71, 72, 73, 74, 75, 76, 77])))
 (.cond (.tmp 78) (.exit 4)
 .skip))
 (.seq (.region true [
 ⟨some 79, .mv (.tmp 0), none, [], [0]⟩,
 ⟨some 80, .mv (.tmp 9), none, [], [9]⟩,
 ⟨some 81, .mv (.tmp 0), none, [], [0]⟩,
 ⟨some 82, .mv (.tmp 9), none, [], [9]⟩,
 ⟨some 83, .bin .sub (.tmp 82) (.cst (.int .i64 1)), none, [3], [82]⟩,
 ⟨some 84, .mv (.tmp 0), none, [], [0]⟩,
 ⟨some 85, .mv (.tmp 9), none, [], [9]⟩,
 ⟨some 86, .bin .sub (.tmp 85) (.cst (.int .i64 1)), none, [6], [85]⟩,
 ⟨some 87, .iaddr 1 (.tmp 84) (.tmp 86), none, [5, 7], [84, 86]⟩,
 ⟨some 88, .load false 1 (.tmp 87), none, [8], [87]⟩,
 ⟨some 89, .mv (.tmp 0), none, [], [0]⟩,
 ⟨some 90, .mv (.tmp 9), none, [], [9]⟩,
 ⟨some 91, .iaddr 1 (.tmp 89) (.tmp 90), none, [10, 11], [89, 90]⟩,
 ⟨some 92, .load false 1 (.tmp 91), none, [12], [91]⟩,
 ⟨some 93, .iaddr 1 (.tmp 79) (.tmp 80), none, [0, 1, 0, 1, 5, 6, 7, 8, 9, 13], [79, 80]⟩,
 ⟨none, .store 1 (.tmp 93) (.tmp 88), none, [14, 9, 0, 1, 5, 6, 7, 8, 9, 13], [93, 88]⟩,
 ⟨some 94, .iaddr 1 (.tmp 81) (.tmp 83), none, [2, 4, 0, 1, 2, 3, 4, 5, 6, 7, 8, 9, 10, 11, 12, 13, 14, 15], [81, 83]⟩,
 ⟨none, .store 1 (.tmp 94) (.tmp 92), none, [16, 13, 15, 0, 1, 2, 3, 4, 5, 6, 7, 8, 9, 10, 11, 12, 13, 14, 15], [94, 92]⟩])
 (.ghost (.kill [78, 79, 80, 81, 82, 83, 84, 85, 86, 87, 88, 89, 90, 91, 92, 93, 94])))))
 (.seq (.region false [
 ⟨some 66, .mv (.tmp 9), none, [], []⟩,
 ⟨some 67, .bin .sub (.tmp 66) (.cst (.int .i64 1)), none, [], []⟩,
 ⟨some 9, .mv (.tmp 67), none, [], []⟩])
 (.ghost (.kill [66, 67])))))
def Xq0.c5 : ACode := (.seq (.seq (.seq (.region false [
 ⟨some 35, .mv (.tmp 7), none, [], []⟩,
 ⟨some 36, .mv (.tmp 2), none, [], []⟩,
 ⟨some 37, .bin .eql (.tmp 35) (.tmp 36), none, [], []⟩])
 (.ghost (.kill [35, 36])))
 (.cond (.tmp 37) (.seq (.region false [
   ⟨some 6, .mv (.cst (.bool true)), none, [], []⟩])
  .ret)
 .skip))
 (.seq (.seq (.seq (.region false [
 ⟨some 38, .mv (.tmp 2), none, [], []⟩,
 ⟨some 39, .mv (.tmp 1), none, [], []⟩,
 ⟨some 40, .bin .sub (.tmp 38) (.tmp 39), none, [], []⟩,
 ⟨some 41, .bin .lss (.tmp 40) (.cst (.int .i64 50)), none, [], []⟩])
 (.ghost (.kill [37, 38, 39, 40])))
 (.cond (.tmp 41) (.seq (.region false [
   ⟨some 6, .mv (.cst (.bool false)), none, [], []⟩])
  .ret)
 .skip))
 (.seq (.seq (.region true [
 ⟨some 42, .mv (.tmp 0), none, [], [0]⟩,
 ⟨some 43, .mv (.tmp 7), none, [], [7]⟩,
 ⟨some 44, .mv (.tmp 0), none, [], [0]⟩,
 ⟨some 45, .mv (.tmp 7), none, [], [7]⟩,
 ⟨some 46, .bin .sub (.tmp 45) (.cst (.int .i64 1)), none, [3], [45]⟩,
 ⟨some 47, .mv (.tmp 0), none, [], [0]⟩,
 ⟨some 48, .mv (.tmp 7), none, [], [7]⟩,
 ⟨some 49, .bin .sub (.tmp 48) (.cst (.int .i64 1)), none, [6], [48]⟩,
 ⟨some 50, .iaddr 1 (.tmp 47) (.tmp 49), none, [5, 7], [47, 49]⟩,
 ⟨some 51, .load false 1 (.tmp 50), none, [8], [50]⟩,
 ⟨some 52, .mv (.tmp 0), none, [], [0]⟩,
 ⟨some 53, .mv (.tmp 7), none, [], [7]⟩,
 ⟨some 54, .iaddr 1 (.tmp 52) (.tmp 53), none, [10, 11], [52, 53]⟩,
 ⟨some 55, .load false 1 (.tmp 54), none, [12], [54]⟩,
 ⟨some 56, .iaddr 1 (.tmp 42) (.tmp 43), none, [0, 1, 0, 1, 5, 6, 7, 8, 9, 13], [42, 43]⟩,
 ⟨none, .store 1 (.tmp 56) (.tmp 51), none, [14, 9, 0, 1, 5, 6, 7, 8, 9, 13], [56, 51]⟩,
 ⟨some 57, .iaddr 1 (.tmp 44) (.tmp 46), none, [2, 4, 0, 1, 2, 3, 4, 5, 6, 7, 8, 9, 10, 11, 12, 13, 14, 15], [44, 46]⟩,
 ⟨none, .store 1 (.tmp 57) (.tmp 55), none, [16, 13, 15, 0, 1, 2, 3, 4, 5, 6, 7, 8, 9, 10, 11, 12, 13, 14, 15], [57, 55]⟩])
 (.ghost (.kill [41, 42, 43, 44, 45, 46, 47, 48, 49, 50, 51, 52, 53, 54, 55, 56, 57])))
 (.seq (.seq (.seq (.region false [
 ⟨some 58, .mv (.tmp 7), none, [], []⟩,
 ⟨some 59, .mv (.tmp 1), none, [], []⟩,
 ⟨some 60, .bin .sub (.tmp 58) (.tmp 59), none, [], []⟩,
 ⟨some 61, .bin .geq (.tmp 60) (.cst (.int .i64 2)), none, [], []⟩])
 (.ghost (.kill [58, 59, 60])))
 (.seq (.cond (.tmp 61) (.seq (.seq (.region false [
   ⟨some 62, .mv (.tmp 7), none, [], []⟩,
   ⟨some 63, .bin .sub (.tmp 62) (.cst (.int .i64 1)), none, [], []⟩,
   ⟨some 9, .mv (.tmp 63), none, [], []⟩])
  (.ghost (.kill [61, 62, 63])))
  (.seq (.block 4 (.loop Xq0.b2))
  (.ghost (.kill [9, 65, 78]))))
 .skip)
 (.ghost (.kill [61]))))
 Xq0.c4))))
def Xq0.b1 : ACode := (.seq (.seq (.seq (.region true [
 ⟨some 17, .mv (.tmp 7), none, [], [7]⟩,
 ⟨some 18, .mv (.tmp 2), none, [], [2]⟩,
 ⟨some 19, .bin .lss (.tmp 17) (.tmp 18), none, [0, 1], [17, 18]⟩,
 ⟨some 20, .mv (.tmp 19), none, [2], [19]⟩,
 ⟨some 21, .mv (.tmp 0), (some ((some 20), true)), [3], [0]⟩,
 ⟨some 22, .mv (.tmp 7), (some ((some 20), true)), [3], [7]⟩,
 ⟨some 23, .iaddr 1 (.tmp 21) (.tmp 22), (some ((some 20), true)), [4, 5, 3], [21, 22]⟩,
 ⟨some 24, .load false 1 (.tmp 23), (some ((some 20), true)), [6, 3], [23]⟩,
 ⟨some 25, .mv (.tmp 0), (some ((some 20), true)), [3], [0]⟩,
 ⟨some 26, .mv (.tmp 7), (some ((some 20), true)), [3], [7]⟩,
 ⟨some 27, .bin .sub (.tmp 26) (.cst (.int .i64 1)), (some ((some 20), true)), [9, 3], [26]⟩,
 ⟨some 28, .iaddr 1 (.tmp 25) (.tmp 27), (some ((some 20), true)), [8, 10, 3], [25, 27]⟩,
 ⟨some 29, .load false 1 (.tmp 28), (some ((some 20), true)), [11, 3], [28]⟩,
 ⟨some 30, .call true i_Xq40 [(.tmp 24), (.tmp 29)], (some ((some 20), true)), [7, 12, 3, 3], [24, 29]⟩,
 ⟨some 31, .un .not (.tmp 30), (some ((some 20), true)), [13, 3], [30]⟩,
 ⟨some 32, .pick (.tmp 20) (.tmp 31) (.cst (.bool false)), none, [3, 14], [20, 31]⟩])
 (.ghost (.kill [17, 18, 19, 20, 21, 22, 23, 24, 25, 26, 27, 28, 29, 30, 31])))
 (.cond (.tmp 32) .skip
 (.exit 2)))
 (.block 3 (.seq (.region false [
 ⟨some 33, .mv (.tmp 7), none, [], []⟩,
 ⟨some 34, .bin .add (.tmp 33) (.cst (.int .i64 1)), none, [], []⟩,
 ⟨some 7, .mv (.tmp 34), none, [], []⟩])
 (.ghost (.kill [32, 33, 34])))))
def Xq0.b0 : ACode := (.seq (.seq (.seq (.region false [
 ⟨some 13, .mv (.tmp 8), none, [], []⟩,
 ⟨some 14, .bin .lss (.tmp 13) (.cst (.int .i64 5)), none, [], []⟩])
 (.ghost (.kill [13])))
 (.cond (.tmp 14) .skip
 (.exit 0)))
 (.seq (.block 1 (.seq (.seq (.block 2 (.seq (.ghost (.kill [14]))
 (.loop Xq0.b1)))
 (.ghost (.kill [32])))
 Xq0.c5))
 Xq0.c2))
def Xq0.main : ACode := (.seq (.seq (.region false [
 ⟨some 6, .mv (.cst (.bool false)), none, [], []⟩])
 (.ghost (.kill [6])))
 (.seq (.seq (.region false [
 ⟨some 11, .mv (.tmp 1), none, [], []⟩,
 ⟨some 12, .bin .add (.tmp 11) (.cst (.int .i64 1)), none, [], []⟩,
 ⟨some 7, .mv (.tmp 12), none, [], []⟩])
 (.ghost (.kill [11, 12])))
 (.seq (.seq (.region false [
 ⟨some 8, .mv (.cst (.int .i64 0)), none, [], []⟩])
 (.seq (.block 0 (.loop Xq0.b0))
 Xq0.c1))
 Xq0.c0)))
def Xq0.k3 : List Item := [.inBlock 6, .code Xq0.c3, .code (.ghost (.kill [98])), .inBlock 1, .code Xq0.c2, .inLoop Xq0.b0, .inBlock 0, .code Xq0.c1, .code Xq0.c0]
def Xq0.k2 : List Item := [.inBlock 4, .code (.ghost (.kill [9, 65, 78])), .code (.ghost (.kill [61])), .code Xq0.c4, .inBlock 1, .code Xq0.c2, .inLoop Xq0.b0, .inBlock 0, .code Xq0.c1, .code Xq0.c0]
def Xq0.k1 : List Item := [.inBlock 2, .code (.ghost (.kill [32])), .code Xq0.c5, .inBlock 1, .code Xq0.c2, .inLoop Xq0.b0, .inBlock 0, .code Xq0.c1, .code Xq0.c0]
def Xq0.k0 : List Item := [.inBlock 0, .code Xq0.c1, .code Xq0.c0]
def Xq0 : AFunc := ⟨133, [.tmp 6], Xq0.main, false⟩
def Xq40.main : ACode := (.seq (.seq (.region false [
 ⟨some 4, .mv (.cst (.bool false)), none, [], []⟩])
 (.ghost (.kill [4])))
 (.seq (.region false [
 ⟨some 5, .mv (.tmp 0), none, [], []⟩,
 ⟨some 6, .call true i_Xq31 [(.tmp 5)], none, [], []⟩,
 ⟨some 7, .mv (.tmp 6), none, [], []⟩,
 ⟨some 8, .mv (.tmp 1), (some ((some 7), true)), [], []⟩,
 ⟨some 9, .call true i_Xq31 [(.tmp 8)], (some ((some 7), true)), [], []⟩,
 ⟨some 10, .un .not (.tmp 9), (some ((some 7), true)), [], []⟩,
 ⟨some 11, .pick (.tmp 7) (.tmp 10) (.cst (.bool false)), none, [], []⟩,
 ⟨some 12, .mv (.tmp 11), none, [], []⟩,
 ⟨some 13, .mv (.tmp 0), (some ((some 12), false)), [], []⟩,
 ⟨some 14, .mv (.tmp 1), (some ((some 12), false)), [], []⟩,
 ⟨some 15, .bin .lss (.tmp 13) (.tmp 14), (some ((some 12), false)), [], []⟩,
 ⟨some 16, .pick (.tmp 12) (.cst (.bool true)) (.tmp 15), none, [], []⟩,
 ⟨some 4, .mv (.tmp 16), none, [], []⟩])
 .ret))
def Xq40 : AFunc := ⟨17, [.tmp 4], Xq40.main, false⟩
def Xq2.c0 : ACode := (.seq (.region false [
 ⟨some 83, .mv (.tmp 9), none, [], []⟩,
 ⟨some 8, .mv (.tmp 83), none, [], []⟩])
 .ret)
def Xq2.c1 : ACode := (.ghost (.kill [0, 1, 10, 64]))
def Xq2.c2 : ACode := (.seq (.seq (.seq (.region false [
 ⟨some 62, .mv (.tmp 9), none, [], []⟩,
 ⟨some 63, .mv (.tmp 10), none, [], []⟩,
 ⟨some 64, .bin .gtr (.tmp 62) (.tmp 63), none, [], []⟩])
 (.ghost (.kill [62, 63])))
 (.cond (.tmp 64) (.exit 0)
 .skip))
 (.seq (.seq (.region true [
 ⟨some 65, .mv (.tmp 0), none, [], [0]⟩,
 ⟨some 66, .mv (.tmp 9), none, [], [9]⟩,
 ⟨some 67, .mv (.tmp 0), none, [], [0]⟩,
 ⟨some 68, .mv (.tmp 10), none, [], [10]⟩,
 ⟨some 69, .mv (.tmp 0), none, [], [0]⟩,
 ⟨some 70, .mv (.tmp 10), none, [], [10]⟩,
 ⟨some 71, .iaddr 1 (.tmp 69) (.tmp 70), none, [4, 5], [69, 70]⟩,
 ⟨some 72, .load false 1 (.tmp 71), none, [6], [71]⟩,
 ⟨some 73, .mv (.tmp 0), none, [], [0]⟩,
 ⟨some 74, .mv (.tmp 9), none, [], [9]⟩,
 ⟨some 75, .iaddr 1 (.tmp 73) (.tmp 74), none, [8, 9], [73, 74]⟩,
 ⟨some 76, .load false 1 (.tmp 75), none, [10], [75]⟩,
 ⟨some 77, .iaddr 1 (.tmp 65) (.tmp 66), none, [0, 1, 0, 1, 4, 5, 6, 7, 11], [65, 66]⟩,
 ⟨none, .store 1 (.tmp 77) (.tmp 72), none, [12, 7, 0, 1, 4, 5, 6, 7, 11], [77, 72]⟩,
 ⟨some 78, .iaddr 1 (.tmp 67) (.tmp 68), none, [2, 3, 0, 1, 2, 3, 4, 5, 6, 7, 8, 9, 10, 11, 12, 13], [67, 68]⟩,
 ⟨none, .store 1 (.tmp 78) (.tmp 76), none, [14, 11, 13, 0, 1, 2, 3, 4, 5, 6, 7, 8, 9, 10, 11, 12, 13], [78, 76]⟩])
 (.ghost (.kill [64, 65, 66, 67, 68, 69, 70, 71, 72, 73, 74, 75, 76, 77, 78])))
 (.seq (.seq (.region false [
 ⟨some 79, .mv (.tmp 9), none, [], []⟩,
 ⟨some 80, .bin .add (.tmp 79) (.cst (.int .i64 1)), none, [], []⟩,
 ⟨some 9, .mv (.tmp 80), none, [], []⟩])
 (.ghost (.kill [79, 80])))
 (.seq (.region false [
 ⟨some 81, .mv (.tmp 10), none, [], []⟩,
 ⟨some 82, .bin .sub (.tmp 81) (.cst (.int .i64 1)), none, [], []⟩,
 ⟨some 10, .mv (.tmp 82), none, [], []⟩])
 (.ghost (.kill [81, 82]))))))
def Xq2.b2 : ACode := (.seq (.seq (.seq (.region true [
 ⟨some 46, .mv (.tmp 9), none, [], [9]⟩,
 ⟨some 47, .mv (.tmp 10), none, [], [10]⟩,
 ⟨some 48, .bin .leq (.tmp 46) (.tmp 47), none, [0, 1], [46, 47]⟩,
 ⟨some 49, .mv (.tmp 48), none, [2], [48]⟩,
 ⟨some 50, .mv (.tmp 0), (some ((some 49), true)), [3], [0]⟩,
 ⟨some 51, .mv (.tmp 1), (some ((some 49), true)), [3], [1]⟩,
 ⟨some 52, .iaddr 1 (.tmp 50) (.tmp 51), (some ((some 49), true)), [4, 5, 3], [50, 51]⟩,
 ⟨some 53, .load false 1 (.tmp 52), (some ((some 49), true)), [6, 3], [52]⟩,
 ⟨some 54, .mv (.tmp 0), (some ((some 49), true)), [3], [0]⟩,
 ⟨some 55, .mv (.tmp 10), (some ((some 49), true)), [3], [10]⟩,
 ⟨some 56, .iaddr 1 (.tmp 54) (.tmp 55), (some ((some 49), true)), [8, 9, 3], [54, 55]⟩,
 ⟨some 57, .load false 1 (.tmp 56), (some ((some 49), true)), [10, 3], [56]⟩,
 ⟨some 58, .call true i_Xq40 [(.tmp 53), (.tmp 57)], (some ((some 49), true)), [7, 11, 3, 3], [53, 57]⟩,
 ⟨some 59, .pick (.tmp 49) (.tmp 58) (.cst (.bool false)), none, [3, 12], [49, 58]⟩])
 (.ghost (.kill [46, 47, 48, 49, 50, 51, 52, 53, 54, 55, 56, 57, 58])))
 (.cond (.tmp 59) .skip
 (.exit 4)))
 (.block 5 (.seq (.region false [
 ⟨some 60, .mv (.tmp 10), none, [], []⟩,
 ⟨some 61, .bin .sub (.tmp 60) (.cst (.int .i64 1)), none, [], []⟩,
 ⟨some 10, .mv (.tmp 61), none, [], []⟩])
 (.ghost (.kill [59, 60, 61])))))
def Xq2.c3 : ACode := (.seq (.seq (.block 4 (.loop Xq2.b2))
 (.ghost (.kill [59])))
 Xq2.c2)
def Xq2.b1 : ACode := (.seq (.seq (.seq (.region true [
 ⟨some 29, .mv (.tmp 9), none, [], [9]⟩,
 ⟨some 30, .mv (.tmp 10), none, [], [10]⟩,
 ⟨some 31, .bin .leq (.tmp 29) (.tmp 30), none, [0, 1], [29, 30]⟩,
 ⟨some 32, .mv (.tmp 31), none, [2], [31]⟩,
 ⟨some 33, .mv (.tmp 0), (some ((some 32), true)), [3], [0]⟩,
 ⟨some 34, .mv (.tmp 1), (some ((some 32), true)), [3], [1]⟩,
 ⟨some 35, .iaddr 1 (.tmp 33) (.tmp 34), (some ((some 32), true)), [4, 5, 3], [33, 34]⟩,
 ⟨some 36, .load false 1 (.tmp 35), (some ((some 32), true)), [6, 3], [35]⟩,
 ⟨some 37, .mv (.tmp 0), (some ((some 32), true)), [3], [0]⟩,
 ⟨some 38, .mv (.tmp 9), (some ((some 32), true)), [3], [9]⟩,
 ⟨some 39, .iaddr 1 (.tmp 37) (.tmp 38), (some ((some 32), true)), [8, 9, 3], [37, 38]⟩,
 ⟨some 40, .load false 1 (.tmp 39), (some ((some 32), true)), [10, 3], [39]⟩,
 ⟨some 41, .call true i_Xq40 [(.tmp 36), (.tmp 40)], (some ((some 32), true)), [7, 11, 3, 3], [36, 40]⟩,
 ⟨some 42, .un .not (.tmp 41), (some ((some 32), true)), [12, 3], [41]⟩,
 ⟨some 43, .pick (.tmp 32) (.tmp 42) (.cst (.bool false)), none, [3, 13], [32, 42]⟩])
 (.ghost (.kill [29, 30, 31, 32, 33, 34, 35, 36, 37, 38, 39, 40, 41, 42])))
 (.cond (.tmp 43) .skip
 (.exit 2)))
 (.block 3 (.seq (.region false [
 ⟨some 44, .mv (.tmp 9), none, [], []⟩,
 ⟨some 45, .bin .add (.tmp 44) (.cst (.int .i64 1)), none, [], []⟩,
 ⟨some 9, .mv (.tmp 45), none, [], []⟩])
 (.ghost (.kill [43, 44, 45])))))
def Xq2.b0 : ACode := (.block 1 (.seq (.seq (.block 2 (.loop Xq2.b1))
 (.ghost (.kill [43])))
 Xq2.c3))
def Xq2.main : ACode := (.seq (.seq (.region false [
 ⟨some 8, .mv (.cst (.int .i64 0)), none, [], []⟩])
 (.ghost (.kill [8])))
 (.seq (.seq (.region true [
 ⟨some 11, .mv (.tmp 0), none, [], [0]⟩,
 ⟨some 12, .mv (.tmp 1), none, [], [1]⟩,
 ⟨some 13, .mv (.tmp 0), none, [], [0]⟩,
 ⟨some 14, .mv (.tmp 3), none, [], [3]⟩,
 ⟨some 15, .mv (.tmp 0), none, [], [0]⟩,
 ⟨some 16, .mv (.tmp 3), none, [], [3]⟩,
 ⟨some 17, .iaddr 1 (.tmp 15) (.tmp 16), none, [4, 5], [15, 16]⟩,
 ⟨some 18, .load false 1 (.tmp 17), none, [6], [17]⟩,
 ⟨some 19, .mv (.tmp 0), none, [], [0]⟩,
 ⟨some 20, .mv (.tmp 1), none, [], [1]⟩,
 ⟨some 21, .iaddr 1 (.tmp 19) (.tmp 20), none, [8, 9], [19, 20]⟩,
 ⟨some 22, .load false 1 (.tmp 21), none, [10], [21]⟩,
 ⟨some 23, .iaddr 1 (.tmp 11) (.tmp 12), none, [0, 1, 0, 1, 4, 5, 6, 7, 11], [11, 12]⟩,
 ⟨none, .store 1 (.tmp 23) (.tmp 18), none, [12, 7, 0, 1, 4, 5, 6, 7, 11], [23, 18]⟩,
 ⟨some 24, .iaddr 1 (.tmp 13) (.tmp 14), none, [2, 3, 0, 1, 2, 3, 4, 5, 6, 7, 8, 9, 10, 11, 12, 13], [13, 14]⟩,
 ⟨none, .store 1 (.tmp 24) (.tmp 22), none, [14, 11, 13, 0, 1, 2, 3, 4, 5, 6, 7, 8, 9, 10, 11, 12, 13], [24, 22]⟩])
 (.ghost (.kill [3, 11, 12, 13, 14, 15, 16, 17, 18, 19, 20, 21, 22, 23, 24])))
 (.seq (.seq (.region false [
 ⟨some 25, .mv (.tmp 1), none, [], []⟩,
 ⟨some 26, .bin .add (.tmp 25) (.cst (.int .i64 1)), none, [], []⟩,
 ⟨some 27, .mv (.tmp 2), none, [], []⟩,
 ⟨some 28, .bin .sub (.tmp 27) (.cst (.int .i64 1)), none, [], []⟩,
 ⟨some 9, .mv (.tmp 26), none, [], []⟩,
 ⟨some 10, .mv (.tmp 28), none, [], []⟩])
 (.ghost (.kill [2, 25, 26, 27, 28])))
 (.seq (.seq (.block 0 (.loop Xq2.b0))
 Xq2.c1)
 Xq2.c0))))
def Xq2.k2 : List Item := [.inBlock 4, .code (.ghost (.kill [59])), .code Xq2.c2, .inBlock 1, .inLoop Xq2.b0, .inBlock 0, .code Xq2.c1, .code Xq2.c0]
def Xq2.k1 : List Item := [.inBlock 2, .code (.ghost (.kill [43])), .code Xq2.c3, .inBlock 1, .inLoop Xq2.b0, .inBlock 0, .code Xq2.c1, .code Xq2.c0]
def Xq2.k0 : List Item := [.inBlock 0, .code Xq2.c1, .code Xq2.c0]
def Xq2 : AFunc := ⟨84, [.tmp 8], Xq2.main, false⟩
def Xq7.c0 : ACode := (.seq (.seq (.region true [
 ⟨some 153, .mv (.tmp 0), none, [], [0]⟩,
 ⟨some 154, .mv (.tmp 11), none, [], [11]⟩,
 ⟨some 155, .mv (.tmp 0), none, [], [0]⟩,
 ⟨some 156, .mv (.tmp 1), none, [], [1]⟩,
 ⟨some 157, .mv (.tmp 0), none, [], [0]⟩,
 ⟨some 158, .mv (.tmp 1), none, [], [1]⟩,
 ⟨some 159, .iaddr 1 (.tmp 157) (.tmp 158), none, [4, 5], [157, 158]⟩,
 ⟨some 160, .load false 1 (.tmp 159), none, [6], [159]⟩,
 ⟨some 161, .mv (.tmp 0), none, [], [0]⟩,
 ⟨some 162, .mv (.tmp 11), none, [], [11]⟩,
 ⟨some 163, .iaddr 1 (.tmp 161) (.tmp 162), none, [8, 9], [161, 162]⟩,
 ⟨some 164, .load false 1 (.tmp 163), none, [10], [163]⟩,
 ⟨some 165, .iaddr 1 (.tmp 153) (.tmp 154), none, [0, 1, 0, 1, 4, 5, 6, 7, 11], [153, 154]⟩,
 ⟨none, .store 1 (.tmp 165) (.tmp 160), none, [12, 7, 0, 1, 4, 5, 6, 7, 11], [165, 160]⟩,
 ⟨some 166, .iaddr 1 (.tmp 155) (.tmp 156), none, [2, 3, 0, 1, 2, 3, 4, 5, 6, 7, 8, 9, 10, 11, 12, 13], [155, 156]⟩,
 ⟨none, .store 1 (.tmp 166) (.tmp 164), none, [14, 11, 13, 0, 1, 2, 3, 4, 5, 6, 7, 8, 9, 10, 11, 12, 13], [166, 164]⟩])
 (.ghost (.kill [0, 1, 153, 154, 155, 156, 157, 158, 159, 160, 161, 162, 163, 164, 165, 166])))
 (.seq (.region false [
 ⟨some 167, .mv (.tmp 11), none, [], []⟩,
 ⟨some 8, .mv (.tmp 167), none, [], []⟩,
 ⟨some 9, .mv (.cst (.bool false)), none, [], []⟩])
 .ret))
def Xq7.c1 : ACode := (.seq (.seq (.seq (.region false [
 ⟨some 132, .mv (.tmp 10), none, [], []⟩,
 ⟨some 133, .mv (.tmp 11), none, [], []⟩,
 ⟨some 134, .bin .gtr (.tmp 132) (.tmp 133), none, [], []⟩])
 (.ghost (.kill [132, 133])))
 (.cond (.tmp 134) (.exit 4)
 .skip))
 (.seq (.seq (.region true [
 ⟨some 135, .mv (.tmp 0), none, [], [0]⟩,
 ⟨some 136, .mv (.tmp 10), none, [], [10]⟩,
 ⟨some 137, .mv (.tmp 0), none, [], [0]⟩,
 ⟨some 138, .mv (.tmp 11), none, [], [11]⟩,
 ⟨some 139, .mv (.tmp 0), none, [], [0]⟩,
 ⟨some 140, .mv (.tmp 11), none, [], [11]⟩,
 ⟨some 141, .iaddr 1 (.tmp 139) (.tmp 140), none, [4, 5], [139, 140]⟩,
 ⟨some 142, .load false 1 (.tmp 141), none, [6], [141]⟩,
 ⟨some 143, .mv (.tmp 0), none, [], [0]⟩,
 ⟨some 144, .mv (.tmp 10), none, [], [10]⟩,
 ⟨some 145, .iaddr 1 (.tmp 143) (.tmp 144), none, [8, 9], [143, 144]⟩,
 ⟨some 146, .load false 1 (.tmp 145), none, [10], [145]⟩,
 ⟨some 147, .iaddr 1 (.tmp 135) (.tmp 136), none, [0, 1, 0, 1, 4, 5, 6, 7, 11], [135, 136]⟩,
 ⟨none, .store 1 (.tmp 147) (.tmp 142), none, [12, 7, 0, 1, 4, 5, 6, 7, 11], [147, 142]⟩,
 ⟨some 148, .iaddr 1 (.tmp 137) (.tmp 138), none, [2, 3, 0, 1, 2, 3, 4, 5, 6, 7, 8, 9, 10, 11, 12, 13], [137, 138]⟩,
 ⟨none, .store 1 (.tmp 148) (.tmp 146), none, [14, 11, 13, 0, 1, 2, 3, 4, 5, 6, 7, 8, 9, 10, 11, 12, 13], [148, 146]⟩])
 (.ghost (.kill [134, 135, 136, 137, 138, 139, 140, 141, 142, 143, 144, 145, 146, 147, 148])))
 (.seq (.seq (.region false [
 ⟨some 149, .mv (.tmp 10), none, [], []⟩,
 ⟨some 150, .bin .add (.tmp 149) (.cst (.int .i64 1)), none, [], []⟩,
 ⟨some 10, .mv (.tmp 150), none, [], []⟩])
 (.ghost (.kill [149, 150])))
 (.seq (.region false [
 ⟨some 151, .mv (.tmp 11), none, [], []⟩,
 ⟨some 152, .bin .sub (.tmp 151) (.cst (.int .i64 1)), none, [], []⟩,
 ⟨some 11, .mv (.tmp 152), none, [], []⟩])
 (.ghost (.kill [151, 152]))))))
def Xq7.b4 : ACode := (.seq (.seq (.seq (.region true [
 ⟨some 115, .mv (.tmp 10), none, [], [10]⟩,
 ⟨some 116, .mv (.tmp 11), none, [], [11]⟩,
 ⟨some 117, .bin .leq (.tmp 115) (.tmp 116), none, [0, 1], [115, 116]⟩,
 ⟨some 118, .mv (.tmp 117), none, [2], [117]⟩,
 ⟨some 119, .mv (.tmp 0), (some ((some 118), true)), [3], [0]⟩,
 ⟨some 120, .mv (.tmp 11), (some ((some 118), true)), [3], [11]⟩,
 ⟨some 121, .iaddr 1 (.tmp 119) (.tmp 120), (some ((some 118), true)), [4, 5, 3], [119, 120]⟩,
 ⟨some 122, .load false 1 (.tmp 121), (some ((some 118), true)), [6, 3], [121]⟩,
 ⟨some 123, .mv (.tmp 0), (some ((some 118), true)), [3], [0]⟩,
 ⟨some 124, .mv (.tmp 1), (some ((some 118), true)), [3], [1]⟩,
 ⟨some 125, .iaddr 1 (.tmp 123) (.tmp 124), (some ((some 118), true)), [8, 9, 3], [123, 124]⟩,
 ⟨some 126, .load false 1 (.tmp 125), (some ((some 118), true)), [10, 3], [125]⟩,
 ⟨some 127, .call true i_Xq40 [(.tmp 122), (.tmp 126)], (some ((some 118), true)), [7, 11, 3, 3], [122, 126]⟩,
 ⟨some 128, .un .not (.tmp 127), (some ((some 118), true)), [12, 3], [127]⟩,
 ⟨some 129, .pick (.tmp 118) (.tmp 128) (.cst (.bool false)), none, [3, 13], [118, 128]⟩])
 (.ghost (.kill [115, 116, 117, 118, 119, 120, 121, 122, 123, 124, 125, 126, 127, 128])))
 (.cond (.tmp 129) .skip
 (.exit 8)))
 (.block 9 (.seq (.region false [
 ⟨some 130, .mv (.tmp 11), none, [], []⟩,
 ⟨some 131, .bin .sub (.tmp 130) (.cst (.int .i64 1)), none, [], []⟩,
 ⟨some 11, .mv (.tmp 131), none, [], []⟩])
 (.ghost (.kill [129, 130, 131])))))
def Xq7.c2 : ACode := (.seq (.seq (.block 8 (.loop Xq7.b4))
 (.ghost (.kill [129])))
 Xq7.c1)
def Xq7.b3 : ACode := (.seq (.seq (.seq (.region true [
 ⟨some 99, .mv (.tmp 10), none, [], [10]⟩,
 ⟨some 100, .mv (.tmp 11), none, [], [11]⟩,
 ⟨some 101, .bin .leq (.tmp 99) (.tmp 100), none, [0, 1], [99, 100]⟩,
 ⟨some 102, .mv (.tmp 101), none, [2], [101]⟩,
 ⟨some 103, .mv (.tmp 0), (some ((some 102), true)), [3], [0]⟩,
 ⟨some 104, .mv (.tmp 10), (some ((some 102), true)), [3], [10]⟩,
 ⟨some 105, .iaddr 1 (.tmp 103) (.tmp 104), (some ((some 102), true)), [4, 5, 3], [103, 104]⟩,
 ⟨some 106, .load false 1 (.tmp 105), (some ((some 102), true)), [6, 3], [105]⟩,
 ⟨some 107, .mv (.tmp 0), (some ((some 102), true)), [3], [0]⟩,
 ⟨some 108, .mv (.tmp 1), (some ((some 102), true)), [3], [1]⟩,
 ⟨some 109, .iaddr 1 (.tmp 107) (.tmp 108), (some ((some 102), true)), [8, 9, 3], [107, 108]⟩,
 ⟨some 110, .load false 1 (.tmp 109), (some ((some 102), true)), [10, 3], [109]⟩,
 ⟨some 111, .call true i_Xq40 [(.tmp 106), (.tmp 110)], (some ((some 102), true)), [7, 11, 3, 3], [106, 110]⟩,
 ⟨some 112, .pick (.tmp 102) (.tmp 111) (.cst (.bool false)), none, [3, 12], [102, 111]⟩])
 (.ghost (.kill [99, 100, 101, 102, 103, 104, 105, 106, 107, 108, 109, 110, 111])))
 (.cond (.tmp 112) .skip
 (.exit 6)))
 (.block 7 (.seq (.region false [
 ⟨some 113, .mv (.tmp 10), none, [], []⟩,
 ⟨some 114, .bin .add (.tmp 113) (.cst (.int .i64 1)), none, [], []⟩,
 ⟨some 10, .mv (.tmp 114), none, [], []⟩])
 (.ghost (.kill [112, 113, 114])))))
def Xq7.b2 : ACode := (.block 5 (.seq (.seq (.block 6 (.loop Xq7.b3))
 (.ghost (.kill [112])))
 Xq7.c2))
def Xq7.c3 : ACode := (.seq (.seq (.seq (.region false [
 ⟨some 63, .mv (.tmp 10), none, [], []⟩,
 ⟨some 64, .mv (.tmp 11), none, [], []⟩,
 ⟨some 65, .bin .gtr (.tmp 63) (.tmp 64), none, [], []⟩])
 (.ghost (.kill [63, 64])))
 (.cond (.tmp 65) (.seq (.seq (.region true [
   ⟨some 66, .mv (.tmp 0), none, [], [0]⟩,
   ⟨some 67, .mv (.tmp 11), none, [], [11]⟩,
   ⟨some 68, .mv (.tmp 0), none, [], [0]⟩,
   ⟨some 69, .mv (.tmp 1), none, [], [1]⟩,
   ⟨some 70, .mv (.tmp 0), none, [], [0]⟩,
   ⟨some 71, .mv (.tmp 1), none, [], [1]⟩,
   ⟨some 72, .iaddr 1 (.tmp 70) (.tmp 71), none, [4, 5], [70, 71]⟩,
   ⟨some 73, .load false 1 (.tmp 72), none, [6], [72]⟩,
   ⟨some 74, .mv (.tmp 0), none, [], [0]⟩,
   ⟨some 75, .mv (.tmp 11), none, [], [11]⟩,
   ⟨some 76, .iaddr 1 (.tmp 74) (.tmp 75), none, [8, 9], [74, 75]⟩,
   ⟨some 77, .load false 1 (.tmp 76), none, [10], [76]⟩,
   ⟨some 78, .iaddr 1 (.tmp 66) (.tmp 67), none, [0, 1, 0, 1, 4, 5, 6, 7, 11], [66, 67]⟩,
   ⟨none, .store 1 (.tmp 78) (.tmp 73), none, [12, 7, 0, 1, 4, 5, 6, 7, 11], [78, 73]⟩,
   ⟨some 79, .iaddr 1 (.tmp 68) (.tmp 69), none, [2, 3, 0, 1, 2, 3, 4, 5, 6, 7, 8, 9, 10, 11, 12, 13], [68, 69]⟩,
   ⟨none, .store 1 (.tmp 79) (.tmp 77), none, [14, 11, 13, 0, 1, 2, 3, 4, 5, 6, 7, 8, 9, 10, 11, 12, 13], [79, 77]⟩])
  (.ghost (.kill [0, 1, 10, 65, 66, 67, 68, 69, 70, 71, 72, 73, 74, 75, 76, 77, 78, 79])))
  (.seq (.region false [
   ⟨some 80, .mv (.tmp 11), none, [], []⟩,
   ⟨some 8, .mv (.tmp 80), none, [], []⟩,
   ⟨some 9, .mv (.cst (.bool true)), none, [], []⟩])
  .ret))
 .skip))
 (.seq (.seq (.region true [
 ⟨some 81, .mv (.tmp 0), none, [], [0]⟩,
 ⟨some 82, .mv (.tmp 10), none, [], [10]⟩,
 ⟨some 83, .mv (.tmp 0), none, [], [0]⟩,
 ⟨some 84, .mv (.tmp 11), none, [], [11]⟩,
 ⟨some 85, .mv (.tmp 0), none, [], [0]⟩,
 ⟨some 86, .mv (.tmp 11), none, [], [11]⟩,
 ⟨some 87, .iaddr 1 (.tmp 85) (.tmp 86), none, [4, 5], [85, 86]⟩,
 ⟨some 88, .load false 1 (.tmp 87), none, [6], [87]⟩,
 ⟨some 89, .mv (.tmp 0), none, [], [0]⟩,
 ⟨some 90, .mv (.tmp 10), none, [], [10]⟩,
 ⟨some 91, .iaddr 1 (.tmp 89) (.tmp 90), none, [8, 9], [89, 90]⟩,
 ⟨some 92, .load false 1 (.tmp 91), none, [10], [91]⟩,
 ⟨some 93, .iaddr 1 (.tmp 81) (.tmp 82), none, [0, 1, 0, 1, 4, 5, 6, 7, 11], [81, 82]⟩,
 ⟨none, .store 1 (.tmp 93) (.tmp 88), none, [12, 7, 0, 1, 4, 5, 6, 7, 11], [93, 88]⟩,
 ⟨some 94, .iaddr 1 (.tmp 83) (.tmp 84), none, [2, 3, 0, 1, 2, 3, 4, 5, 6, 7, 8, 9, 10, 11, 12, 13], [83, 84]⟩,
 ⟨none, .store 1 (.tmp 94) (.tmp 92), none, [14, 11, 13, 0, 1, 2, 3, 4, 5, 6, 7, 8, 9, 10, 11, 12, 13], [94, 92]⟩])
 (.ghost (.kill [65, 81, 82, 83, 84, 85, 86, 87, 88, 89, 90, 91, 92, 93, 94])))
 (.seq (.seq (.region false [
 ⟨some 95, .mv (.tmp 10), none, [], []⟩,
 ⟨some 96, .bin .add (.tmp 95) (.cst (.int .i64 1)), none, [], []⟩,
 ⟨some 10, .mv (.tmp 96), none, [], []⟩])
 (.ghost (.kill [95, 96])))
 (.seq (.seq (.region false [
 ⟨some 97, .mv (.tmp 11), none, [], []⟩,
 ⟨some 98, .bin .sub (.tmp 97) (.cst (.int .i64 1)), none, [], []⟩,
 ⟨some 11, .mv (.tmp 98), none, [], []⟩])
 (.ghost (.kill [97, 98])))
 (.seq (.seq (.block 4 (.loop Xq7.b2))
 (.ghost (.kill [10, 134])))
 Xq7.c0)))))
def Xq7.b1 : ACode := (.seq (.seq (.seq (.region true [
 ⟨some 46, .mv (.tmp 10), none, [], [10]⟩,
 ⟨some 47, .mv (.tmp 11), none, [], [11]⟩,
 ⟨some 48, .bin .leq (.tmp 46) (.tmp 47), none, [0, 1], [46, 47]⟩,
 ⟨some 49, .mv (.tmp 48), none, [2], [48]⟩,
 ⟨some 50, .mv (.tmp 0), (some ((some 49), true)), [3], [0]⟩,
 ⟨some 51, .mv (.tmp 11), (some ((some 49), true)), [3], [11]⟩,
 ⟨some 52, .iaddr 1 (.tmp 50) (.tmp 51), (some ((some 49), true)), [4, 5, 3], [50, 51]⟩,
 ⟨some 53, .load false 1 (.tmp 52), (some ((some 49), true)), [6, 3], [52]⟩,
 ⟨some 54, .mv (.tmp 0), (some ((some 49), true)), [3], [0]⟩,
 ⟨some 55, .mv (.tmp 1), (some ((some 49), true)), [3], [1]⟩,
 ⟨some 56, .iaddr 1 (.tmp 54) (.tmp 55), (some ((some 49), true)), [8, 9, 3], [54, 55]⟩,
 ⟨some 57, .load false 1 (.tmp 56), (some ((some 49), true)), [10, 3], [56]⟩,
 ⟨some 58, .call true i_Xq40 [(.tmp 53), (.tmp 57)], (some ((some 49), true)), [7, 11, 3, 3], [53, 57]⟩,
 ⟨some 59, .un .not (.tmp 58), (some ((some 49), true)), [12, 3], [58]⟩,
 ⟨some 60, .pick (.tmp 49) (.tmp 59) (.cst (.bool false)), none, [3, 13], [49, 59]⟩])
 (.ghost (.kill [46, 47, 48, 49, 50, 51, 52, 53, 54, 55, 56, 57, 58, 59])))
 (.cond (.tmp 60) .skip
 (.exit 2)))
 (.block 3 (.seq (.region false [
 ⟨some 61, .mv (.tmp 11), none, [], []⟩,
 ⟨some 62, .bin .sub (.tmp 61) (.cst (.int .i64 1)), none, [], []⟩,
 ⟨some 11, .mv (.tmp 62), none, [], []⟩])
 (.ghost (.kill [60, 61, 62])))))
def Xq7.c4 : ACode := (.seq (.seq (.block 2 (.loop Xq7.b1))
 (.ghost (.kill [60])))
 Xq7.c3)
def Xq7.b0 : ACode := (.seq (.seq (.seq (.region true [
 ⟨some 30, .mv (.tmp 10), none, [], [10]⟩,
 ⟨some 31, .mv (.tmp 11), none, [], [11]⟩,
 ⟨some 32, .bin .leq (.tmp 30) (.tmp 31), none, [0, 1], [30, 31]⟩,
 ⟨some 33, .mv (.tmp 32), none, [2], [32]⟩,
 ⟨some 34, .mv (.tmp 0), (some ((some 33), true)), [3], [0]⟩,
 ⟨some 35, .mv (.tmp 10), (some ((some 33), true)), [3], [10]⟩,
 ⟨some 36, .iaddr 1 (.tmp 34) (.tmp 35), (some ((some 33), true)), [4, 5, 3], [34, 35]⟩,
 ⟨some 37, .load false 1 (.tmp 36), (some ((some 33), true)), [6, 3], [36]⟩,
 ⟨some 38, .mv (.tmp 0), (some ((some 33), true)), [3], [0]⟩,
 ⟨some 39, .mv (.tmp 1), (some ((some 33), true)), [3], [1]⟩,
 ⟨some 40, .iaddr 1 (.tmp 38) (.tmp 39), (some ((some 33), true)), [8, 9, 3], [38, 39]⟩,
 ⟨some 41, .load false 1 (.tmp 40), (some ((some 33), true)), [10, 3], [40]⟩,
 ⟨some 42, .call true i_Xq40 [(.tmp 37), (.tmp 41)], (some ((some 33), true)), [7, 11, 3, 3], [37, 41]⟩,
 ⟨some 43, .pick (.tmp 33) (.tmp 42) (.cst (.bool false)), none, [3, 12], [33, 42]⟩])
 (.ghost (.kill [30, 31, 32, 33, 34, 35, 36, 37, 38, 39, 40, 41, 42])))
 (.cond (.tmp 43) .skip
 (.exit 0)))
 (.block 1 (.seq (.region false [
 ⟨some 44, .mv (.tmp 10), none, [], []⟩,
 ⟨some 45, .bin .add (.tmp 44) (.cst (.int .i64 1)), none, [], []⟩,
 ⟨some 10, .mv (.tmp 45), none, [], []⟩])
 (.ghost (.kill [43, 44, 45])))))
def Xq7.main : ACode := (.seq (.seq (.region false [
 ⟨some 8, .mv (.cst (.int .i64 0)), none, [], []⟩,
 ⟨some 9, .mv (.cst (.bool false)), none, [], []⟩])
 (.ghost (.kill [8, 9])))
 (.seq (.seq (.region true [
 ⟨some 12, .mv (.tmp 0), none, [], [0]⟩,
 ⟨some 13, .mv (.tmp 1), none, [], [1]⟩,
 ⟨some 14, .mv (.tmp 0), none, [], [0]⟩,
 ⟨some 15, .mv (.tmp 3), none, [], [3]⟩,
 ⟨some 16, .mv (.tmp 0), none, [], [0]⟩,
 ⟨some 17, .mv (.tmp 3), none, [], [3]⟩,
 ⟨some 18, .iaddr 1 (.tmp 16) (.tmp 17), none, [4, 5], [16, 17]⟩,
 ⟨some 19, .load false 1 (.tmp 18), none, [6], [18]⟩,
 ⟨some 20, .mv (.tmp 0), none, [], [0]⟩,
 ⟨some 21, .mv (.tmp 1), none, [], [1]⟩,
 ⟨some 22, .iaddr 1 (.tmp 20) (.tmp 21), none, [8, 9], [20, 21]⟩,
 ⟨some 23, .load false 1 (.tmp 22), none, [10], [22]⟩,
 ⟨some 24, .iaddr 1 (.tmp 12) (.tmp 13), none, [0, 1, 0, 1, 4, 5, 6, 7, 11], [12, 13]⟩,
 ⟨none, .store 1 (.tmp 24) (.tmp 19), none, [12, 7, 0, 1, 4, 5, 6, 7, 11], [24, 19]⟩,
 ⟨some 25, .iaddr 1 (.tmp 14) (.tmp 15), none, [2, 3, 0, 1, 2, 3, 4, 5, 6, 7, 8, 9, 10, 11, 12, 13], [14, 15]⟩,
 ⟨none, .store 1 (.tmp 25) (.tmp 23), none, [14, 11, 13, 0, 1, 2, 3, 4, 5, 6, 7, 8, 9, 10, 11, 12, 13], [25, 23]⟩])
 (.ghost (.kill [3, 12, 13, 14, 15, 16, 17, 18, 19, 20, 21, 22, 23, 24, 25])))
 (.seq (.seq (.region false [
 ⟨some 26, .mv (.tmp 1), none, [], []⟩,
 ⟨some 27, .bin .add (.tmp 26) (.cst (.int .i64 1)), none, [], []⟩,
 ⟨some 28, .mv (.tmp 2), none, [], []⟩,
 ⟨some 29, .bin .sub (.tmp 28) (.cst (.int .i64 1)), none, [], []⟩,
 ⟨some 10, .mv (.tmp 27), none, [], []⟩,
 ⟨some 11, .mv (.tmp 29), none, [], []⟩])
 (.ghost (.kill [2, 26, 27, 28, 29])))
 (.seq (.seq (.block 0 (.loop Xq7.b0))
 (.ghost (.kill [43])))
 Xq7.c4))))
def Xq7.k4 : List Item := [.inBlock 8, .code (.ghost (.kill [129])), .code Xq7.c1, .inBlock 5, .inLoop Xq7.b2, .inBlock 4, .code (.ghost (.kill [10, 134])), .code Xq7.c0]
def Xq7.k3 : List Item := [.inBlock 6, .code (.ghost (.kill [112])), .code Xq7.c2, .inBlock 5, .inLoop Xq7.b2, .inBlock 4, .code (.ghost (.kill [10, 134])), .code Xq7.c0]
def Xq7.k2 : List Item := [.inBlock 4, .code (.ghost (.kill [10, 134])), .code Xq7.c0]
def Xq7.k1 : List Item := [.inBlock 2, .code (.ghost (.kill [60])), .code Xq7.c3]
def Xq7.k0 : List Item := [.inBlock 0, .code (.ghost (.kill [43])), .code Xq7.c4]
def Xq7 : AFunc := ⟨168, [.tmp 8, .tmp 9], Xq7.main, false⟩
def Xq53.c0 : ACode := (.seq (.region false [
 ⟨some 13, .mv (.tmp 2), none, [], []⟩,
 ⟨some 14, .mv (.tmp 0), none, [], []⟩,
 ⟨some 15, .conv .u8 (.tmp 14), none, [], []⟩,
 ⟨some 16, .idxS (.cst (.str ⟨#[0, 1, 2, 2, 3, 3, 3, 3, 4, 4, 4, 4, 4, 4, 4, 4, 5, 5, 5, 5, 5, 5, 5, 5, 5, 5, 5, 5, 5, 5, 5, 5, 6, 6, 6, 6, 6, 6, 6, 6, 6, 6, 6, 6, 6, 6, 6, 6, 6, 6, 6, 6, 6, 6, 6, 6, 6, 6, 6, 6, 6, 6, 6, 6, 7, 7, 7, 7, 7, 7, 7, 7, 7, 7, 7, 7, 7, 7, 7, 7, 7, 7, 7, 7, 7, 7, 7, 7, 7, 7, 7, 7, 7, 7, 7, 7, 7, 7, 7, 7, 7, 7, 7, 7, 7, 7, 7, 7, 7, 7, 7, 7, 7, 7, 7, 7, 7, 7, 7, 7, 7, 7, 7, 7, 7, 7, 7, 7, 8, 8, 8, 8, 8, 8, 8, 8, 8, 8, 8, 8, 8, 8, 8, 8, 8, 8, 8, 8, 8, 8, 8, 8, 8, 8, 8, 8, 8, 8, 8, 8, 8, 8, 8, 8, 8, 8, 8, 8, 8, 8, 8, 8, 8, 8, 8, 8, 8, 8, 8, 8, 8, 8, 8, 8, 8, 8, 8, 8, 8, 8, 8, 8, 8, 8, 8, 8, 8, 8, 8, 8, 8, 8, 8, 8, 8, 8, 8, 8, 8, 8, 8, 8, 8, 8, 8, 8, 8, 8, 8, 8, 8, 8, 8, 8, 8, 8, 8, 8, 8, 8, 8, 8, 8, 8, 8, 8, 8, 8, 8, 8, 8, 8, 8, 8, 8, 8, 8, 8, 8, 8, 8, 8, 8, 8, 8, 8]⟩)) (.tmp 15), none, [], []⟩,
 ⟨some 17, .conv .i64 (.tmp 16), none, [], []⟩,
 ⟨some 18, .bin .add (.tmp 13) (.tmp 17), none, [], []⟩,
 ⟨some 2, .mv (.tmp 18), none, [], []⟩])
 .ret)
def Xq53.c1 : ACode := (.seq (.seq (.seq (.region false [
 ⟨some 7, .mv (.tmp 0), none, [], []⟩,
 ⟨some 8, .bin .geq (.tmp 7) (.cst (.int .u32 256)), none, [], []⟩])
 (.ghost (.kill [7])))
 (.seq (.cond (.tmp 8) (.seq (.seq (.region false [
   ⟨some 9, .mv (.tmp 0), none, [], []⟩,
   ⟨some 10, .bin .shr (.tmp 9) (.cst (.int .u64 8)), none, [], []⟩,
   ⟨some 0, .mv (.tmp 10), none, [], []⟩])
  (.ghost (.kill [8, 9, 10])))
  (.seq (.region false [
   ⟨some 11, .mv (.tmp 2), none, [], []⟩,
   ⟨some 12, .bin .add (.tmp 11) (.cst (.int .i64 8)), none, [], []⟩,
   ⟨some 2, .mv (.tmp 12), none, [], []⟩])
  (.ghost (.kill [11, 12]))))
 .skip)
 (.ghost (.kill [8]))))
 Xq53.c0)
def Xq53.main : ACode := (.seq (.region false [
 ⟨some 2, .mv (.cst (.int .i64 0)), none, [], []⟩])
 (.seq (.seq (.seq (.region false [
 ⟨some 3, .mv (.tmp 0), none, [], []⟩,
 ⟨some 4, .bin .geq (.tmp 3) (.cst (.int .u32 65536)), none, [], []⟩])
 (.ghost (.kill [3])))
 (.seq (.cond (.tmp 4) (.seq (.seq (.region false [
   ⟨some 5, .mv (.tmp 0), none, [], []⟩,
   ⟨some 6, .bin .shr (.tmp 5) (.cst (.int .u64 16)), none, [], []⟩,
   ⟨some 0, .mv (.tmp 6), none, [], []⟩])
  (.ghost (.kill [2, 4, 5, 6])))
  (.region false [
   ⟨some 2, .mv (.cst (.int .i64 16)), none, [], []⟩]))
 .skip)
 (.ghost (.kill [4]))))
 Xq53.c1))
def Xq53 : AFunc := ⟨19, [.tmp 2], Xq53.main, false⟩
def Xq51.c0 : ACode := (.seq (.region false [
 ⟨some 19, .mv (.tmp 2), none, [], []⟩,
 ⟨some 20, .mv (.tmp 0), none, [], []⟩,
 ⟨some 21, .conv .u8 (.tmp 20), none, [], []⟩,
 ⟨some 22, .idxS (.cst (.str ⟨#[0, 1, 2, 2, 3, 3, 3, 3, 4, 4, 4, 4, 4, 4, 4, 4, 5, 5, 5, 5, 5, 5, 5, 5, 5, 5, 5, 5, 5, 5, 5, 5, 6, 6, 6, 6, 6, 6, 6, 6, 6, 6, 6, 6, 6, 6, 6, 6, 6, 6, 6, 6, 6, 6, 6, 6, 6, 6, 6, 6, 6, 6, 6, 6, 7, 7, 7, 7, 7, 7, 7, 7, 7, 7, 7, 7, 7, 7, 7, 7, 7, 7, 7, 7, 7, 7, 7, 7, 7, 7, 7, 7, 7, 7, 7, 7, 7, 7, 7, 7, 7, 7, 7, 7, 7, 7, 7, 7, 7, 7, 7, 7, 7, 7, 7, 7, 7, 7, 7, 7, 7, 7, 7, 7, 7, 7, 7, 7, 8, 8, 8, 8, 8, 8, 8, 8, 8, 8, 8, 8, 8, 8, 8, 8, 8, 8, 8, 8, 8, 8, 8, 8, 8, 8, 8, 8, 8, 8, 8, 8, 8, 8, 8, 8, 8, 8, 8, 8, 8, 8, 8, 8, 8, 8, 8, 8, 8, 8, 8, 8, 8, 8, 8, 8, 8, 8, 8, 8, 8, 8, 8, 8, 8, 8, 8, 8, 8, 8, 8, 8, 8, 8, 8, 8, 8, 8, 8, 8, 8, 8, 8, 8, 8, 8, 8, 8, 8, 8, 8, 8, 8, 8, 8, 8, 8, 8, 8, 8, 8, 8, 8, 8, 8, 8, 8, 8, 8, 8, 8, 8, 8, 8, 8, 8, 8, 8, 8, 8, 8, 8, 8, 8, 8, 8, 8, 8]⟩)) (.tmp 21), none, [], []⟩,
 ⟨some 23, .conv .i64 (.tmp 22), none, [], []⟩,
 ⟨some 24, .bin .add (.tmp 19) (.tmp 23), none, [], []⟩,
 ⟨some 2, .mv (.tmp 24), none, [], []⟩])
 .ret)
def Xq51.c1 : ACode := (.seq (.seq (.seq (.region false [
 ⟨some 13, .mv (.tmp 0), none, [], []⟩,
 ⟨some 14, .bin .geq (.tmp 13) (.cst (.int .u64 256)), none, [], []⟩])
 (.ghost (.kill [13])))
 (.seq (.cond (.tmp 14) (.seq (.seq (.region false [
   ⟨some 15, .mv (.tmp 0), none, [], []⟩,
   ⟨some 16, .bin .shr (.tmp 15) (.cst (.int .u64 8)), none, [], []⟩,
   ⟨some 0, .mv (.tmp 16), none, [], []⟩])
  (.ghost (.kill [14, 15, 16])))
  (.seq (.region false [
   ⟨some 17, .mv (.tmp 2), none, [], []⟩,
   ⟨some 18, .bin .add (.tmp 17) (.cst (.int .i64 8)), none, [], []⟩,
   ⟨some 2, .mv (.tmp 18), none, [], []⟩])
  (.ghost (.kill [17, 18]))))
 .skip)
 (.ghost (.kill [14]))))
 Xq51.c0)
def Xq51.c2 : ACode := (.seq (.seq (.seq (.region false [
 ⟨some 7, .mv (.tmp 0), none, [], []⟩,
 ⟨some 8, .bin .geq (.tmp 7) (.cst (.int .u64 65536)), none, [], []⟩])
 (.ghost (.kill [7])))
 (.seq (.cond (.tmp 8) (.seq (.seq (.region false [
   ⟨some 9, .mv (.tmp 0), none, [], []⟩,
   ⟨some 10, .bin .shr (.tmp 9) (.cst (.int .u64 16)), none, [], []⟩,
   ⟨some 0, .mv (.tmp 10), none, [], []⟩])
  (.ghost (.kill [8, 9, 10])))
  (.seq (.region false [
   ⟨some 11, .mv (.tmp 2), none, [], []⟩,
   ⟨some 12, .bin .add (.tmp 11) (.cst (.int .i64 16)), none, [], []⟩,
   ⟨some 2, .mv (.tmp 12), none, [], []⟩])
  (.ghost (.kill [11, 12]))))
 .skip)
 (.ghost (.kill [8]))))
 Xq51.c1)
def Xq51.main : ACode := (.seq (.region false [
 ⟨some 2, .mv (.cst (.int .i64 0)), none, [], []⟩])
 (.seq (.seq (.seq (.region false [
 ⟨some 3, .mv (.tmp 0), none, [], []⟩,
 ⟨some 4, .bin .geq (.tmp 3) (.cst (.int .u64 4294967296)), none, [], []⟩])
 (.ghost (.kill [3])))
 (.seq (.cond (.tmp 4) (.seq (.seq (.region false [
   ⟨some 5, .mv (.tmp 0), none, [], []⟩,
   ⟨some 6, .bin .shr (.tmp 5) (.cst (.int .u64 32)), none, [], []⟩,
   ⟨some 0, .mv (.tmp 6), none, [], []⟩])
  (.ghost (.kill [2, 4, 5, 6])))
  (.region false [
   ⟨some 2, .mv (.cst (.int .i64 32)), none, [], []⟩]))
 .skip)
 (.ghost (.kill [4]))))
 Xq51.c2))
def Xq51 : AFunc := ⟨25, [.tmp 2], Xq51.main, false⟩
def Xq8.c0 : ACode := (.ghost (.kill [0, 2, 3, 8, 9, 16]))
def Xq8.c1 : ACode := (.seq (.seq (.seq (.region true [
 ⟨some 39, .mv (.tmp 0), none, [], [0]⟩,
 ⟨some 40, .mv (.tmp 3), none, [], [3]⟩,
 ⟨some 41, .mv (.tmp 8), none, [], [8]⟩,
 ⟨some 42, .bin .add (.tmp 40) (.tmp 41), none, [1, 2], [40, 41]⟩,
 ⟨some 43, .iaddr 1 (.tmp 39) (.tmp 42), none, [0, 3], [39, 42]⟩,
 ⟨some 44, .load false 1 (.tmp 43), none, [4], [43]⟩,
 ⟨some 45, .mv (.tmp 0), none, [], [0]⟩,
 ⟨some 46, .mv (.tmp 3), none, [], [3]⟩,
 ⟨some 47, .mv (.tmp 9), none, [], [9]⟩,
 ⟨some 48, .bin .add (.tmp 46) (.tmp 47), none, [7, 8], [46, 47]⟩,
 ⟨some 49, .iaddr 1 (.tmp 45) (.tmp 48), none, [6, 9], [45, 48]⟩,
 ⟨some 50, .load false 1 (.tmp 49), none, [10], [49]⟩,
 ⟨some 51, .call true i_Xq40 [(.tmp 44), (.tmp 50)], none, [5, 11], [44, 50]⟩,
 ⟨some 52, .un .not (.tmp 51), none, [12], [51]⟩])
 (.ghost (.kill [39, 40, 41, 42, 43, 44, 45, 46, 47, 48, 49, 50, 51])))
 (.cond (.tmp 52) .ret
 .skip))
 (.seq (.seq (.region true [
 ⟨some 53, .mv (.tmp 0), none, [], [0]⟩,
 ⟨some 54, .mv (.tmp 3), none, [], [3]⟩,
 ⟨some 55, .mv (.tmp 8), none, [], [8]⟩,
 ⟨some 56, .bin .add (.tmp 54) (.tmp 55), none, [1, 2], [54, 55]⟩,
 ⟨some 57, .mv (.tmp 0), none, [], [0]⟩,
 ⟨some 58, .mv (.tmp 3), none, [], [3]⟩,
 ⟨some 59, .mv (.tmp 9), none, [], [9]⟩,
 ⟨some 60, .bin .add (.tmp 58) (.tmp 59), none, [5, 6], [58, 59]⟩,
 ⟨some 61, .mv (.tmp 0), none, [], [0]⟩,
 ⟨some 62, .mv (.tmp 3), none, [], [3]⟩,
 ⟨some 63, .mv (.tmp 9), none, [], [9]⟩,
 ⟨some 64, .bin .add (.tmp 62) (.tmp 63), none, [9, 10], [62, 63]⟩,
 ⟨some 65, .iaddr 1 (.tmp 61) (.tmp 64), none, [8, 11], [61, 64]⟩,
 ⟨some 66, .load false 1 (.tmp 65), none, [12], [65]⟩,
 ⟨some 67, .mv (.tmp 0), none, [], [0]⟩,
 ⟨some 68, .mv (.tmp 3), none, [], [3]⟩,
 ⟨some 69, .mv (.tmp 8), none, [], [8]⟩,
 ⟨some 70, .bin .add (.tmp 68) (.tmp 69), none, [15, 16], [68, 69]⟩,
 ⟨some 71, .iaddr 1 (.tmp 67) (.tmp 70), none, [14, 17], [67, 70]⟩,
 ⟨some 72, .load false 1 (.tmp 71), none, [18], [71]⟩,
 ⟨some 73, .iaddr 1 (.tmp 53) (.tmp 56), none, [0, 3, 0, 1, 2, 3, 8, 9, 10, 11, 12, 13, 19], [53, 56]⟩,
 ⟨none, .store 1 (.tmp 73) (.tmp 66), none, [20, 13, 0, 1, 2, 3, 8, 9, 10, 11, 12, 13, 19], [73, 66]⟩,
 ⟨some 74, .iaddr 1 (.tmp 57) (.tmp 60), none, [4, 7, 0, 1, 2, 3, 4, 5, 6, 7, 8, 9, 10, 11, 12, 13, 14, 15, 16, 17, 18, 19, 20, 21], [57, 60]⟩,
 ⟨none, .store 1 (.tmp 74) (.tmp 72), none, [22, 19, 21, 0, 1, 2, 3, 4, 5, 6, 7, 8, 9, 10, 11, 12, 13, 14, 15, 16, 17, 18, 19, 20, 21], [74, 72]⟩])
 (.ghost (.kill [8, 52, 53, 54, 55, 56, 57, 58, 59, 60, 61, 62, 63, 64, 65, 66, 67, 68, 69, 70, 71, 72, 73, 74])))
 (.seq (.region false [
 ⟨some 75, .mv (.tmp 9), none, [], []⟩,
 ⟨some 8, .mv (.tmp 75), none, [], []⟩])
 (.ghost (.kill [9, 75])))))
def Xq8.b0 : ACode := (.block 1 (.seq (.seq (.region false [
 ⟨some 11, .mv (.tmp 8), none, [], []⟩,
 ⟨some 12, .bin .mul (.cst (.int .i64 2)) (.tmp 11), none, [], []⟩,
 ⟨some 13, .bin .add (.tmp 12) (.cst (.int .i64 1)), none, [], []⟩,
 ⟨some 9, .mv (.tmp 13), none, [], []⟩])
 (.ghost (.kill [11, 12, 13])))
 (.seq (.seq (.seq (.region false [
 ⟨some 14, .mv (.tmp 9), none, [], []⟩,
 ⟨some 15, .mv (.tmp 2), none, [], []⟩,
 ⟨some 16, .bin .geq (.tmp 14) (.tmp 15), none, [], []⟩])
 (.ghost (.kill [14, 15])))
 (.cond (.tmp 16) (.exit 0)
 .skip))
 (.seq (.seq (.seq (.region true [
 ⟨some 17, .mv (.tmp 9), none, [], [9]⟩,
 ⟨some 18, .bin .add (.tmp 17) (.cst (.int .i64 1)), none, [0], [17]⟩,
 ⟨some 19, .mv (.tmp 2), none, [], [2]⟩,
 ⟨some 20, .bin .lss (.tmp 18) (.tmp 19), none, [1, 2], [18, 19]⟩,
 ⟨some 21, .mv (.tmp 20), none, [3], [20]⟩,
 ⟨some 22, .mv (.tmp 0), (some ((some 21), true)), [4], [0]⟩,
 ⟨some 23, .mv (.tmp 3), (some ((some 21), true)), [4], [3]⟩,
 ⟨some 24, .mv (.tmp 9), (some ((some 21), true)), [4], [9]⟩,
 ⟨some 25, .bin .add (.tmp 23) (.tmp 24), (some ((some 21), true)), [6, 7, 4], [23, 24]⟩,
 ⟨some 26, .iaddr 1 (.tmp 22) (.tmp 25), (some ((some 21), true)), [5, 8, 4], [22, 25]⟩,
 ⟨some 27, .load false 1 (.tmp 26), (some ((some 21), true)), [9, 4], [26]⟩,
 ⟨some 28, .mv (.tmp 0), (some ((some 21), true)), [4], [0]⟩,
 ⟨some 29, .mv (.tmp 3), (some ((some 21), true)), [4], [3]⟩,
 ⟨some 30, .mv (.tmp 9), (some ((some 21), true)), [4], [9]⟩,
 ⟨some 31, .bin .add (.tmp 29) (.tmp 30), (some ((some 21), true)), [12, 13, 4], [29, 30]⟩,
 ⟨some 32, .bin .add (.tmp 31) (.cst (.int .i64 1)), (some ((some 21), true)), [14, 4], [31]⟩,
 ⟨some 33, .iaddr 1 (.tmp 28) (.tmp 32), (some ((some 21), true)), [11, 15, 4], [28, 32]⟩,
 ⟨some 34, .load false 1 (.tmp 33), (some ((some 21), true)), [16, 4], [33]⟩,
 ⟨some 35, .call true i_Xq40 [(.tmp 27), (.tmp 34)], (some ((some 21), true)), [10, 17, 4, 4], [27, 34]⟩,
 ⟨some 36, .pick (.tmp 21) (.tmp 35) (.cst (.bool false)), none, [4, 18], [21, 35]⟩])
 (.ghost (.kill [16, 17, 18, 19, 20, 21, 22, 23, 24, 25, 26, 27, 28, 29, 30, 31, 32, 33, 34, 35])))
 (.seq (.cond (.tmp 36) (.seq (.region false [
   ⟨some 37, .mv (.tmp 9), none, [], []⟩,
   ⟨some 38, .bin .add (.tmp 37) (.cst (.int .i64 1)), none, [], []⟩,
   ⟨some 9, .mv (.tmp 38), none, [], []⟩])
  (.ghost (.kill [36, 37, 38])))
 .skip)
 (.ghost (.kill [36]))))
 Xq8.c1))))
def Xq8.main : ACode := (.seq (.seq (.region false [
 ⟨some 10, .mv (.tmp 1), none, [], []⟩,
 ⟨some 8, .mv (.tmp 10), none, [], []⟩])
 (.ghost (.kill [1, 10])))
 (.seq (.block 0 (.loop Xq8.b0))
 Xq8.c0))
def Xq8.k0 : List Item := [.inBlock 0, .code Xq8.c0]
def Xq8 : AFunc := ⟨76, [], Xq8.main, false⟩
def Xq17.main : ACode := (.seq (.seq (.region false [
 ⟨some 2, .mv (.cst (.int .u64 0)), none, [], []⟩])
 (.ghost (.kill [2])))
 (.seq (.region false [
 ⟨some 3, .mv (.tmp 0), none, [], []⟩,
 ⟨some 4, .conv .u64 (.tmp 3), none, [], []⟩,
 ⟨some 5, .call true i_Xq63 [(.tmp 4)], none, [], []⟩,
 ⟨some 6, .bin .shl (.cst (.int .u64 1)) (.tmp 5), none, [], []⟩,
 ⟨some 2, .mv (.tmp 6), none, [], []⟩])
 .ret))
def Xq17 : AFunc := ⟨7, [.tmp 2], Xq17.main, false⟩
def Xq21.main : ACode := (.seq (.seq (.region false [
 ⟨some 2, .mv (.cst (.int .u64 0)), none, [], []⟩])
 (.ghost (.kill [2])))
 (.seq (.seq (.region true [
 ⟨some 3, .mv (.tmp 0), none, [], [0]⟩,
 ⟨some 4, .nilck (.tmp 3), none, [0], [3]⟩,
 ⟨some 5, .load false 1 (.tmp 4), none, [1], [4]⟩,
 ⟨some 6, .mv (.tmp 0), none, [], [0]⟩,
 ⟨some 7, .nilck (.tmp 6), none, [3], [6]⟩,
 ⟨some 8, .load false 1 (.tmp 7), none, [4], [7]⟩,
 ⟨some 9, .bin .shl (.tmp 8) (.cst (.int .u64 13)), none, [5], [8]⟩,
 ⟨some 10, .bin .xor (.tmp 5) (.tmp 9), none, [2, 6], [5, 9]⟩,
 ⟨some 11, .nilck (.tmp 3), none, [0, 0, 1, 2, 3, 4, 5, 6, 7], [3]⟩,
 ⟨none, .store 1 (.tmp 11) (.tmp 10), none, [8, 7, 0, 1, 2, 3, 4, 5, 6, 7], [11, 10]⟩])
 (.ghost (.kill [3, 4, 5, 6, 7, 8, 9, 10, 11])))
 (.seq (.seq (.region true [
 ⟨some 12, .mv (.tmp 0), none, [], [0]⟩,
 ⟨some 13, .nilck (.tmp 12), none, [0], [12]⟩,
 ⟨some 14, .load false 1 (.tmp 13), none, [1], [13]⟩,
 ⟨some 15, .mv (.tmp 0), none, [], [0]⟩,
 ⟨some 16, .nilck (.tmp 15), none, [3], [15]⟩,
 ⟨some 17, .load false 1 (.tmp 16), none, [4], [16]⟩,
 ⟨some 18, .bin .shr (.tmp 17) (.cst (.int .u64 7)), none, [5], [17]⟩,
 ⟨some 19, .bin .xor (.tmp 14) (.tmp 18), none, [2, 6], [14, 18]⟩,
 ⟨some 20, .nilck (.tmp 12), none, [0, 0, 1, 2, 3, 4, 5, 6, 7], [12]⟩,
 ⟨none, .store 1 (.tmp 20) (.tmp 19), none, [8, 7, 0, 1, 2, 3, 4, 5, 6, 7], [20, 19]⟩])
 (.ghost (.kill [12, 13, 14, 15, 16, 17, 18, 19, 20])))
 (.seq (.seq (.region true [
 ⟨some 21, .mv (.tmp 0), none, [], [0]⟩,
 ⟨some 22, .nilck (.tmp 21), none, [0], [21]⟩,
 ⟨some 23, .load false 1 (.tmp 22), none, [1], [22]⟩,
 ⟨some 24, .mv (.tmp 0), none, [], [0]⟩,
 ⟨some 25, .nilck (.tmp 24), none, [3], [24]⟩,
 ⟨some 26, .load false 1 (.tmp 25), none, [4], [25]⟩,
 ⟨some 27, .bin .shl (.tmp 26) (.cst (.int .u64 17)), none, [5], [26]⟩,
 ⟨some 28, .bin .xor (.tmp 23) (.tmp 27), none, [2, 6], [23, 27]⟩,
 ⟨some 29, .nilck (.tmp 21), none, [0, 0, 1, 2, 3, 4, 5, 6, 7], [21]⟩,
 ⟨none, .store 1 (.tmp 29) (.tmp 28), none, [8, 7, 0, 1, 2, 3, 4, 5, 6, 7], [29, 28]⟩])
 (.ghost (.kill [21, 22, 23, 24, 25, 26, 27, 28, 29])))
 (.seq (.region false [
 ⟨some 30, .mv (.tmp 0), none, [], []⟩,
 ⟨some 31, .nilck (.tmp 30), none, [], []⟩,
 ⟨some 32, .load false 1 (.tmp 31), none, [], []⟩,
 ⟨some 2, .mv (.tmp 32), none, [], []⟩])
 .ret)))))
def Xq21 : AFunc := ⟨33, [.tmp 2], Xq21.main, false⟩
def Xq1.main : ACode := (.seq (.seq (.region false [
 ⟨some 6, .mv (.cst (.int .i64 0)), none, [], []⟩])
 (.ghost (.kill [6])))
 (.seq (.region false [
 ⟨some 7, .mv (.tmp 0), none, [], []⟩,
 ⟨some 8, .mv (.tmp 1), none, [], []⟩,
 ⟨some 9, .bin .sub (.tmp 8) (.cst (.int .i64 1)), none, [], []⟩,
 ⟨some 10, .mv (.tmp 1), none, [], []⟩,
 ⟨some 11, .mv (.tmp 1), none, [], []⟩,
 ⟨some 12, .bin .add (.tmp 11) (.cst (.int .i64 1)), none, [], []⟩,
 ⟨some 13, .mv (.tmp 2), none, [], []⟩,
 ⟨some 14, .call false i_Xq13 [(.tmp 7), (.tmp 9), (.tmp 10), (.tmp 12), (.tmp 13)], none, [], []⟩,
 ⟨some 6, .mv (.tmp 14), none, [], []⟩])
 .ret))
def Xq1 : AFunc := ⟨15, [.tmp 6], Xq1.main, false⟩
def Xq13.main : ACode := (.seq (.seq (.region false [
 ⟨some 10, .mv (.cst (.int .i64 0)), none, [], []⟩])
 (.ghost (.kill [10])))
 (.seq (.seq (.region false [
 ⟨some 12, .mv (.tmp 0), none, [], []⟩,
 ⟨some 13, .mv (.tmp 1), none, [], []⟩,
 ⟨some 14, .mv (.tmp 2), none, [], []⟩,
 ⟨some 15, .mv (.tmp 4), none, [], []⟩,
 ⟨some 16, .call false i_Xq12 [(.tmp 12), (.tmp 13), (.tmp 14), (.tmp 15)], none, [], []⟩,
 ⟨some 11, .mv (.tmp 16), none, [], []⟩,
 ⟨some 17, .extr (.tmp 11) 0, none, [], []⟩,
 ⟨some 18, .extr (.tmp 11) 1, none, [], []⟩,
 ⟨some 1, .mv (.tmp 17), none, [], []⟩,
 ⟨some 2, .mv (.tmp 18), none, [], []⟩])
 (.ghost (.kill [11, 12, 13, 14, 15, 16, 17, 18])))
 (.seq (.seq (.region false [
 ⟨some 20, .mv (.tmp 0), none, [], []⟩,
 ⟨some 21, .mv (.tmp 2), none, [], []⟩,
 ⟨some 22, .mv (.tmp 3), none, [], []⟩,
 ⟨some 23, .mv (.tmp 4), none, [], []⟩,
 ⟨some 24, .call false i_Xq12 [(.tmp 20), (.tmp 21), (.tmp 22), (.tmp 23)], none, [], []⟩,
 ⟨some 19, .mv (.tmp 24), none, [], []⟩,
 ⟨some 25, .extr (.tmp 19) 0, none, [], []⟩,
 ⟨some 26, .extr (.tmp 19) 1, none, [], []⟩,
 ⟨some 2, .mv (.tmp 25), none, [], []⟩,
 ⟨some 3, .mv (.tmp 26), none, [], []⟩])
 (.ghost (.kill [3, 19, 20, 21, 22, 23, 24, 25, 26])))
 (.seq (.seq (.region false [
 ⟨some 28, .mv (.tmp 0), none, [], []⟩,
 ⟨some 29, .mv (.tmp 1), none, [], []⟩,
 ⟨some 30, .mv (.tmp 2), none, [], []⟩,
 ⟨some 31, .mv (.tmp 4), none, [], []⟩,
 ⟨some 32, .call false i_Xq12 [(.tmp 28), (.tmp 29), (.tmp 30), (.tmp 31)], none, [], []⟩,
 ⟨some 27, .mv (.tmp 32), none, [], []⟩,
 ⟨some 33, .extr (.tmp 27) 0, none, [], []⟩,
 ⟨some 34, .extr (.tmp 27) 1, none, [], []⟩,
 ⟨some 1, .mv (.tmp 33), none, [], []⟩,
 ⟨some 2, .mv (.tmp 34), none, [], []⟩])
 (.ghost (.kill [0, 1, 4, 27, 28, 29, 30, 31, 32, 33, 34])))
 (.seq (.region false [
 ⟨some 35, .mv (.tmp 2), none, [], []⟩,
 ⟨some 10, .mv (.tmp 35), none, [], []⟩])
 .ret)))))
def Xq13 : AFunc := ⟨36, [.tmp 10], Xq13.main, false⟩
def Xq31.main : ACode := (.seq (.seq (.region false [
 ⟨some 2, .mv (.cst (.bool false)), none, [], []⟩])
 (.ghost (.kill [2])))
 (.seq (.region false [
 ⟨some 3, .mv (.tmp 0), none, [], []⟩,
 ⟨some 4, .mv (.tmp 0), none, [], []⟩,
 ⟨some 5, .bin .neq (.tmp 3) (.tmp 4), none, [], []⟩,
 ⟨some 2, .mv (.tmp 5), none, [], []⟩])
 .ret))
def Xq31 : AFunc := ⟨6, [.tmp 2], Xq31.main, false⟩
def Xq12.main : ACode := (.seq (.seq (.region false [
 ⟨some 8, .mv (.cst (.int .i64 0)), none, [], []⟩,
 ⟨some 9, .mv (.cst (.int .i64 0)), none, [], []⟩])
 (.ghost (.kill [8, 9])))
 (.seq (.seq (.seq (.region true [
 ⟨some 10, .mv (.tmp 0), none, [], [0]⟩,
 ⟨some 11, .mv (.tmp 2), none, [], [2]⟩,
 ⟨some 12, .iaddr 1 (.tmp 10) (.tmp 11), none, [0, 1], [10, 11]⟩,
 ⟨some 13, .load false 1 (.tmp 12), none, [2], [12]⟩,
 ⟨some 14, .mv (.tmp 0), none, [], [0]⟩,
 ⟨some 15, .mv (.tmp 1), none, [], [1]⟩,
 ⟨some 16, .iaddr 1 (.tmp 14) (.tmp 15), none, [4, 5], [14, 15]⟩,
 ⟨some 17, .load false 1 (.tmp 16), none, [6], [16]⟩,
 ⟨some 18, .call true i_Xq40 [(.tmp 13), (.tmp 17)], none, [3, 7], [13, 17]⟩])
 (.ghost (.kill [0, 10, 11, 12, 13, 14, 15, 16, 17])))
 (.cond (.tmp 18) (.seq (.seq (.region false [
   ⟨some 19, .mv (.tmp 3), none, [], []⟩,
   ⟨some 20, .nilck (.tmp 19), none, [], []⟩,
   ⟨some 21, .load false 1 (.tmp 20), none, [], []⟩,
   ⟨some 22, .bin .add (.tmp 21) (.cst (.int .i64 1)), none, [], []⟩,
   ⟨some 23, .nilck (.tmp 19), none, [], []⟩,
   ⟨none, .store 1 (.tmp 23) (.tmp 22), none, [], []⟩])
  (.ghost (.kill [3, 18, 19, 20, 21, 22, 23])))
  (.seq (.region false [
   ⟨some 24, .mv (.tmp 2), none, [], []⟩,
   ⟨some 25, .mv (.tmp 1), none, [], []⟩,
   ⟨some 8, .mv (.tmp 24), none, [], []⟩,
   ⟨some 9, .mv (.tmp 25), none, [], []⟩])
  .ret))
 .skip))
 (.seq (.region false [
 ⟨some 26, .mv (.tmp 1), none, [], []⟩,
 ⟨some 27, .mv (.tmp 2), none, [], []⟩,
 ⟨some 8, .mv (.tmp 26), none, [], []⟩,
 ⟨some 9, .mv (.tmp 27), none, [], []⟩])
 .ret)))
def Xq12 : AFunc := ⟨28, [.tmp 8, .tmp 9], Xq12.main, false⟩
def T : FuncId → Option AFunc
 | 6 => some Xq42
 | 7 => some Xq32
 | 9 => some Xq41
 | 10 => some Xq64
 | 11 => some Xq48
 | 12 => some Xq45
 | 13 => some Xq59
 | 14 => some Xq57
 | 15 => some Xq52
 | 17 => some Xq65
 | 19 => some Xq55
 | 21 => some Xq62
 | 23 => some Xq60
 | 25 => some Xq47
 | 27 => some Xq56
 | 28 => some Xq28
 | 29 => some Xq58
 | 30 => some Xq29
 | 31 => some Xq34
 | 32 => some Xq10
 | 33 => some Xq43
 | 35 => some Xq61
 | 36 => some Xq54
 | 39 => some Xq50
 | 40 => some Xq49
 | 41 => some Xq66
 | 42 => some Xq16
 | 43 => some Xq46
 | 44 => some Xq25
 | 45 => some Xq27
 | 49 => some Xq30
 | 50 => some Xq44
 | 51 => some Xq35
 | 52 => some Xq33
 | 53 => some Xq37
 | 54 => some Xq39
 | 55 => some Xq38
 | 56 => some Xq36
 | 57 => some Xq18
 | 58 => some Xq19
 | 59 => some Xq23
 | 60 => some Xq20
 | 61 => some Xq22
 | 62 => some Xq24
 | 63 => some Xq26
 | 64 => some Xq11
 | 65 => some Xq63
 | 66 => some Xq15
 | 67 => some Xq14
 | 68 => some Xq4
 | 69 => some Xq9
 | 70 => some Xq3
 | 71 => some Xq6
 | 72 => some Xq5
 | 73 => some Xq0
 | 74 => some Xq40
 | 75 => some Xq2
 | 76 => some Xq7
 | 77 => some Xq53
 | 78 => some Xq51
 | 79 => some Xq8
 | 80 => some Xq17
 | 81 => some Xq21
 | 82 => some Xq1
 | 83 => some Xq13
 | 84 => some Xq31
 | 85 => some Xq12
 | _ => none
theorem T_Xq42 : T i_Xq42 = some Xq42 := rfl
theorem T_Xq32 : T i_Xq32 = some Xq32 := rfl
theorem T_Xq41 : T i_Xq41 = some Xq41 := rfl
theorem T_Xq64 : T i_Xq64 = some Xq64 := rfl
theorem T_Xq48 : T i_Xq48 = some Xq48 := rfl
theorem T_Xq45 : T i_Xq45 = some Xq45 := rfl
theorem T_Xq59 : T i_Xq59 = some Xq59 := rfl
theorem T_Xq57 : T i_Xq57 = some Xq57 := rfl
theorem T_Xq52 : T i_Xq52 = some Xq52 := rfl
theorem T_Xq65 : T i_Xq65 = some Xq65 := rfl
theorem T_Xq55 : T i_Xq55 = some Xq55 := rfl
theorem T_Xq62 : T i_Xq62 = some Xq62 := rfl
theorem T_Xq60 : T i_Xq60 = some Xq60 := rfl
theorem T_Xq47 : T i_Xq47 = some Xq47 := rfl
theorem T_Xq56 : T i_Xq56 = some Xq56 := rfl
theorem T_Xq28 : T i_Xq28 = some Xq28 := rfl
theorem T_Xq58 : T i_Xq58 = some Xq58 := rfl
theorem T_Xq29 : T i_Xq29 = some Xq29 := rfl
theorem T_Xq34 : T i_Xq34 = some Xq34 := rfl
theorem T_Xq10 : T i_Xq10 = some Xq10 := rfl
theorem T_Xq43 : T i_Xq43 = some Xq43 := rfl
theorem T_Xq61 : T i_Xq61 = some Xq61 := rfl
theorem T_Xq54 : T i_Xq54 = some Xq54 := rfl
theorem T_Xq50 : T i_Xq50 = some Xq50 := rfl
theorem T_Xq49 : T i_Xq49 = some Xq49 := rfl
theorem T_Xq66 : T i_Xq66 = some Xq66 := rfl
theorem T_Xq16 : T i_Xq16 = some Xq16 := rfl
theorem T_Xq46 : T i_Xq46 = some Xq46 := rfl
theorem T_Xq25 : T i_Xq25 = some Xq25 := rfl
theorem T_Xq27 : T i_Xq27 = some Xq27 := rfl
theorem T_Xq30 : T i_Xq30 = some Xq30 := rfl
theorem T_Xq44 : T i_Xq44 = some Xq44 := rfl
theorem T_Xq35 : T i_Xq35 = some Xq35 := rfl
theorem T_Xq33 : T i_Xq33 = some Xq33 := rfl
theorem T_Xq37 : T i_Xq37 = some Xq37 := rfl
theorem T_Xq39 : T i_Xq39 = some Xq39 := rfl
theorem T_Xq38 : T i_Xq38 = some Xq38 := rfl
theorem T_Xq36 : T i_Xq36 = some Xq36 := rfl
theorem T_Xq18 : T i_Xq18 = some Xq18 := rfl
theorem T_Xq19 : T i_Xq19 = some Xq19 := rfl
theorem T_Xq23 : T i_Xq23 = some Xq23 := rfl
theorem T_Xq20 : T i_Xq20 = some Xq20 := rfl
theorem T_Xq22 : T i_Xq22 = some Xq22 := rfl
theorem T_Xq24 : T i_Xq24 = some Xq24 := rfl
theorem T_Xq26 : T i_Xq26 = some Xq26 := rfl
theorem T_Xq11 : T i_Xq11 = some Xq11 := rfl
theorem T_Xq63 : T i_Xq63 = some Xq63 := rfl
theorem T_Xq15 : T i_Xq15 = some Xq15 := rfl
theorem T_Xq14 : T i_Xq14 = some Xq14 := rfl
theorem T_Xq4 : T i_Xq4 = some Xq4 := rfl
theorem T_Xq9 : T i_Xq9 = some Xq9 := rfl
theorem T_Xq3 : T i_Xq3 = some Xq3 := rfl
theorem T_Xq6 : T i_Xq6 = some Xq6 := rfl
theorem T_Xq5 : T i_Xq5 = some Xq5 := rfl
theorem T_Xq0 : T i_Xq0 = some Xq0 := rfl
theorem T_Xq40 : T i_Xq40 = some Xq40 := rfl
theorem T_Xq2 : T i_Xq2 = some Xq2 := rfl
theorem T_Xq7 : T i_Xq7 = some Xq7 := rfl
theorem T_Xq53 : T i_Xq53 = some Xq53 := rfl
theorem T_Xq51 : T i_Xq51 = some Xq51 := rfl
theorem T_Xq8 : T i_Xq8 = some Xq8 := rfl
theorem T_Xq17 : T i_Xq17 = some Xq17 := rfl
theorem T_Xq21 : T i_Xq21 = some Xq21 := rfl
theorem T_Xq1 : T i_Xq1 = some Xq1 := rfl
theorem T_Xq13 : T i_Xq13 = some Xq13 := rfl
theorem T_Xq31 : T i_Xq31 = some Xq31 := rfl
theorem T_Xq12 : T i_Xq12 = some Xq12 := rfl
end Go.Abs
