/- The functions of the program as terms of the abstract machine, printed by wip/gen/gen.py, with marks. -/
import Derived.Test.YtaiibojjndeipaaJAbsCore
set_option linter.all false
namespace Go.Abs
open Go
def i_l20_CutMatchesReference : FuncId := 3
def i_l20_CutLattice : FuncId := 4
def i_l20_CutGreatest : FuncId := 5
def i_l20_CutOrder : FuncId := 6
def i_l20_CutCausal : FuncId := 7
def i_l20_CutClosures : FuncId := 8
def i_l20_examples : FuncId := 9
def i_l20_short : FuncId := 10
def i_r20_Headers : FuncId := 11
def i_l20_spoiled : FuncId := 12
def i_r20_CutOf : FuncId := 13
def i_r20_Limit : FuncId := 14
def i_r20_All : FuncId := 15
def i_cut_Valid : FuncId := 16
def i_r20_Valid : FuncId := 17
def i_cut_Leq : FuncId := 18
def i_r20_Leq : FuncId := 19
def i_cut_Has : FuncId := 20
def i_r20_Has : FuncId := 21
def i_r20_Alike : FuncId := 22
def i_l20_join : FuncId := 23
def i_r20_JoinIn : FuncId := 24
def i_l20_meet : FuncId := 25
def i_r20_MeetIn : FuncId := 26
def i_cut_Consistent : FuncId := 27
def i_r20_Consistent : FuncId := 28
def i_l20_order : FuncId := 29
def i_r20_OrderIn : FuncId := 30
def i_cut_Closed : FuncId := 31
def i_r20_Closed : FuncId := 32
def i_l20_greatest : FuncId := 33
def i_r20_GreatestIn : FuncId := 34
def i_r20_Same : FuncId := 35
def i_cut_WellFormed : FuncId := 36
def i_r20_WellFormed : FuncId := 37
def i_cut_Sees : FuncId := 38
def i_r20_Sees : FuncId := 39
def i_cut_Before : FuncId := 40
def i_r20_Before : FuncId := 41
def i_l20_closure : FuncId := 42
def i_r20_ClosureIn : FuncId := 43
def i_r20_Shuffled : FuncId := 44
def i_l20_fits : FuncId := 45
def i_r20_SameNames : FuncId := 46
def i_r20_Names : FuncId := 47
def i_l20_chosen : FuncId := 48
def i_r20_Zero : FuncId := 49
def i_r20_Own : FuncId := 50
def i_slices_ContainsFunc_int : FuncId := 51
def i_cut_Valid_1 : FuncId := 52
def i_cut_Join : FuncId := 53
def i_cut_Meet : FuncId := 54
def i_cut_indices : FuncId := 55
def i_slices_ContainsFunc_Commit : FuncId := 56
def i_cut_Consistent_1 : FuncId := 57
def i_r20_Find : FuncId := 58
def i_r20_known : FuncId := 59
def i_cut_Order : FuncId := 60
def i_slices_Clone_int : FuncId := 61
def i_cut_reach : FuncId := 62
def i_slices_Equal_int : FuncId := 63
def i_r20_fits : FuncId := 64
def i_cut_Greatest : FuncId := 65
def i_cut_compare : FuncId := 66
def i_r20_Weight : FuncId := 67
def i_cut_Closure : FuncId := 68
def i_slices_IndexFunc_int : FuncId := 69
def i_cut_merge : FuncId := 70
def i_cut_Join_1 : FuncId := 71
def i_cut_Meet_1 : FuncId := 72
def i_slices_IndexFunc_Commit : FuncId := 73
def i_slices_SortFunc_int : FuncId := 74
def i_cut_Order_1 : FuncId := 75
def i_cmp_Or_int : FuncId := 76
def i_cmp_Compare_int : FuncId := 77
def i_cut_weight : FuncId := 78
def i_cut_Closure_1 : FuncId := 79
def i_slices_pdqsortCmpFunc_int : FuncId := 80
def i_bits_Len : FuncId := 81
def i_cmp_isNaN_int : FuncId := 82
def i_slices_insertionSortCmpFunc_int : FuncId := 83
def i_slices_heapSortCmpFunc_int : FuncId := 84
def i_slices_breakPatternsCmpFunc_int : FuncId := 85
def i_slices_choosePivotCmpFunc_int : FuncId := 86
def i_slices_reverseRangeCmpFunc_int : FuncId := 87
def i_slices_partialInsertionSortCmpFunc_int : FuncId := 88
def i_slices_partitionEqualCmpFunc_int : FuncId := 89
def i_slices_partitionCmpFunc_int : FuncId := 90
def i_bits_Len32 : FuncId := 91
def i_bits_Len64 : FuncId := 92
def i_slices_siftDownCmpFunc_int : FuncId := 93
def i_slices_nextPowerOfTwo : FuncId := 94
def i_slices_xorshift_Next : FuncId := 95
def i_slices_medianAdjacentCmpFunc_int : FuncId := 96
def i_slices_medianCmpFunc_int : FuncId := 97
def i_slices_order2CmpFunc_int : FuncId := 98
/-- chapman/chapmanlaw20.CutLattice -/
def l20_CutLattice.main : ACode := (.seq (.seq (.region false [
 ⟨some 3, .box 3 (.tmp 1), none, [], []⟩,
 ⟨some 4, .mv (.cst (.bool false)), none, [], []⟩])
  (.ghost (.kill [1, 4])))
  (.seq (.seq (.region false [
 ⟨some 12, .call true i_l20_examples [], none, [], []⟩,
 ⟨some 5, .mv (.tmp 12), none, [], []⟩])
  (.ghost (.kill [12])))
  (.seq (.seq (.seq (.region false [
 ⟨some 13, .mv (.tmp 5), none, [], []⟩,
 ⟨some 14, .un .not (.tmp 13), none, [], []⟩])
  (.ghost (.kill [13])))
  (.cond (.tmp 14) (.seq (.region false [
      ⟨some 4, .mv (.cst (.bool false)), none, [], []⟩])
    .ret)
  .skip))
  (.seq (.seq (.region false [
 ⟨some 15, .mv (.tmp 0), none, [], []⟩,
 ⟨some 16, .call true i_r20_Headers [(.tmp 15)], none, [], []⟩,
 ⟨some 6, .mv (.tmp 16), none, [], []⟩])
  (.ghost (.kill [0, 14, 15, 16])))
  (.seq (.seq (.region true [
 ⟨some 17, .mv (.tmp 6), none, [], [6]⟩,
 ⟨some 18, .iaddrA 3 1 (.tmp 3) (.cst (.int .i64 0)), none, [], [3]⟩,
 ⟨some 19, .load false 1 (.tmp 18), none, [1], [18]⟩,
 ⟨some 20, .call true i_r20_CutOf [(.tmp 17), (.tmp 19)], none, [0, 2], [17, 19]⟩,
 ⟨some 21, .mv (.tmp 6), none, [], [6]⟩,
 ⟨some 22, .iaddrA 3 1 (.tmp 3) (.cst (.int .i64 1)), none, [], [3]⟩,
 ⟨some 23, .load false 1 (.tmp 22), none, [5], [22]⟩,
 ⟨some 24, .call true i_r20_CutOf [(.tmp 21), (.tmp 23)], none, [4, 6, 3], [21, 23]⟩,
 ⟨some 25, .mv (.tmp 6), none, [], [6]⟩,
 ⟨some 26, .iaddrA 3 1 (.tmp 3) (.cst (.int .i64 2)), none, [], [3]⟩,
 ⟨some 27, .load false 1 (.tmp 26), none, [9], [26]⟩,
 ⟨some 28, .call true i_r20_CutOf [(.tmp 25), (.tmp 27)], none, [8, 10, 7], [25, 27]⟩,
 ⟨some 7, .mv (.tmp 20), none, [3, 11, 0, 1, 2, 3], [20]⟩,
 ⟨some 8, .mv (.tmp 24), none, [7, 12, 0, 1, 2, 3, 4, 5, 6, 7, 12], [24]⟩,
 ⟨some 9, .mv (.tmp 28), none, [11, 13, 0, 1, 2, 3, 4, 5, 6, 7, 8, 9, 10, 11, 12, 13], [28]⟩])
  (.ghost (.kill [3, 17, 18, 19, 20, 21, 22, 23, 24, 25, 26, 27, 28])))
  (.seq (.seq (.region false [
 ⟨some 29, .mv (.tmp 7), none, [], []⟩,
 ⟨some 30, .mv (.tmp 8), none, [], []⟩,
 ⟨some 31, .call true i_l20_join [(.tmp 29), (.tmp 30)], none, [], []⟩,
 ⟨some 32, .mv (.tmp 7), none, [], []⟩,
 ⟨some 33, .mv (.tmp 8), none, [], []⟩,
 ⟨some 34, .call true i_l20_meet [(.tmp 32), (.tmp 33)], none, [], []⟩,
 ⟨some 10, .alloc [.nils, (.int .i64 0)], none, [], []⟩,
 ⟨some 11, .alloc [.nils, (.int .i64 0)], none, [], []⟩,
 ⟨none, .store 2 (.tmp 10) (.tmp 31), none, [], []⟩,
 ⟨none, .store 2 (.tmp 11) (.tmp 34), none, [], []⟩])
  (.ghost (.kill [29, 30, 31, 32, 33, 34])))
  (.seq (.seq (.seq (.region true [
 ⟨some 35, .faddr 1 (.tmp 10), none, [], [10]⟩,
 ⟨some 36, .load false 1 (.tmp 35), none, [0], [35]⟩,
 ⟨some 37, .bin .neq (.tmp 36) (.cst (.int .i64 0)), none, [1], [36]⟩,
 ⟨some 38, .mv (.tmp 37), none, [2], [37]⟩,
 ⟨some 39, .faddr 1 (.tmp 11), (some ((some 38), false)), [3], [11]⟩,
 ⟨some 40, .load false 1 (.tmp 39), (some ((some 38), false)), [4, 3], [39]⟩,
 ⟨some 41, .bin .neq (.tmp 40) (.cst (.int .i64 0)), (some ((some 38), false)), [5, 3], [40]⟩,
 ⟨some 42, .pick (.tmp 38) (.cst (.bool true)) (.tmp 41), none, [3, 6], [38, 41]⟩,
 ⟨some 43, .mv (.tmp 42), none, [7, 3], [42]⟩,
 ⟨some 44, .mv (.tmp 6), (some ((some 43), false)), [8], [6]⟩,
 ⟨some 45, .faddr 0 (.tmp 10), (some ((some 43), false)), [8], [10]⟩,
 ⟨some 46, .load false 1 (.tmp 45), (some ((some 43), false)), [10, 8], [45]⟩,
 ⟨some 47, .call true i_cut_Closed [(.tmp 44), (.tmp 46)], (some ((some 43), false)), [9, 11, 8, 8], [44, 46]⟩,
 ⟨some 48, .un .not (.tmp 47), (some ((some 43), false)), [12, 8], [47]⟩,
 ⟨some 49, .pick (.tmp 43) (.cst (.bool true)) (.tmp 48), none, [8, 13], [43, 48]⟩,
 ⟨some 50, .mv (.tmp 49), none, [14, 12], [49]⟩,
 ⟨some 51, .mv (.tmp 6), (some ((some 50), false)), [15], [6]⟩,
 ⟨some 52, .faddr 0 (.tmp 11), (some ((some 50), false)), [15], [11]⟩,
 ⟨some 53, .load false 1 (.tmp 52), (some ((some 50), false)), [17, 15], [52]⟩,
 ⟨some 54, .call true i_cut_Closed [(.tmp 51), (.tmp 53)], (some ((some 50), false)), [16, 18, 15, 15], [51, 53]⟩,
 ⟨some 55, .un .not (.tmp 54), (some ((some 50), false)), [19, 15], [54]⟩,
 ⟨some 56, .pick (.tmp 50) (.cst (.bool true)) (.tmp 55), none, [15, 20], [50, 55]⟩,
 ⟨some 57, .mv (.tmp 56), none, [21, 19], [56]⟩,
 ⟨some 58, .mv (.tmp 8), (some ((some 57), false)), [22], [8]⟩,
 ⟨some 59, .mv (.tmp 7), (some ((some 57), false)), [22], [7]⟩,
 ⟨some 60, .call true i_l20_join [(.tmp 58), (.tmp 59)], (some ((some 57), false)), [23, 24, 22, 22], [58, 59]⟩,
 ⟨some 61, .load true 2 (.tmp 10), (some ((some 57), false)), [22], [10]⟩,
 ⟨some 62, .call true i_r20_Alike [(.tmp 60), (.tmp 61)], (some ((some 57), false)), [25, 26, 25, 22], [60, 61]⟩,
 ⟨some 63, .un .not (.tmp 62), (some ((some 57), false)), [27, 22], [62]⟩,
 ⟨some 64, .pick (.tmp 57) (.cst (.bool true)) (.tmp 63), none, [22, 28], [57, 63]⟩,
 ⟨some 65, .mv (.tmp 64), none, [29, 27], [64]⟩,
 ⟨some 66, .mv (.tmp 8), (some ((some 65), false)), [30], [8]⟩,
 ⟨some 67, .mv (.tmp 7), (some ((some 65), false)), [30], [7]⟩,
 ⟨some 68, .call true i_l20_meet [(.tmp 66), (.tmp 67)], (some ((some 65), false)), [31, 32, 30, 30], [66, 67]⟩,
 ⟨some 69, .load true 2 (.tmp 11), (some ((some 65), false)), [30], [11]⟩,
 ⟨some 70, .call true i_r20_Alike [(.tmp 68), (.tmp 69)], (some ((some 65), false)), [33, 34, 33, 30], [68, 69]⟩,
 ⟨some 71, .un .not (.tmp 70), (some ((some 65), false)), [35, 30], [70]⟩,
 ⟨some 72, .pick (.tmp 65) (.cst (.bool true)) (.tmp 71), none, [30, 36], [65, 71]⟩])
  (.ghost (.kill [6, 35, 36, 37, 38, 39, 40, 41, 42, 43, 44, 45, 46, 47, 48, 49, 50, 51, 52, 53, 54, 55, 56, 57, 58, 59, 60, 61, 62, 63, 64, 65, 66, 67, 68, 69, 70, 71])))
  (.cond (.tmp 72) (.seq (.region false [
      ⟨some 4, .mv (.cst (.bool false)), none, [], []⟩])
    .ret)
  .skip))
  (.seq (.seq (.seq (.region false [
 ⟨some 73, .faddr 0 (.tmp 10), none, [], []⟩,
 ⟨some 74, .load false 1 (.tmp 73), none, [], []⟩,
 ⟨some 75, .mv (.tmp 9), none, [], []⟩,
 ⟨some 76, .call true i_l20_join [(.tmp 74), (.tmp 75)], none, [], []⟩,
 ⟨some 77, .mv (.tmp 7), none, [], []⟩,
 ⟨some 78, .mv (.tmp 8), none, [], []⟩,
 ⟨some 79, .mv (.tmp 9), none, [], []⟩,
 ⟨some 80, .call true i_l20_join [(.tmp 78), (.tmp 79)], none, [], []⟩,
 ⟨some 81, .field 0 1 false (.tmp 80), none, [], []⟩,
 ⟨some 82, .call true i_l20_join [(.tmp 77), (.tmp 81)], none, [], []⟩,
 ⟨some 83, .call true i_r20_Alike [(.tmp 76), (.tmp 82)], none, [], []⟩,
 ⟨some 84, .un .not (.tmp 83), none, [], []⟩,
 ⟨some 85, .mv (.tmp 84), none, [], []⟩,
 ⟨some 86, .faddr 0 (.tmp 11), (some ((some 85), false)), [], []⟩,
 ⟨some 87, .load false 1 (.tmp 86), (some ((some 85), false)), [], []⟩,
 ⟨some 88, .mv (.tmp 9), (some ((some 85), false)), [], []⟩,
 ⟨some 89, .call true i_l20_meet [(.tmp 87), (.tmp 88)], (some ((some 85), false)), [], []⟩,
 ⟨some 90, .mv (.tmp 7), (some ((some 85), false)), [], []⟩,
 ⟨some 91, .mv (.tmp 8), (some ((some 85), false)), [], []⟩,
 ⟨some 92, .mv (.tmp 9), (some ((some 85), false)), [], []⟩,
 ⟨some 93, .call true i_l20_meet [(.tmp 91), (.tmp 92)], (some ((some 85), false)), [], []⟩,
 ⟨some 94, .field 0 1 false (.tmp 93), (some ((some 85), false)), [], []⟩,
 ⟨some 95, .call true i_l20_meet [(.tmp 90), (.tmp 94)], (some ((some 85), false)), [], []⟩,
 ⟨some 96, .call true i_r20_Alike [(.tmp 89), (.tmp 95)], (some ((some 85), false)), [], []⟩,
 ⟨some 97, .un .not (.tmp 96), (some ((some 85), false)), [], []⟩,
 ⟨some 98, .pick (.tmp 85) (.cst (.bool true)) (.tmp 97), none, [], []⟩,
 ⟨some 99, .mv (.tmp 98), none, [], []⟩,
 ⟨some 100, .mv (.tmp 7), (some ((some 99), false)), [], []⟩,
 ⟨some 101, .mv (.tmp 7), (some ((some 99), false)), [], []⟩,
 ⟨some 102, .call true i_l20_join [(.tmp 100), (.tmp 101)], (some ((some 99), false)), [], []⟩,
 ⟨some 103, .mv (.tmp 7), (some ((some 99), false)), [], []⟩,
 ⟨some 104, .build [.nils, (.int .i64 0)] [(0, 1, (.tmp 103))], (some ((some 99), false)), [], []⟩,
 ⟨some 105, .call true i_r20_Alike [(.tmp 102), (.tmp 104)], (some ((some 99), false)), [], []⟩,
 ⟨some 106, .un .not (.tmp 105), (some ((some 99), false)), [], []⟩,
 ⟨some 107, .pick (.tmp 99) (.cst (.bool true)) (.tmp 106), none, [], []⟩,
 ⟨some 108, .mv (.tmp 107), none, [], []⟩,
 ⟨some 109, .mv (.tmp 7), (some ((some 108), false)), [], []⟩,
 ⟨some 110, .mv (.tmp 7), (some ((some 108), false)), [], []⟩,
 ⟨some 111, .call true i_l20_meet [(.tmp 109), (.tmp 110)], (some ((some 108), false)), [], []⟩,
 ⟨some 112, .mv (.tmp 7), (some ((some 108), false)), [], []⟩,
 ⟨some 113, .build [.nils, (.int .i64 0)] [(0, 1, (.tmp 112))], (some ((some 108), false)), [], []⟩,
 ⟨some 114, .call true i_r20_Alike [(.tmp 111), (.tmp 113)], (some ((some 108), false)), [], []⟩,
 ⟨some 115, .un .not (.tmp 114), (some ((some 108), false)), [], []⟩,
 ⟨some 116, .pick (.tmp 108) (.cst (.bool true)) (.tmp 115), none, [], []⟩])
  (.ghost (.kill [9, 72, 73, 74, 75, 76, 77, 78, 79, 80, 81, 82, 83, 84, 85, 86, 87, 88, 89, 90, 91, 92, 93, 94, 95, 96, 97, 98, 99, 100, 101, 102, 103, 104, 105, 106, 107, 108, 109, 110, 111, 112, 113, 114, 115])))
  (.cond (.tmp 116) (.seq (.region false [
      ⟨some 4, .mv (.cst (.bool false)), none, [], []⟩])
    .ret)
  .skip))
  (.seq (.region true [
 ⟨some 117, .mv (.tmp 7), none, [], [7]⟩,
 ⟨some 118, .faddr 0 (.tmp 11), none, [], [11]⟩,
 ⟨some 119, .load false 1 (.tmp 118), none, [1], [118]⟩,
 ⟨some 120, .call true i_l20_join [(.tmp 117), (.tmp 119)], none, [0, 2], [117, 119]⟩,
 ⟨some 121, .mv (.tmp 7), none, [], [7]⟩,
 ⟨some 122, .build [.nils, (.int .i64 0)] [(0, 1, (.tmp 121))], none, [4], [121]⟩,
 ⟨some 123, .call true i_r20_Alike [(.tmp 120), (.tmp 122)], none, [3, 5, 3], [120, 122]⟩,
 ⟨some 124, .mv (.tmp 123), none, [6, 6], [123]⟩,
 ⟨some 125, .mv (.tmp 7), (some ((some 124), true)), [7], [7]⟩,
 ⟨some 126, .faddr 0 (.tmp 10), (some ((some 124), true)), [7], [10]⟩,
 ⟨some 127, .load false 1 (.tmp 126), (some ((some 124), true)), [9, 7], [126]⟩,
 ⟨some 128, .call true i_l20_meet [(.tmp 125), (.tmp 127)], (some ((some 124), true)), [8, 10, 7, 7], [125, 127]⟩,
 ⟨some 129, .mv (.tmp 7), (some ((some 124), true)), [7], [7]⟩,
 ⟨some 130, .build [.nils, (.int .i64 0)] [(0, 1, (.tmp 129))], (some ((some 124), true)), [12, 7], [129]⟩,
 ⟨some 131, .call true i_r20_Alike [(.tmp 128), (.tmp 130)], (some ((some 124), true)), [11, 13, 11, 7], [128, 130]⟩,
 ⟨some 132, .pick (.tmp 124) (.tmp 131) (.cst (.bool false)), none, [7, 14], [124, 131]⟩,
 ⟨some 133, .mv (.tmp 132), none, [15, 14], [132]⟩,
 ⟨some 134, .mv (.tmp 7), (some ((some 133), true)), [16], [7]⟩,
 ⟨some 135, .mv (.tmp 8), (some ((some 133), true)), [16], [8]⟩,
 ⟨some 136, .call true i_cut_Leq [(.tmp 134), (.tmp 135)], (some ((some 133), true)), [17, 18, 16, 16], [134, 135]⟩,
 ⟨some 137, .faddr 0 (.tmp 10), (some ((some 133), true)), [16], [10]⟩,
 ⟨some 138, .load false 1 (.tmp 137), (some ((some 133), true)), [20, 16], [137]⟩,
 ⟨some 139, .mv (.tmp 8), (some ((some 133), true)), [16], [8]⟩,
 ⟨some 140, .call true i_r20_Same [(.tmp 138), (.tmp 139)], (some ((some 133), true)), [21, 22, 19, 16], [138, 139]⟩,
 ⟨some 141, .eqs false .bool (.tmp 136) (.tmp 140), (some ((some 133), true)), [19, 23, 16], [136, 140]⟩,
 ⟨some 142, .pick (.tmp 133) (.tmp 141) (.cst (.bool false)), none, [16, 24], [133, 141]⟩,
 ⟨some 143, .mv (.tmp 142), none, [25, 23], [142]⟩,
 ⟨some 144, .mv (.tmp 7), (some ((some 143), true)), [26], [7]⟩,
 ⟨some 145, .mv (.tmp 8), (some ((some 143), true)), [26], [8]⟩,
 ⟨some 146, .call true i_cut_Leq [(.tmp 144), (.tmp 145)], (some ((some 143), true)), [27, 28, 26, 26], [144, 145]⟩,
 ⟨some 147, .faddr 0 (.tmp 11), (some ((some 143), true)), [26], [11]⟩,
 ⟨some 148, .load false 1 (.tmp 147), (some ((some 143), true)), [30, 26], [147]⟩,
 ⟨some 149, .mv (.tmp 7), (some ((some 143), true)), [26], [7]⟩,
 ⟨some 150, .call true i_r20_Same [(.tmp 148), (.tmp 149)], (some ((some 143), true)), [31, 32, 29, 26], [148, 149]⟩,
 ⟨some 151, .eqs false .bool (.tmp 146) (.tmp 150), (some ((some 143), true)), [29, 33, 26], [146, 150]⟩,
 ⟨some 152, .pick (.tmp 143) (.tmp 151) (.cst (.bool false)), none, [26, 34], [143, 151]⟩,
 ⟨some 153, .mv (.tmp 152), none, [35, 33], [152]⟩,
 ⟨some 154, .faddr 0 (.tmp 11), (some ((some 153), true)), [36], [11]⟩,
 ⟨some 155, .load false 1 (.tmp 154), (some ((some 153), true)), [37, 36], [154]⟩,
 ⟨some 156, .faddr 0 (.tmp 10), (some ((some 153), true)), [36], [10]⟩,
 ⟨some 157, .load false 1 (.tmp 156), (some ((some 153), true)), [39, 36], [156]⟩,
 ⟨some 158, .call true i_cut_Leq [(.tmp 155), (.tmp 157)], (some ((some 153), true)), [38, 40, 36, 36], [155, 157]⟩,
 ⟨some 159, .pick (.tmp 153) (.tmp 158) (.cst (.bool false)), none, [36, 41], [153, 158]⟩,
 ⟨some 160, .mv (.tmp 159), none, [42, 41], [159]⟩,
 ⟨some 161, .mv (.tmp 5), (some ((some 160), true)), [43], [5]⟩,
 ⟨some 162, .pick (.tmp 160) (.tmp 161) (.cst (.bool false)), none, [43, 44], [160, 161]⟩,
 ⟨some 4, .mv (.tmp 162), none, [45, 43, 0, 1, 2, 3, 4, 5, 6, 7, 8, 9, 10, 11, 12, 13, 14, 15, 16, 17, 18, 19, 20, 21, 22, 23, 24, 25, 26, 27, 28, 29, 30, 31, 32, 33, 34, 35, 36, 37, 38, 39, 40, 41, 42, 43, 44, 45], [162]⟩])
  .ret)))))))))
def l20_CutLattice : AFunc := ⟨163, [.tmp 4], l20_CutLattice.main⟩
/-- chapman/chapmanlaw20.CutGreatest -/
def l20_CutGreatest.c0 : ACode := (.seq (.seq (.region false [
 ⟨some 138, .mv (.tmp 6), none, [], []⟩,
 ⟨some 139, .iaddrA 3 1 (.tmp 3) (.cst (.int .i64 2)), none, [], []⟩,
 ⟨some 140, .load false 1 (.tmp 139), none, [], []⟩,
 ⟨some 141, .call true i_r20_Shuffled [(.tmp 138), (.tmp 140)], none, [], []⟩,
 ⟨some 16, .mv (.tmp 141), none, [], []⟩])
  (.ghost (.kill [3, 138, 139, 140, 141])))
  (.seq (.region true [
 ⟨some 142, .mv (.tmp 13), none, [], [13]⟩,
 ⟨some 143, .mv (.tmp 6), none, [], [6]⟩,
 ⟨some 144, .len .sl (.tmp 143), none, [1], [143]⟩,
 ⟨some 145, .bin .eql (.tmp 142) (.tmp 144), none, [0, 2], [142, 144]⟩,
 ⟨some 146, .mv (.tmp 145), none, [3], [145]⟩,
 ⟨some 147, .mv (.tmp 16), (some ((some 146), true)), [4], [16]⟩,
 ⟨some 148, .mv (.tmp 7), (some ((some 146), true)), [4], [7]⟩,
 ⟨some 149, .call true i_l20_greatest [(.tmp 147), (.tmp 148)], (some ((some 146), true)), [5, 6, 4, 4], [147, 148]⟩,
 ⟨some 150, .load true 2 (.tmp 9), (some ((some 146), true)), [4], [9]⟩,
 ⟨some 151, .call true i_r20_Alike [(.tmp 149), (.tmp 150)], (some ((some 146), true)), [7, 8, 7, 4], [149, 150]⟩,
 ⟨some 152, .pick (.tmp 146) (.tmp 151) (.cst (.bool false)), none, [4, 9], [146, 151]⟩,
 ⟨some 153, .mv (.tmp 152), none, [10, 9], [152]⟩,
 ⟨some 154, .mv (.tmp 16), (some ((some 153), true)), [11], [16]⟩,
 ⟨some 155, .call true i_r20_All [], (some ((some 153), true)), [11, 11], []⟩,
 ⟨some 156, .call true i_l20_greatest [(.tmp 154), (.tmp 155)], (some ((some 153), true)), [12, 13, 13, 11], [154, 155]⟩,
 ⟨some 157, .load true 2 (.tmp 10), (some ((some 153), true)), [11], [10]⟩,
 ⟨some 158, .call true i_r20_Alike [(.tmp 156), (.tmp 157)], (some ((some 153), true)), [14, 15, 14, 11], [156, 157]⟩,
 ⟨some 159, .pick (.tmp 153) (.tmp 158) (.cst (.bool false)), none, [11, 16], [153, 158]⟩,
 ⟨some 160, .mv (.tmp 159), none, [17, 16], [159]⟩,
 ⟨some 161, .mv (.tmp 5), (some ((some 160), true)), [18], [5]⟩,
 ⟨some 162, .pick (.tmp 160) (.tmp 161) (.cst (.bool false)), none, [18, 19], [160, 161]⟩,
 ⟨some 4, .mv (.tmp 162), none, [20, 18, 0, 1, 2, 3, 4, 5, 6, 7, 8, 9, 10, 11, 12, 13, 14, 15, 16, 17, 18, 19, 20], [162]⟩])
  .ret))
def l20_CutGreatest.b1 : ACode := (.seq (.seq (.seq (.region false [
 ⟨some 123, .mv (.tmp 15), none, [], []⟩,
 ⟨some 124, .mv (.tmp 6), none, [], []⟩,
 ⟨some 125, .len .sl (.tmp 124), none, [], []⟩,
 ⟨some 126, .bin .lss (.tmp 123) (.tmp 125), none, [], []⟩])
  (.ghost (.kill [123, 124, 125])))
  (.cond (.tmp 126) .skip
  (.exit 2)))
  (.seq (.seq (.block 3 (.seq (.seq (.region true [
 ⟨some 129, .faddr 0 (.tmp 10), none, [], [10]⟩,
 ⟨some 130, .load false 1 (.tmp 129), none, [0], [129]⟩,
 ⟨some 131, .mv (.tmp 6), none, [], [6]⟩,
 ⟨some 132, .mv (.tmp 15), none, [], [15]⟩,
 ⟨some 133, .iaddr 5 (.tmp 131) (.tmp 132), none, [2, 3], [131, 132]⟩,
 ⟨some 134, .faddr 0 (.tmp 133), none, [4], [133]⟩,
 ⟨some 135, .load true 2 (.tmp 134), none, [5], [134]⟩,
 ⟨some 136, .call true i_cut_Has [(.tmp 130), (.tmp 135)], none, [1, 6], [130, 135]⟩,
 ⟨some 137, .un .not (.tmp 136), none, [7], [136]⟩])
  (.ghost (.kill [126, 129, 130, 131, 132, 133, 134, 135, 136])))
  (.cond (.tmp 137) (.seq (.region false [
      ⟨some 4, .mv (.cst (.bool false)), none, [], []⟩])
    .ret)
  .skip)))
  (.ghost (.kill [137])))
  (.seq (.region false [
 ⟨some 127, .mv (.tmp 15), none, [], []⟩,
 ⟨some 128, .bin .add (.tmp 127) (.cst (.int .i64 1)), none, [], []⟩,
 ⟨some 15, .mv (.tmp 128), none, [], []⟩])
  (.ghost (.kill [127, 128])))))
def l20_CutGreatest.c1 : ACode := (.seq (.seq (.region false [
 ⟨some 15, .mv (.cst (.int .i64 0)), none, [], []⟩])
  (.seq (.block 2 (.loop l20_CutGreatest.b1))
  (.ghost (.kill [15, 126]))))
  l20_CutGreatest.c0)
def l20_CutGreatest.b0 : ACode := (.seq (.seq (.seq (.region false [
 ⟨some 109, .mv (.tmp 14), none, [], []⟩,
 ⟨some 110, .faddr 0 (.tmp 10), none, [], []⟩,
 ⟨some 111, .load false 1 (.tmp 110), none, [], []⟩,
 ⟨some 112, .len .sl (.tmp 111), none, [], []⟩,
 ⟨some 113, .bin .lss (.tmp 109) (.tmp 112), none, [], []⟩])
  (.ghost (.kill [109, 110, 111, 112])))
  (.cond (.tmp 113) .skip
  (.exit 0)))
  (.seq (.block 1 (.seq (.region false [
 ⟨some 116, .mv (.tmp 13), none, [], []⟩,
 ⟨some 117, .faddr 0 (.tmp 10), none, [], []⟩,
 ⟨some 118, .load false 1 (.tmp 117), none, [], []⟩,
 ⟨some 119, .mv (.tmp 14), none, [], []⟩,
 ⟨some 120, .iaddr 1 (.tmp 118) (.tmp 119), none, [], []⟩,
 ⟨some 121, .load false 1 (.tmp 120), none, [], []⟩,
 ⟨some 122, .bin .add (.tmp 116) (.tmp 121), none, [], []⟩,
 ⟨some 13, .mv (.tmp 122), none, [], []⟩])
  (.ghost (.kill [113, 116, 117, 118, 119, 120, 121, 122]))))
  (.seq (.region false [
 ⟨some 114, .mv (.tmp 14), none, [], []⟩,
 ⟨some 115, .bin .add (.tmp 114) (.cst (.int .i64 1)), none, [], []⟩,
 ⟨some 14, .mv (.tmp 115), none, [], []⟩])
  (.ghost (.kill [114, 115])))))
def l20_CutGreatest.main : ACode := (.seq (.seq (.region false [
 ⟨some 3, .box 3 (.tmp 1), none, [], []⟩,
 ⟨some 4, .mv (.cst (.bool false)), none, [], []⟩])
  (.ghost (.kill [1, 4])))
  (.seq (.seq (.region false [
 ⟨some 17, .call true i_l20_examples [], none, [], []⟩,
 ⟨some 5, .mv (.tmp 17), none, [], []⟩])
  (.ghost (.kill [17])))
  (.seq (.seq (.seq (.region false [
 ⟨some 18, .mv (.tmp 5), none, [], []⟩,
 ⟨some 19, .un .not (.tmp 18), none, [], []⟩])
  (.ghost (.kill [18])))
  (.cond (.tmp 19) (.seq (.region false [
      ⟨some 4, .mv (.cst (.bool false)), none, [], []⟩])
    .ret)
  .skip))
  (.seq (.seq (.region false [
 ⟨some 20, .mv (.tmp 0), none, [], []⟩,
 ⟨some 21, .call true i_r20_Headers [(.tmp 20)], none, [], []⟩,
 ⟨some 6, .mv (.tmp 21), none, [], []⟩])
  (.ghost (.kill [0, 19, 20, 21])))
  (.seq (.seq (.region false [
 ⟨some 22, .iaddrA 3 1 (.tmp 3) (.cst (.int .i64 0)), none, [], []⟩,
 ⟨some 23, .load false 1 (.tmp 22), none, [], []⟩,
 ⟨some 24, .call true i_r20_Limit [(.tmp 23)], none, [], []⟩,
 ⟨some 7, .mv (.tmp 24), none, [], []⟩])
  (.ghost (.kill [22, 23, 24])))
  (.seq (.seq (.region false [
 ⟨some 25, .mv (.tmp 6), none, [], []⟩,
 ⟨some 26, .mv (.tmp 6), none, [], []⟩,
 ⟨some 27, .len .sl (.tmp 26), none, [], []⟩,
 ⟨some 28, .mv (.tmp 6), none, [], []⟩,
 ⟨some 29, .len .sl (.tmp 28), none, [], []⟩,
 ⟨some 30, .iaddrA 3 1 (.tmp 3) (.cst (.int .i64 2)), none, [], []⟩,
 ⟨some 31, .load false 1 (.tmp 30), none, [], []⟩,
 ⟨some 32, .len .sl (.tmp 31), none, [], []⟩,
 ⟨some 33, .bin .rem (.tmp 32) (.cst (.int .i64 4)), none, [], []⟩,
 ⟨some 34, .minmax false [(.tmp 29), (.tmp 33)], none, [], []⟩,
 ⟨some 35, .bin .sub (.tmp 27) (.tmp 34), none, [], []⟩,
 ⟨some 36, .slice 5 (.tmp 25) none (some (.tmp 35)) none, none, [], []⟩,
 ⟨some 8, .mv (.tmp 36), none, [], []⟩])
  (.ghost (.kill [25, 26, 27, 28, 29, 30, 31, 32, 33, 34, 35, 36])))
  (.seq (.seq (.region false [
 ⟨some 37, .mv (.tmp 6), none, [], []⟩,
 ⟨some 38, .mv (.tmp 7), none, [], []⟩,
 ⟨some 39, .call true i_l20_greatest [(.tmp 37), (.tmp 38)], none, [], []⟩,
 ⟨some 40, .mv (.tmp 6), none, [], []⟩,
 ⟨some 41, .call true i_r20_All [], none, [], []⟩,
 ⟨some 42, .call true i_l20_greatest [(.tmp 40), (.tmp 41)], none, [], []⟩,
 ⟨some 43, .mv (.tmp 8), none, [], []⟩,
 ⟨some 44, .mv (.tmp 7), none, [], []⟩,
 ⟨some 45, .call true i_l20_greatest [(.tmp 43), (.tmp 44)], none, [], []⟩,
 ⟨some 9, .alloc [.nils, (.int .i64 0)], none, [], []⟩,
 ⟨some 10, .alloc [.nils, (.int .i64 0)], none, [], []⟩,
 ⟨some 11, .alloc [.nils, (.int .i64 0)], none, [], []⟩,
 ⟨none, .store 2 (.tmp 9) (.tmp 39), none, [], []⟩,
 ⟨none, .store 2 (.tmp 10) (.tmp 42), none, [], []⟩,
 ⟨none, .store 2 (.tmp 11) (.tmp 45), none, [], []⟩])
  (.ghost (.kill [8, 37, 38, 39, 40, 41, 42, 43, 44, 45])))
  (.seq (.seq (.seq (.region false [
 ⟨some 46, .faddr 1 (.tmp 9), none, [], []⟩,
 ⟨some 47, .load false 1 (.tmp 46), none, [], []⟩,
 ⟨some 48, .bin .neq (.tmp 47) (.cst (.int .i64 0)), none, [], []⟩,
 ⟨some 49, .mv (.tmp 48), none, [], []⟩,
 ⟨some 50, .faddr 1 (.tmp 10), (some ((some 49), false)), [], []⟩,
 ⟨some 51, .load false 1 (.tmp 50), (some ((some 49), false)), [], []⟩,
 ⟨some 52, .bin .neq (.tmp 51) (.cst (.int .i64 0)), (some ((some 49), false)), [], []⟩,
 ⟨some 53, .pick (.tmp 49) (.cst (.bool true)) (.tmp 52), none, [], []⟩,
 ⟨some 54, .mv (.tmp 53), none, [], []⟩,
 ⟨some 55, .faddr 1 (.tmp 11), (some ((some 54), false)), [], []⟩,
 ⟨some 56, .load false 1 (.tmp 55), (some ((some 54), false)), [], []⟩,
 ⟨some 57, .bin .neq (.tmp 56) (.cst (.int .i64 0)), (some ((some 54), false)), [], []⟩,
 ⟨some 58, .pick (.tmp 54) (.cst (.bool true)) (.tmp 57), none, [], []⟩,
 ⟨some 59, .mv (.tmp 58), none, [], []⟩,
 ⟨some 60, .mv (.tmp 6), (some ((some 59), false)), [], []⟩,
 ⟨some 61, .faddr 0 (.tmp 9), (some ((some 59), false)), [], []⟩,
 ⟨some 62, .load false 1 (.tmp 61), (some ((some 59), false)), [], []⟩,
 ⟨some 63, .call true i_cut_Closed [(.tmp 60), (.tmp 62)], (some ((some 59), false)), [], []⟩,
 ⟨some 64, .un .not (.tmp 63), (some ((some 59), false)), [], []⟩,
 ⟨some 65, .pick (.tmp 59) (.cst (.bool true)) (.tmp 64), none, [], []⟩,
 ⟨some 66, .mv (.tmp 65), none, [], []⟩,
 ⟨some 67, .faddr 0 (.tmp 9), (some ((some 66), false)), [], []⟩,
 ⟨some 68, .load false 1 (.tmp 67), (some ((some 66), false)), [], []⟩,
 ⟨some 69, .mv (.tmp 7), (some ((some 66), false)), [], []⟩,
 ⟨some 70, .call true i_cut_Leq [(.tmp 68), (.tmp 69)], (some ((some 66), false)), [], []⟩,
 ⟨some 71, .un .not (.tmp 70), (some ((some 66), false)), [], []⟩,
 ⟨some 72, .pick (.tmp 66) (.cst (.bool true)) (.tmp 71), none, [], []⟩,
 ⟨some 73, .mv (.tmp 72), none, [], []⟩,
 ⟨some 74, .faddr 0 (.tmp 11), (some ((some 73), false)), [], []⟩,
 ⟨some 75, .load false 1 (.tmp 74), (some ((some 73), false)), [], []⟩,
 ⟨some 76, .faddr 0 (.tmp 9), (some ((some 73), false)), [], []⟩,
 ⟨some 77, .load false 1 (.tmp 76), (some ((some 73), false)), [], []⟩,
 ⟨some 78, .call true i_cut_Leq [(.tmp 75), (.tmp 77)], (some ((some 73), false)), [], []⟩,
 ⟨some 79, .un .not (.tmp 78), (some ((some 73), false)), [], []⟩,
 ⟨some 80, .pick (.tmp 73) (.cst (.bool true)) (.tmp 79), none, [], []⟩,
 ⟨some 81, .mv (.tmp 80), none, [], []⟩,
 ⟨some 82, .faddr 0 (.tmp 9), (some ((some 81), false)), [], []⟩,
 ⟨some 83, .load false 1 (.tmp 82), (some ((some 81), false)), [], []⟩,
 ⟨some 84, .faddr 0 (.tmp 10), (some ((some 81), false)), [], []⟩,
 ⟨some 85, .load false 1 (.tmp 84), (some ((some 81), false)), [], []⟩,
 ⟨some 86, .call true i_cut_Leq [(.tmp 83), (.tmp 85)], (some ((some 81), false)), [], []⟩,
 ⟨some 87, .un .not (.tmp 86), (some ((some 81), false)), [], []⟩,
 ⟨some 88, .pick (.tmp 81) (.cst (.bool true)) (.tmp 87), none, [], []⟩])
  (.ghost (.kill [11, 46, 47, 48, 49, 50, 51, 52, 53, 54, 55, 56, 57, 58, 59, 60, 61, 62, 63, 64, 65, 66, 67, 68, 69, 70, 71, 72, 73, 74, 75, 76, 77, 78, 79, 80, 81, 82, 83, 84, 85, 86, 87])))
  (.cond (.tmp 88) (.seq (.region false [
      ⟨some 4, .mv (.cst (.bool false)), none, [], []⟩])
    .ret)
  .skip))
  (.seq (.seq (.region false [
 ⟨some 89, .mv (.tmp 6), none, [], []⟩,
 ⟨some 90, .iaddrA 3 1 (.tmp 3) (.cst (.int .i64 1)), none, [], []⟩,
 ⟨some 91, .load false 1 (.tmp 90), none, [], []⟩,
 ⟨some 92, .call true i_r20_CutOf [(.tmp 89), (.tmp 91)], none, [], []⟩,
 ⟨some 12, .mv (.tmp 92), none, [], []⟩])
  (.ghost (.kill [88, 89, 90, 91, 92])))
  (.seq (.seq (.seq (.region false [
 ⟨some 93, .mv (.tmp 6), none, [], []⟩,
 ⟨some 94, .mv (.tmp 12), none, [], []⟩,
 ⟨some 95, .call true i_cut_Closed [(.tmp 93), (.tmp 94)], none, [], []⟩,
 ⟨some 96, .un .not (.tmp 95), none, [], []⟩,
 ⟨some 97, .mv (.tmp 96), none, [], []⟩,
 ⟨some 98, .mv (.tmp 12), (some ((some 97), false)), [], []⟩,
 ⟨some 99, .mv (.tmp 7), (some ((some 97), false)), [], []⟩,
 ⟨some 100, .call true i_cut_Leq [(.tmp 98), (.tmp 99)], (some ((some 97), false)), [], []⟩,
 ⟨some 101, .mv (.tmp 100), (some ((some 97), false)), [], []⟩,
 ⟨some 102, .mv (.tmp 12), (some ((some 101), true)), [], []⟩,
 ⟨some 103, .faddr 0 (.tmp 9), (some ((some 101), true)), [], []⟩,
 ⟨some 104, .load false 1 (.tmp 103), (some ((some 101), true)), [], []⟩,
 ⟨some 105, .call true i_cut_Leq [(.tmp 102), (.tmp 104)], (some ((some 101), true)), [], []⟩,
 ⟨some 106, .un .not (.tmp 105), (some ((some 101), true)), [], []⟩,
 ⟨some 107, .pick (.tmp 101) (.tmp 106) (.cst (.bool false)), (some ((some 97), false)), [], []⟩,
 ⟨some 108, .pick (.tmp 97) (.cst (.bool true)) (.tmp 107), none, [], []⟩])
  (.ghost (.kill [12, 93, 94, 95, 96, 97, 98, 99, 100, 101, 102, 103, 104, 105, 106, 107])))
  (.cond (.tmp 108) (.seq (.region false [
      ⟨some 4, .mv (.cst (.bool false)), none, [], []⟩])
    .ret)
  .skip))
  (.seq (.seq (.region false [
 ⟨some 13, .mv (.cst (.int .i64 0)), none, [], []⟩])
  (.ghost (.kill [108])))
  (.seq (.seq (.region false [
 ⟨some 14, .mv (.cst (.int .i64 0)), none, [], []⟩])
  (.seq (.block 0 (.loop l20_CutGreatest.b0))
  (.ghost (.kill [14, 113]))))
  l20_CutGreatest.c1))))))))))))
def l20_CutGreatest.k1 : List Item := [.inBlock 2, .code (.ghost (.kill [15, 126])), .code l20_CutGreatest.c0]
def l20_CutGreatest.k0 : List Item := [.inBlock 0, .code (.ghost (.kill [14, 113])), .code l20_CutGreatest.c1]
def l20_CutGreatest : AFunc := ⟨163, [.tmp 4], l20_CutGreatest.main⟩
/-- chapman/chapmanlaw20.CutOrder -/
def l20_CutOrder.c0 : ACode := (.seq (.region true [
 ⟨some 185, .mv (.tmp 18), none, [], [18]⟩,
 ⟨some 186, .faddr 0 (.tmp 10), none, [], [10]⟩,
 ⟨some 187, .load false 1 (.tmp 186), none, [1], [186]⟩,
 ⟨some 188, .len .sl (.tmp 187), none, [2], [187]⟩,
 ⟨some 189, .bin .eql (.tmp 185) (.tmp 188), none, [0, 3], [185, 188]⟩,
 ⟨some 190, .mv (.tmp 189), none, [4], [189]⟩,
 ⟨some 191, .mv (.tmp 6), (some ((some 190), true)), [5], [6]⟩,
 ⟨some 192, .faddr 0 (.tmp 11), (some ((some 190), true)), [5], [11]⟩,
 ⟨some 193, .load false 1 (.tmp 192), (some ((some 190), true)), [7, 5], [192]⟩,
 ⟨some 194, .call true i_r20_Names [(.tmp 191), (.tmp 193)], (some ((some 190), true)), [6, 8, 5, 5], [191, 193]⟩,
 ⟨some 195, .mv (.tmp 14), (some ((some 190), true)), [5], [14]⟩,
 ⟨some 196, .call true i_r20_SameNames [(.tmp 194), (.tmp 195)], (some ((some 190), true)), [9, 10, 9, 5], [194, 195]⟩,
 ⟨some 197, .pick (.tmp 190) (.tmp 196) (.cst (.bool false)), none, [5, 11], [190, 196]⟩,
 ⟨some 198, .mv (.tmp 197), none, [12, 11], [197]⟩,
 ⟨some 199, .mv (.tmp 12), (some ((some 198), true)), [13], [12]⟩,
 ⟨some 200, .faddr 0 (.tmp 13), (some ((some 198), true)), [13], [13]⟩,
 ⟨some 201, .load false 1 (.tmp 200), (some ((some 198), true)), [15, 13], [200]⟩,
 ⟨some 202, .call true i_r20_Names [(.tmp 199), (.tmp 201)], (some ((some 198), true)), [14, 16, 13, 13], [199, 201]⟩,
 ⟨some 203, .mv (.tmp 6), (some ((some 198), true)), [13], [6]⟩,
 ⟨some 204, .faddr 0 (.tmp 10), (some ((some 198), true)), [13], [10]⟩,
 ⟨some 205, .load false 1 (.tmp 204), (some ((some 198), true)), [19, 13], [204]⟩,
 ⟨some 206, .call true i_r20_Names [(.tmp 203), (.tmp 205)], (some ((some 198), true)), [18, 20, 17, 13], [203, 205]⟩,
 ⟨some 207, .call true i_r20_SameNames [(.tmp 202), (.tmp 206)], (some ((some 198), true)), [17, 21, 21, 13], [202, 206]⟩,
 ⟨some 208, .pick (.tmp 198) (.tmp 207) (.cst (.bool false)), none, [13, 22], [198, 207]⟩,
 ⟨some 209, .mv (.tmp 208), none, [23, 22], [208]⟩,
 ⟨some 210, .mv (.tmp 5), (some ((some 209), true)), [24], [5]⟩,
 ⟨some 211, .pick (.tmp 209) (.tmp 210) (.cst (.bool false)), none, [24, 25], [209, 210]⟩,
 ⟨some 4, .mv (.tmp 211), none, [26, 24, 0, 1, 2, 3, 4, 5, 6, 7, 8, 9, 10, 11, 12, 13, 14, 15, 16, 17, 18, 19, 20, 21, 22, 23, 24, 25, 26], [211]⟩])
  .ret)
def l20_CutOrder.b2 : ACode := (.seq (.seq (.seq (.region false [
 ⟨some 171, .mv (.tmp 19), none, [], []⟩,
 ⟨some 172, .faddr 0 (.tmp 9), none, [], []⟩,
 ⟨some 173, .load false 1 (.tmp 172), none, [], []⟩,
 ⟨some 174, .len .sl (.tmp 173), none, [], []⟩,
 ⟨some 175, .bin .lss (.tmp 171) (.tmp 174), none, [], []⟩])
  (.ghost (.kill [171, 172, 173, 174])))
  (.cond (.tmp 175) .skip
  (.exit 4)))
  (.seq (.block 5 (.seq (.region false [
 ⟨some 178, .mv (.tmp 18), none, [], []⟩,
 ⟨some 179, .faddr 0 (.tmp 9), none, [], []⟩,
 ⟨some 180, .load false 1 (.tmp 179), none, [], []⟩,
 ⟨some 181, .mv (.tmp 19), none, [], []⟩,
 ⟨some 182, .iaddr 1 (.tmp 180) (.tmp 181), none, [], []⟩,
 ⟨some 183, .load false 1 (.tmp 182), none, [], []⟩,
 ⟨some 184, .bin .add (.tmp 178) (.tmp 183), none, [], []⟩,
 ⟨some 18, .mv (.tmp 184), none, [], []⟩])
  (.ghost (.kill [175, 178, 179, 180, 181, 182, 183, 184]))))
  (.seq (.region false [
 ⟨some 176, .mv (.tmp 19), none, [], []⟩,
 ⟨some 177, .bin .add (.tmp 176) (.cst (.int .i64 1)), none, [], []⟩,
 ⟨some 19, .mv (.tmp 177), none, [], []⟩])
  (.ghost (.kill [176, 177])))))
def l20_CutOrder.c1 : ACode := (.seq (.region false [
 ⟨some 18, .mv (.cst (.int .i64 0)), none, [], []⟩])
  (.seq (.seq (.region false [
 ⟨some 19, .mv (.cst (.int .i64 0)), none, [], []⟩])
  (.seq (.block 4 (.loop l20_CutOrder.b2))
  (.ghost (.kill [9, 19, 175]))))
  l20_CutOrder.c0))
def l20_CutOrder.c2 : ACode := (.seq (.region false [
 ⟨some 96, .mv (.tmp 15), none, [], []⟩,
 ⟨some 97, .bin .add (.tmp 96) (.cst (.int .i64 1)), none, [], []⟩,
 ⟨some 15, .mv (.tmp 97), none, [], []⟩])
  (.ghost (.kill [96, 97])))
def l20_CutOrder.c3 : ACode := (.seq (.seq (.region false [
 ⟨some 162, .mv (.tmp 7), none, [], []⟩,
 ⟨some 163, .faddr 0 (.tmp 16), none, [], []⟩,
 ⟨some 164, .load true 2 (.tmp 163), none, [], []⟩,
 ⟨some 165, .call true i_cut_Has [(.tmp 162), (.tmp 164)], none, [], []⟩])
  (.ghost (.kill [162, 163, 164])))
  (.seq (.cond (.tmp 165) (.seq (.region false [
      ⟨some 166, .mv (.tmp 14), none, [], []⟩,
      ⟨some 167, .faddr 0 (.tmp 16), none, [], []⟩,
      ⟨some 168, .load true 2 (.tmp 167), none, [], []⟩,
      ⟨some 169, .bslice 2 1 [(.int .i64 0), (.int .i64 0)] [(0, (.tmp 168))], none, [], []⟩,
      ⟨some 170, .append 2 16 (.tmp 166) (.tmp 169), none, [], []⟩,
      ⟨some 14, .mv (.tmp 170), none, [], []⟩])
    (.ghost (.kill [16, 165, 166, 167, 168, 169, 170])))
  .skip)
  (.ghost (.kill [16, 165]))))
def l20_CutOrder.b1 : ACode := (.seq (.seq (.seq (.region false [
 ⟨some 113, .mv (.tmp 17), none, [], []⟩,
 ⟨some 114, .faddr 0 (.tmp 10), none, [], []⟩,
 ⟨some 115, .load false 1 (.tmp 114), none, [], []⟩,
 ⟨some 116, .len .sl (.tmp 115), none, [], []⟩,
 ⟨some 117, .bin .lss (.tmp 113) (.tmp 116), none, [], []⟩])
  (.ghost (.kill [113, 114, 115, 116])))
  (.cond (.tmp 117) .skip
  (.exit 2)))
  (.seq (.seq (.block 3 (.seq (.seq (.region true [
 ⟨some 120, .load true 5 (.tmp 16), none, [], [16]⟩,
 ⟨some 121, .mv (.tmp 6), none, [], [6]⟩,
 ⟨some 122, .faddr 0 (.tmp 10), none, [], [10]⟩,
 ⟨some 123, .load false 1 (.tmp 122), none, [2], [122]⟩,
 ⟨some 124, .mv (.tmp 17), none, [], [17]⟩,
 ⟨some 125, .iaddr 1 (.tmp 123) (.tmp 124), none, [3, 4], [123, 124]⟩,
 ⟨some 126, .load false 1 (.tmp 125), none, [5], [125]⟩,
 ⟨some 127, .iaddr 5 (.tmp 121) (.tmp 126), none, [1, 6], [121, 126]⟩,
 ⟨some 128, .load true 5 (.tmp 127), none, [7], [127]⟩,
 ⟨some 129, .call true i_cut_Sees [(.tmp 120), (.tmp 128)], none, [0, 8], [120, 128]⟩,
 ⟨some 130, .mv (.tmp 129), none, [9, 9], [129]⟩,
 ⟨some 131, .mv (.tmp 17), (some ((some 130), false)), [10], [17]⟩,
 ⟨some 132, .mv (.tmp 15), (some ((some 130), false)), [10], [15]⟩,
 ⟨some 133, .bin .gtr (.tmp 131) (.tmp 132), (some ((some 130), false)), [11, 12, 10], [131, 132]⟩,
 ⟨some 134, .mv (.tmp 133), (some ((some 130), false)), [13, 10, 10], [133]⟩,
 ⟨some 135, .mv (.tmp 6), (some ((some 134), true)), [14], [6]⟩,
 ⟨some 136, .faddr 0 (.tmp 10), (some ((some 134), true)), [14], [10]⟩,
 ⟨some 137, .load false 1 (.tmp 136), (some ((some 134), true)), [16, 14], [136]⟩,
 ⟨some 138, .mv (.tmp 17), (some ((some 134), true)), [14], [17]⟩,
 ⟨some 139, .iaddr 1 (.tmp 137) (.tmp 138), (some ((some 134), true)), [17, 18, 14], [137, 138]⟩,
 ⟨some 140, .load false 1 (.tmp 139), (some ((some 134), true)), [19, 14], [139]⟩,
 ⟨some 141, .iaddr 5 (.tmp 135) (.tmp 140), (some ((some 134), true)), [15, 20, 14], [135, 140]⟩,
 ⟨some 142, .faddr 0 (.tmp 141), (some ((some 134), true)), [21, 14], [141]⟩,
 ⟨some 143, .load true 2 (.tmp 142), (some ((some 134), true)), [22, 14], [142]⟩,
 ⟨some 144, .faddr 0 (.tmp 16), (some ((some 134), true)), [14], [16]⟩,
 ⟨some 145, .load true 2 (.tmp 144), (some ((some 134), true)), [24, 14], [144]⟩,
 ⟨some 146, .eqs false (.row [(0, 1, false, (.int .i64)), (1, 1, false, (.int .i64))]) (.tmp 143) (.tmp 145), (some ((some 134), true)), [23, 25, 14], [143, 145]⟩,
 ⟨some 147, .mv (.tmp 146), (some ((some 134), true)), [26, 14, 14], [146]⟩,
 ⟨some 148, .load true 5 (.tmp 16), (some ((some 147), false)), [27], [16]⟩,
 ⟨some 149, .mv (.tmp 6), (some ((some 147), false)), [27], [6]⟩,
 ⟨some 150, .faddr 0 (.tmp 10), (some ((some 147), false)), [27], [10]⟩,
 ⟨some 151, .load false 1 (.tmp 150), (some ((some 147), false)), [30, 27], [150]⟩,
 ⟨some 152, .mv (.tmp 17), (some ((some 147), false)), [27], [17]⟩,
 ⟨some 153, .iaddr 1 (.tmp 151) (.tmp 152), (some ((some 147), false)), [31, 32, 27], [151, 152]⟩,
 ⟨some 154, .load false 1 (.tmp 153), (some ((some 147), false)), [33, 27], [153]⟩,
 ⟨some 155, .iaddr 5 (.tmp 149) (.tmp 154), (some ((some 147), false)), [29, 34, 27], [149, 154]⟩,
 ⟨some 156, .load true 5 (.tmp 155), (some ((some 147), false)), [35, 27], [155]⟩,
 ⟨some 157, .call true i_cut_Before [(.tmp 148), (.tmp 156)], (some ((some 147), false)), [28, 36, 27, 27], [148, 156]⟩,
 ⟨some 158, .un .not (.tmp 157), (some ((some 147), false)), [37, 27], [157]⟩,
 ⟨some 159, .pick (.tmp 147) (.cst (.bool true)) (.tmp 158), (some ((some 134), true)), [27, 38, 14], [147, 158]⟩,
 ⟨some 160, .pick (.tmp 134) (.tmp 159) (.cst (.bool false)), (some ((some 130), false)), [14, 39, 10], [134, 159]⟩,
 ⟨some 161, .pick (.tmp 130) (.cst (.bool true)) (.tmp 160), none, [10, 40], [130, 160]⟩])
  (.ghost (.kill [117, 120, 121, 122, 123, 124, 125, 126, 127, 128, 129, 130, 131, 132, 133, 134, 135, 136, 137, 138, 139, 140, 141, 142, 143, 144, 145, 146, 147, 148, 149, 150, 151, 152, 153, 154, 155, 156, 157, 158, 159, 160])))
  (.cond (.tmp 161) (.seq (.region false [
      ⟨some 4, .mv (.cst (.bool false)), none, [], []⟩])
    .ret)
  .skip)))
  (.ghost (.kill [161])))
  (.seq (.region false [
 ⟨some 118, .mv (.tmp 17), none, [], []⟩,
 ⟨some 119, .bin .add (.tmp 118) (.cst (.int .i64 1)), none, [], []⟩,
 ⟨some 17, .mv (.tmp 119), none, [], []⟩])
  (.ghost (.kill [118, 119])))))
def l20_CutOrder.b0 : ACode := (.seq (.seq (.seq (.region false [
 ⟨some 91, .mv (.tmp 15), none, [], []⟩,
 ⟨some 92, .faddr 0 (.tmp 10), none, [], []⟩,
 ⟨some 93, .load false 1 (.tmp 92), none, [], []⟩,
 ⟨some 94, .len .sl (.tmp 93), none, [], []⟩,
 ⟨some 95, .bin .lss (.tmp 91) (.tmp 94), none, [], []⟩])
  (.ghost (.kill [91, 92, 93, 94])))
  (.cond (.tmp 95) .skip
  (.exit 0)))
  (.seq (.trunc (.block 1 (.seq (.seq (.region false [
 ⟨some 98, .mv (.tmp 6), none, [], []⟩,
 ⟨some 99, .faddr 0 (.tmp 10), none, [], []⟩,
 ⟨some 100, .load false 1 (.tmp 99), none, [], []⟩,
 ⟨some 101, .mv (.tmp 15), none, [], []⟩,
 ⟨some 102, .iaddr 1 (.tmp 100) (.tmp 101), none, [], []⟩,
 ⟨some 103, .load false 1 (.tmp 102), none, [], []⟩,
 ⟨some 104, .iaddr 5 (.tmp 98) (.tmp 103), none, [], []⟩,
 ⟨some 105, .load true 5 (.tmp 104), none, [], []⟩,
 ⟨some 16, .alloc [(.int .i64 0), (.int .i64 0), .nils, (.int .i64 0), .nils], none, [], []⟩,
 ⟨none, .store 5 (.tmp 16) (.tmp 105), none, [], []⟩])
  (.ghost (.kill [95, 98, 99, 100, 101, 102, 103, 104, 105])))
  (.seq (.seq (.seq (.region false [
 ⟨some 106, .faddr 0 (.tmp 9), none, [], []⟩,
 ⟨some 107, .load false 1 (.tmp 106), none, [], []⟩,
 ⟨some 108, .faddr 0 (.tmp 16), none, [], []⟩,
 ⟨some 109, .load true 2 (.tmp 108), none, [], []⟩,
 ⟨some 110, .call true i_cut_Has [(.tmp 107), (.tmp 109)], none, [], []⟩,
 ⟨some 111, .un .not (.tmp 110), none, [], []⟩])
  (.ghost (.kill [106, 107, 108, 109, 110])))
  (.cond (.tmp 111) (.seq (.region false [
      ⟨some 4, .mv (.cst (.bool false)), none, [], []⟩])
    .ret)
  .skip))
  (.seq (.seq (.seq (.region false [
 ⟨some 112, .mv (.tmp 15), none, [], []⟩,
 ⟨some 17, .mv (.tmp 112), none, [], []⟩])
  (.ghost (.kill [111, 112])))
  (.seq (.block 2 (.loop l20_CutOrder.b1))
  (.ghost (.kill [17, 117]))))
  l20_CutOrder.c3)))))
  l20_CutOrder.c2))
def l20_CutOrder.main : ACode := (.seq (.seq (.region false [
 ⟨some 3, .box 3 (.tmp 1), none, [], []⟩,
 ⟨some 4, .mv (.cst (.bool false)), none, [], []⟩])
  (.ghost (.kill [1, 4])))
  (.seq (.seq (.region false [
 ⟨some 20, .call true i_l20_examples [], none, [], []⟩,
 ⟨some 5, .mv (.tmp 20), none, [], []⟩])
  (.ghost (.kill [20])))
  (.seq (.seq (.seq (.region false [
 ⟨some 21, .mv (.tmp 5), none, [], []⟩,
 ⟨some 22, .un .not (.tmp 21), none, [], []⟩])
  (.ghost (.kill [21])))
  (.cond (.tmp 22) (.seq (.region false [
      ⟨some 4, .mv (.cst (.bool false)), none, [], []⟩])
    .ret)
  .skip))
  (.seq (.seq (.region false [
 ⟨some 23, .mv (.tmp 0), none, [], []⟩,
 ⟨some 24, .call true i_r20_Headers [(.tmp 23)], none, [], []⟩,
 ⟨some 6, .mv (.tmp 24), none, [], []⟩])
  (.ghost (.kill [0, 22, 23, 24])))
  (.seq (.seq (.region true [
 ⟨some 25, .mv (.tmp 6), none, [], [6]⟩,
 ⟨some 26, .iaddrA 3 1 (.tmp 3) (.cst (.int .i64 0)), none, [], [3]⟩,
 ⟨some 27, .load false 1 (.tmp 26), none, [1], [26]⟩,
 ⟨some 28, .call true i_r20_CutOf [(.tmp 25), (.tmp 27)], none, [0, 2], [25, 27]⟩,
 ⟨some 29, .mv (.tmp 6), none, [], [6]⟩,
 ⟨some 30, .iaddrA 3 1 (.tmp 3) (.cst (.int .i64 1)), none, [], [3]⟩,
 ⟨some 31, .load false 1 (.tmp 30), none, [5], [30]⟩,
 ⟨some 32, .call true i_r20_CutOf [(.tmp 29), (.tmp 31)], none, [4, 6, 3], [29, 31]⟩,
 ⟨some 7, .mv (.tmp 28), none, [3, 7, 0, 1, 2, 3], [28]⟩,
 ⟨some 8, .mv (.tmp 32), none, [7, 8, 0, 1, 2, 3, 4, 5, 6, 7, 8], [32]⟩])
  (.ghost (.kill [25, 26, 27, 28, 29, 30, 31, 32])))
  (.seq (.seq (.region false [
 ⟨some 33, .mv (.tmp 7), none, [], []⟩,
 ⟨some 34, .mv (.tmp 8), none, [], []⟩,
 ⟨some 35, .call true i_l20_join [(.tmp 33), (.tmp 34)], none, [], []⟩,
 ⟨some 9, .alloc [.nils, (.int .i64 0)], none, [], []⟩,
 ⟨none, .store 2 (.tmp 9) (.tmp 35), none, [], []⟩])
  (.ghost (.kill [8, 33, 34, 35])))
  (.seq (.seq (.region false [
 ⟨some 36, .mv (.tmp 6), none, [], []⟩,
 ⟨some 37, .faddr 0 (.tmp 9), none, [], []⟩,
 ⟨some 38, .load false 1 (.tmp 37), none, [], []⟩,
 ⟨some 39, .call true i_l20_order [(.tmp 36), (.tmp 38)], none, [], []⟩,
 ⟨some 40, .mv (.tmp 6), none, [], []⟩,
 ⟨some 41, .mv (.tmp 7), none, [], []⟩,
 ⟨some 42, .call true i_l20_order [(.tmp 40), (.tmp 41)], none, [], []⟩,
 ⟨some 10, .alloc [.nils, (.int .i64 0)], none, [], []⟩,
 ⟨some 11, .alloc [.nils, (.int .i64 0)], none, [], []⟩,
 ⟨none, .store 2 (.tmp 10) (.tmp 39), none, [], []⟩,
 ⟨none, .store 2 (.tmp 11) (.tmp 42), none, [], []⟩])
  (.ghost (.kill [36, 37, 38, 39, 40, 41, 42])))
  (.seq (.seq (.region false [
 ⟨some 43, .mv (.tmp 6), none, [], []⟩,
 ⟨some 44, .iaddrA 3 1 (.tmp 3) (.cst (.int .i64 2)), none, [], []⟩,
 ⟨some 45, .load false 1 (.tmp 44), none, [], []⟩,
 ⟨some 46, .call true i_r20_Shuffled [(.tmp 43), (.tmp 45)], none, [], []⟩,
 ⟨some 12, .mv (.tmp 46), none, [], []⟩])
  (.ghost (.kill [3, 43, 44, 45, 46])))
  (.seq (.seq (.region false [
 ⟨some 47, .mv (.tmp 12), none, [], []⟩,
 ⟨some 48, .faddr 0 (.tmp 9), none, [], []⟩,
 ⟨some 49, .load false 1 (.tmp 48), none, [], []⟩,
 ⟨some 50, .call true i_l20_order [(.tmp 47), (.tmp 49)], none, [], []⟩,
 ⟨some 13, .alloc [.nils, (.int .i64 0)], none, [], []⟩,
 ⟨none, .store 2 (.tmp 13) (.tmp 50), none, [], []⟩])
  (.ghost (.kill [47, 48, 49, 50])))
  (.seq (.seq (.seq (.region false [
 ⟨some 51, .faddr 1 (.tmp 9), none, [], []⟩,
 ⟨some 52, .load false 1 (.tmp 51), none, [], []⟩,
 ⟨some 53, .bin .neq (.tmp 52) (.cst (.int .i64 0)), none, [], []⟩,
 ⟨some 54, .mv (.tmp 53), none, [], []⟩,
 ⟨some 55, .faddr 1 (.tmp 10), (some ((some 54), false)), [], []⟩,
 ⟨some 56, .load false 1 (.tmp 55), (some ((some 54), false)), [], []⟩,
 ⟨some 57, .bin .neq (.tmp 56) (.cst (.int .i64 0)), (some ((some 54), false)), [], []⟩,
 ⟨some 58, .pick (.tmp 54) (.cst (.bool true)) (.tmp 57), none, [], []⟩,
 ⟨some 59, .mv (.tmp 58), none, [], []⟩,
 ⟨some 60, .faddr 1 (.tmp 11), (some ((some 59), false)), [], []⟩,
 ⟨some 61, .load false 1 (.tmp 60), (some ((some 59), false)), [], []⟩,
 ⟨some 62, .bin .neq (.tmp 61) (.cst (.int .i64 0)), (some ((some 59), false)), [], []⟩,
 ⟨some 63, .pick (.tmp 59) (.cst (.bool true)) (.tmp 62), none, [], []⟩,
 ⟨some 64, .mv (.tmp 63), none, [], []⟩,
 ⟨some 65, .faddr 1 (.tmp 13), (some ((some 64), false)), [], []⟩,
 ⟨some 66, .load false 1 (.tmp 65), (some ((some 64), false)), [], []⟩,
 ⟨some 67, .bin .neq (.tmp 66) (.cst (.int .i64 0)), (some ((some 64), false)), [], []⟩,
 ⟨some 68, .pick (.tmp 64) (.cst (.bool true)) (.tmp 67), none, [], []⟩,
 ⟨some 69, .mv (.tmp 68), none, [], []⟩,
 ⟨some 70, .mv (.tmp 6), (some ((some 69), false)), [], []⟩,
 ⟨some 71, .faddr 0 (.tmp 10), (some ((some 69), false)), [], []⟩,
 ⟨some 72, .load false 1 (.tmp 71), (some ((some 69), false)), [], []⟩,
 ⟨some 73, .call true i_l20_fits [(.tmp 70), (.tmp 72)], (some ((some 69), false)), [], []⟩,
 ⟨some 74, .un .not (.tmp 73), (some ((some 69), false)), [], []⟩,
 ⟨some 75, .pick (.tmp 69) (.cst (.bool true)) (.tmp 74), none, [], []⟩,
 ⟨some 76, .mv (.tmp 75), none, [], []⟩,
 ⟨some 77, .mv (.tmp 6), (some ((some 76), false)), [], []⟩,
 ⟨some 78, .faddr 0 (.tmp 11), (some ((some 76), false)), [], []⟩,
 ⟨some 79, .load false 1 (.tmp 78), (some ((some 76), false)), [], []⟩,
 ⟨some 80, .call true i_l20_fits [(.tmp 77), (.tmp 79)], (some ((some 76), false)), [], []⟩,
 ⟨some 81, .un .not (.tmp 80), (some ((some 76), false)), [], []⟩,
 ⟨some 82, .pick (.tmp 76) (.cst (.bool true)) (.tmp 81), none, [], []⟩,
 ⟨some 83, .mv (.tmp 82), none, [], []⟩,
 ⟨some 84, .mv (.tmp 12), (some ((some 83), false)), [], []⟩,
 ⟨some 85, .faddr 0 (.tmp 13), (some ((some 83), false)), [], []⟩,
 ⟨some 86, .load false 1 (.tmp 85), (some ((some 83), false)), [], []⟩,
 ⟨some 87, .call true i_l20_fits [(.tmp 84), (.tmp 86)], (some ((some 83), false)), [], []⟩,
 ⟨some 88, .un .not (.tmp 87), (some ((some 83), false)), [], []⟩,
 ⟨some 89, .pick (.tmp 83) (.cst (.bool true)) (.tmp 88), none, [], []⟩])
  (.ghost (.kill [51, 52, 53, 54, 55, 56, 57, 58, 59, 60, 61, 62, 63, 64, 65, 66, 67, 68, 69, 70, 71, 72, 73, 74, 75, 76, 77, 78, 79, 80, 81, 82, 83, 84, 85, 86, 87, 88])))
  (.cond (.tmp 89) (.seq (.region false [
      ⟨some 4, .mv (.cst (.bool false)), none, [], []⟩])
    .ret)
  .skip))
  (.seq (.seq (.region false [
 ⟨some 90, .bslice 2 0 [(.int .i64 0), (.int .i64 0)] [], none, [], []⟩,
 ⟨some 14, .mv (.tmp 90), none, [], []⟩])
  (.ghost (.kill [89, 90])))
  (.seq (.seq (.region false [
 ⟨some 15, .mv (.cst (.int .i64 0)), none, [], []⟩])
  (.seq (.block 0 (.loop l20_CutOrder.b0))
  (.ghost (.kill [7, 15, 95]))))
  l20_CutOrder.c1))))))))))))
def l20_CutOrder.k2 : List Item := [.inBlock 4, .code (.ghost (.kill [9, 19, 175])), .code l20_CutOrder.c0]
def l20_CutOrder.k1 (m0 : Nat) : List Item := [.inBlock 2, .code (.ghost (.kill [17, 117])), .code l20_CutOrder.c3, .inBlock 1, .inTrunc m0, .code l20_CutOrder.c2, .inLoop l20_CutOrder.b0, .inBlock 0, .code (.ghost (.kill [7, 15, 95])), .code l20_CutOrder.c1]
def l20_CutOrder.k0 : List Item := [.inBlock 0, .code (.ghost (.kill [7, 15, 95])), .code l20_CutOrder.c1]
def l20_CutOrder : AFunc := ⟨212, [.tmp 4], l20_CutOrder.main⟩
/-- chapman/chapmanlaw20.CutCausal -/
def l20_CutCausal.c0 : ACode := (.seq (.region false [
 ⟨some 166, .mv (.tmp 3), none, [], []⟩,
 ⟨some 2, .mv (.tmp 166), none, [], []⟩])
  .ret)
def l20_CutCausal.c1 : ACode := (.seq (.region false [
 ⟨some 20, .mv (.tmp 5), none, [], []⟩,
 ⟨some 21, .bin .add (.tmp 20) (.cst (.int .i64 1)), none, [], []⟩,
 ⟨some 5, .mv (.tmp 21), none, [], []⟩])
  (.ghost (.kill [20, 21])))
def l20_CutCausal.c2 : ACode := (.seq (.region false [
 ⟨some 54, .mv (.tmp 6), none, [], []⟩,
 ⟨some 55, .bin .add (.tmp 54) (.cst (.int .i64 1)), none, [], []⟩,
 ⟨some 6, .mv (.tmp 55), none, [], []⟩])
  (.ghost (.kill [54, 55])))
def l20_CutCausal.b2 : ACode := (.seq (.seq (.seq (.region false [
 ⟨some 128, .mv (.tmp 7), none, [], []⟩,
 ⟨some 129, .mv (.tmp 4), none, [], []⟩,
 ⟨some 130, .len .sl (.tmp 129), none, [], []⟩,
 ⟨some 131, .bin .lss (.tmp 128) (.tmp 130), none, [], []⟩])
  (.ghost (.kill [128, 129, 130])))
  (.cond (.tmp 131) .skip
  (.exit 4)))
  (.seq (.seq (.block 5 (.seq (.seq (.region true [
 ⟨some 134, .mv (.tmp 4), none, [], [4]⟩,
 ⟨some 135, .mv (.tmp 5), none, [], [5]⟩,
 ⟨some 136, .iaddr 5 (.tmp 134) (.tmp 135), none, [0, 1], [134, 135]⟩,
 ⟨some 137, .load true 5 (.tmp 136), none, [2], [136]⟩,
 ⟨some 138, .mv (.tmp 4), none, [], [4]⟩,
 ⟨some 139, .mv (.tmp 6), none, [], [6]⟩,
 ⟨some 140, .iaddr 5 (.tmp 138) (.tmp 139), none, [4, 5], [138, 139]⟩,
 ⟨some 141, .load true 5 (.tmp 140), none, [6], [140]⟩,
 ⟨some 142, .call true i_cut_Sees [(.tmp 137), (.tmp 141)], none, [3, 7], [137, 141]⟩,
 ⟨some 143, .mv (.tmp 142), none, [8, 8], [142]⟩,
 ⟨some 144, .mv (.tmp 4), (some ((some 143), true)), [9], [4]⟩,
 ⟨some 145, .mv (.tmp 6), (some ((some 143), true)), [9], [6]⟩,
 ⟨some 146, .iaddr 5 (.tmp 144) (.tmp 145), (some ((some 143), true)), [10, 11, 9], [144, 145]⟩,
 ⟨some 147, .load true 5 (.tmp 146), (some ((some 143), true)), [12, 9], [146]⟩,
 ⟨some 148, .mv (.tmp 4), (some ((some 143), true)), [9], [4]⟩,
 ⟨some 149, .mv (.tmp 7), (some ((some 143), true)), [9], [7]⟩,
 ⟨some 150, .iaddr 5 (.tmp 148) (.tmp 149), (some ((some 143), true)), [14, 15, 9], [148, 149]⟩,
 ⟨some 151, .load true 5 (.tmp 150), (some ((some 143), true)), [16, 9], [150]⟩,
 ⟨some 152, .call true i_cut_Sees [(.tmp 147), (.tmp 151)], (some ((some 143), true)), [13, 17, 9, 9], [147, 151]⟩,
 ⟨some 153, .pick (.tmp 143) (.tmp 152) (.cst (.bool false)), none, [9, 18], [143, 152]⟩,
 ⟨some 154, .mv (.tmp 153), none, [19, 18], [153]⟩,
 ⟨some 155, .mv (.tmp 4), (some ((some 154), true)), [20], [4]⟩,
 ⟨some 156, .mv (.tmp 5), (some ((some 154), true)), [20], [5]⟩,
 ⟨some 157, .iaddr 5 (.tmp 155) (.tmp 156), (some ((some 154), true)), [21, 22, 20], [155, 156]⟩,
 ⟨some 158, .load true 5 (.tmp 157), (some ((some 154), true)), [23, 20], [157]⟩,
 ⟨some 159, .mv (.tmp 4), (some ((some 154), true)), [20], [4]⟩,
 ⟨some 160, .mv (.tmp 7), (some ((some 154), true)), [20], [7]⟩,
 ⟨some 161, .iaddr 5 (.tmp 159) (.tmp 160), (some ((some 154), true)), [25, 26, 20], [159, 160]⟩,
 ⟨some 162, .load true 5 (.tmp 161), (some ((some 154), true)), [27, 20], [161]⟩,
 ⟨some 163, .call true i_cut_Sees [(.tmp 158), (.tmp 162)], (some ((some 154), true)), [24, 28, 20, 20], [158, 162]⟩,
 ⟨some 164, .un .not (.tmp 163), (some ((some 154), true)), [29, 20], [163]⟩,
 ⟨some 165, .pick (.tmp 154) (.tmp 164) (.cst (.bool false)), none, [20, 30], [154, 164]⟩])
  (.ghost (.kill [131, 134, 135, 136, 137, 138, 139, 140, 141, 142, 143, 144, 145, 146, 147, 148, 149, 150, 151, 152, 153, 154, 155, 156, 157, 158, 159, 160, 161, 162, 163, 164])))
  (.cond (.tmp 165) (.seq (.region false [
      ⟨some 2, .mv (.cst (.bool false)), none, [], []⟩])
    .ret)
  .skip)))
  (.ghost (.kill [165])))
  (.seq (.region false [
 ⟨some 132, .mv (.tmp 7), none, [], []⟩,
 ⟨some 133, .bin .add (.tmp 132) (.cst (.int .i64 1)), none, [], []⟩,
 ⟨some 7, .mv (.tmp 133), none, [], []⟩])
  (.ghost (.kill [132, 133])))))
def l20_CutCausal.b1 : ACode := (.seq (.seq (.seq (.region false [
 ⟨some 50, .mv (.tmp 6), none, [], []⟩,
 ⟨some 51, .mv (.tmp 4), none, [], []⟩,
 ⟨some 52, .len .sl (.tmp 51), none, [], []⟩,
 ⟨some 53, .bin .lss (.tmp 50) (.tmp 52), none, [], []⟩])
  (.ghost (.kill [50, 51, 52])))
  (.cond (.tmp 53) .skip
  (.exit 2)))
  (.seq (.block 3 (.seq (.seq (.seq (.region true [
 ⟨some 56, .mv (.tmp 5), none, [], [5]⟩,
 ⟨some 57, .mv (.tmp 6), none, [], [6]⟩,
 ⟨some 58, .bin .neq (.tmp 56) (.tmp 57), none, [0, 1], [56, 57]⟩,
 ⟨some 59, .mv (.tmp 58), none, [2], [58]⟩,
 ⟨some 60, .mv (.tmp 4), (some ((some 59), true)), [3], [4]⟩,
 ⟨some 61, .mv (.tmp 5), (some ((some 59), true)), [3], [5]⟩,
 ⟨some 62, .iaddr 5 (.tmp 60) (.tmp 61), (some ((some 59), true)), [4, 5, 3], [60, 61]⟩,
 ⟨some 63, .load true 5 (.tmp 62), (some ((some 59), true)), [6, 3], [62]⟩,
 ⟨some 64, .mv (.tmp 4), (some ((some 59), true)), [3], [4]⟩,
 ⟨some 65, .mv (.tmp 6), (some ((some 59), true)), [3], [6]⟩,
 ⟨some 66, .iaddr 5 (.tmp 64) (.tmp 65), (some ((some 59), true)), [8, 9, 3], [64, 65]⟩,
 ⟨some 67, .load true 5 (.tmp 66), (some ((some 59), true)), [10, 3], [66]⟩,
 ⟨some 68, .call true i_cut_Before [(.tmp 63), (.tmp 67)], (some ((some 59), true)), [7, 11, 3, 3], [63, 67]⟩,
 ⟨some 69, .mv (.tmp 4), (some ((some 59), true)), [3], [4]⟩,
 ⟨some 70, .mv (.tmp 6), (some ((some 59), true)), [3], [6]⟩,
 ⟨some 71, .iaddr 5 (.tmp 69) (.tmp 70), (some ((some 59), true)), [13, 14, 3], [69, 70]⟩,
 ⟨some 72, .load true 5 (.tmp 71), (some ((some 59), true)), [15, 3], [71]⟩,
 ⟨some 73, .mv (.tmp 4), (some ((some 59), true)), [3], [4]⟩,
 ⟨some 74, .mv (.tmp 5), (some ((some 59), true)), [3], [5]⟩,
 ⟨some 75, .iaddr 5 (.tmp 73) (.tmp 74), (some ((some 59), true)), [17, 18, 3], [73, 74]⟩,
 ⟨some 76, .load true 5 (.tmp 75), (some ((some 59), true)), [19, 3], [75]⟩,
 ⟨some 77, .call true i_cut_Before [(.tmp 72), (.tmp 76)], (some ((some 59), true)), [16, 20, 12, 3], [72, 76]⟩,
 ⟨some 78, .eqs false .bool (.tmp 68) (.tmp 77), (some ((some 59), true)), [12, 21, 3], [68, 77]⟩,
 ⟨some 79, .pick (.tmp 59) (.tmp 78) (.cst (.bool false)), none, [3, 22], [59, 78]⟩,
 ⟨some 80, .mv (.tmp 79), none, [23, 21], [79]⟩,
 ⟨some 81, .mv (.tmp 4), (some ((some 80), false)), [24], [4]⟩,
 ⟨some 82, .mv (.tmp 5), (some ((some 80), false)), [24], [5]⟩,
 ⟨some 83, .iaddr 5 (.tmp 81) (.tmp 82), (some ((some 80), false)), [25, 26, 24], [81, 82]⟩,
 ⟨some 84, .load true 5 (.tmp 83), (some ((some 80), false)), [27, 24], [83]⟩,
 ⟨some 85, .mv (.tmp 4), (some ((some 80), false)), [24], [4]⟩,
 ⟨some 86, .mv (.tmp 6), (some ((some 80), false)), [24], [6]⟩,
 ⟨some 87, .iaddr 5 (.tmp 85) (.tmp 86), (some ((some 80), false)), [29, 30, 24], [85, 86]⟩,
 ⟨some 88, .load true 5 (.tmp 87), (some ((some 80), false)), [31, 24], [87]⟩,
 ⟨some 89, .call true i_cut_Sees [(.tmp 84), (.tmp 88)], (some ((some 80), false)), [28, 32, 24, 24], [84, 88]⟩,
 ⟨some 90, .mv (.tmp 89), (some ((some 80), false)), [33, 33, 24], [89]⟩,
 ⟨some 91, .mv (.tmp 4), (some ((some 90), true)), [34], [4]⟩,
 ⟨some 92, .mv (.tmp 6), (some ((some 90), true)), [34], [6]⟩,
 ⟨some 93, .iaddr 5 (.tmp 91) (.tmp 92), (some ((some 90), true)), [35, 36, 34], [91, 92]⟩,
 ⟨some 94, .load true 5 (.tmp 93), (some ((some 90), true)), [37, 34], [93]⟩,
 ⟨some 95, .mv (.tmp 4), (some ((some 90), true)), [34], [4]⟩,
 ⟨some 96, .mv (.tmp 5), (some ((some 90), true)), [34], [5]⟩,
 ⟨some 97, .iaddr 5 (.tmp 95) (.tmp 96), (some ((some 90), true)), [39, 40, 34], [95, 96]⟩,
 ⟨some 98, .load true 5 (.tmp 97), (some ((some 90), true)), [41, 34], [97]⟩,
 ⟨some 99, .call true i_cut_Before [(.tmp 94), (.tmp 98)], (some ((some 90), true)), [38, 42, 34, 34], [94, 98]⟩,
 ⟨some 100, .un .not (.tmp 99), (some ((some 90), true)), [43, 34], [99]⟩,
 ⟨some 101, .mv (.tmp 100), (some ((some 90), true)), [44, 43, 34], [100]⟩,
 ⟨some 102, .mv (.tmp 4), (some ((some 101), false)), [45], [4]⟩,
 ⟨some 103, .mv (.tmp 6), (some ((some 101), false)), [45], [6]⟩,
 ⟨some 104, .iaddr 5 (.tmp 102) (.tmp 103), (some ((some 101), false)), [46, 47, 45], [102, 103]⟩,
 ⟨some 105, .faddr 2 (.tmp 104), (some ((some 101), false)), [48, 45], [104]⟩,
 ⟨some 106, .load false 1 (.tmp 105), (some ((some 101), false)), [49, 45], [105]⟩,
 ⟨some 107, .mv (.tmp 4), (some ((some 101), false)), [45], [4]⟩,
 ⟨some 108, .mv (.tmp 5), (some ((some 101), false)), [45], [5]⟩,
 ⟨some 109, .iaddr 5 (.tmp 107) (.tmp 108), (some ((some 101), false)), [51, 52, 45], [107, 108]⟩,
 ⟨some 110, .faddr 2 (.tmp 109), (some ((some 101), false)), [53, 45], [109]⟩,
 ⟨some 111, .load false 1 (.tmp 110), (some ((some 101), false)), [54, 45], [110]⟩,
 ⟨some 112, .call true i_cut_Leq [(.tmp 106), (.tmp 111)], (some ((some 101), false)), [50, 55, 45, 45], [106, 111]⟩,
 ⟨some 113, .un .not (.tmp 112), (some ((some 101), false)), [56, 45], [112]⟩,
 ⟨some 114, .pick (.tmp 101) (.cst (.bool true)) (.tmp 113), (some ((some 90), true)), [45, 57, 34], [101, 113]⟩,
 ⟨some 115, .mv (.tmp 114), (some ((some 90), true)), [58, 56, 34], [114]⟩,
 ⟨some 116, .mv (.tmp 4), (some ((some 115), false)), [59], [4]⟩,
 ⟨some 117, .mv (.tmp 6), (some ((some 115), false)), [59], [6]⟩,
 ⟨some 118, .iaddr 5 (.tmp 116) (.tmp 117), (some ((some 115), false)), [60, 61, 59], [116, 117]⟩,
 ⟨some 119, .load true 5 (.tmp 118), (some ((some 115), false)), [62, 59], [118]⟩,
 ⟨some 120, .mv (.tmp 4), (some ((some 115), false)), [59], [4]⟩,
 ⟨some 121, .mv (.tmp 5), (some ((some 115), false)), [59], [5]⟩,
 ⟨some 122, .iaddr 5 (.tmp 120) (.tmp 121), (some ((some 115), false)), [64, 65, 59], [120, 121]⟩,
 ⟨some 123, .load true 5 (.tmp 122), (some ((some 115), false)), [66, 59], [122]⟩,
 ⟨some 124, .call true i_cut_Sees [(.tmp 119), (.tmp 123)], (some ((some 115), false)), [63, 67, 59, 59], [119, 123]⟩,
 ⟨some 125, .pick (.tmp 115) (.cst (.bool true)) (.tmp 124), (some ((some 90), true)), [59, 68, 34], [115, 124]⟩,
 ⟨some 126, .pick (.tmp 90) (.tmp 125) (.cst (.bool false)), (some ((some 80), false)), [34, 69, 24], [90, 125]⟩,
 ⟨some 127, .pick (.tmp 80) (.cst (.bool true)) (.tmp 126), none, [24, 70], [80, 126]⟩])
  (.ghost (.kill [53, 56, 57, 58, 59, 60, 61, 62, 63, 64, 65, 66, 67, 68, 69, 70, 71, 72, 73, 74, 75, 76, 77, 78, 79, 80, 81, 82, 83, 84, 85, 86, 87, 88, 89, 90, 91, 92, 93, 94, 95, 96, 97, 98, 99, 100, 101, 102, 103, 104, 105, 106, 107, 108, 109, 110, 111, 112, 113, 114, 115, 116, 117, 118, 119, 120, 121, 122, 123, 124, 125, 126])))
  (.cond (.tmp 127) (.seq (.region false [
      ⟨some 2, .mv (.cst (.bool false)), none, [], []⟩])
    .ret)
  .skip))
  (.seq (.seq (.region false [
 ⟨some 7, .mv (.cst (.int .i64 0)), none, [], []⟩])
  (.ghost (.kill [127])))
  (.seq (.block 4 (.loop l20_CutCausal.b2))
  (.ghost (.kill [7, 131]))))))
  l20_CutCausal.c2))
def l20_CutCausal.b0 : ACode := (.seq (.seq (.seq (.region false [
 ⟨some 16, .mv (.tmp 5), none, [], []⟩,
 ⟨some 17, .mv (.tmp 4), none, [], []⟩,
 ⟨some 18, .len .sl (.tmp 17), none, [], []⟩,
 ⟨some 19, .bin .lss (.tmp 16) (.tmp 18), none, [], []⟩])
  (.ghost (.kill [16, 17, 18])))
  (.cond (.tmp 19) .skip
  (.exit 0)))
  (.seq (.block 1 (.seq (.seq (.seq (.region true [
 ⟨some 22, .mv (.tmp 4), none, [], [4]⟩,
 ⟨some 23, .mv (.tmp 5), none, [], [5]⟩,
 ⟨some 24, .iaddr 5 (.tmp 22) (.tmp 23), none, [0, 1], [22, 23]⟩,
 ⟨some 25, .load true 5 (.tmp 24), none, [2], [24]⟩,
 ⟨some 26, .mv (.tmp 4), none, [], [4]⟩,
 ⟨some 27, .mv (.tmp 5), none, [], [5]⟩,
 ⟨some 28, .iaddr 5 (.tmp 26) (.tmp 27), none, [4, 5], [26, 27]⟩,
 ⟨some 29, .load true 5 (.tmp 28), none, [6], [28]⟩,
 ⟨some 30, .call true i_cut_Sees [(.tmp 25), (.tmp 29)], none, [3, 7], [25, 29]⟩,
 ⟨some 31, .mv (.tmp 30), none, [8, 8], [30]⟩,
 ⟨some 32, .mv (.tmp 4), (some ((some 31), false)), [9], [4]⟩,
 ⟨some 33, .mv (.tmp 5), (some ((some 31), false)), [9], [5]⟩,
 ⟨some 34, .iaddr 5 (.tmp 32) (.tmp 33), (some ((some 31), false)), [10, 11, 9], [32, 33]⟩,
 ⟨some 35, .load true 5 (.tmp 34), (some ((some 31), false)), [12, 9], [34]⟩,
 ⟨some 36, .mv (.tmp 4), (some ((some 31), false)), [9], [4]⟩,
 ⟨some 37, .mv (.tmp 5), (some ((some 31), false)), [9], [5]⟩,
 ⟨some 38, .iaddr 5 (.tmp 36) (.tmp 37), (some ((some 31), false)), [14, 15, 9], [36, 37]⟩,
 ⟨some 39, .load true 5 (.tmp 38), (some ((some 31), false)), [16, 9], [38]⟩,
 ⟨some 40, .call true i_cut_Before [(.tmp 35), (.tmp 39)], (some ((some 31), false)), [13, 17, 9, 9], [35, 39]⟩,
 ⟨some 41, .pick (.tmp 31) (.cst (.bool true)) (.tmp 40), none, [9, 18], [31, 40]⟩,
 ⟨some 42, .mv (.tmp 41), none, [19, 18], [41]⟩,
 ⟨some 43, .mv (.tmp 4), (some ((some 42), false)), [20], [4]⟩,
 ⟨some 44, .mv (.tmp 5), (some ((some 42), false)), [20], [5]⟩,
 ⟨some 45, .iaddr 5 (.tmp 43) (.tmp 44), (some ((some 42), false)), [21, 22, 20], [43, 44]⟩,
 ⟨some 46, .load true 5 (.tmp 45), (some ((some 42), false)), [23, 20], [45]⟩,
 ⟨some 47, .call true i_cut_WellFormed [(.tmp 46)], (some ((some 42), false)), [24, 20, 20], [46]⟩,
 ⟨some 48, .un .not (.tmp 47), (some ((some 42), false)), [25, 20], [47]⟩,
 ⟨some 49, .pick (.tmp 42) (.cst (.bool true)) (.tmp 48), none, [20, 26], [42, 48]⟩])
  (.ghost (.kill [19, 22, 23, 24, 25, 26, 27, 28, 29, 30, 31, 32, 33, 34, 35, 36, 37, 38, 39, 40, 41, 42, 43, 44, 45, 46, 47, 48])))
  (.cond (.tmp 49) (.seq (.region false [
      ⟨some 2, .mv (.cst (.bool false)), none, [], []⟩])
    .ret)
  .skip))
  (.seq (.seq (.region false [
 ⟨some 6, .mv (.cst (.int .i64 0)), none, [], []⟩])
  (.ghost (.kill [49])))
  (.seq (.block 2 (.loop l20_CutCausal.b1))
  (.ghost (.kill [6, 53]))))))
  l20_CutCausal.c1))
def l20_CutCausal.main : ACode := (.seq (.seq (.region false [
 ⟨some 2, .mv (.cst (.bool false)), none, [], []⟩])
  (.ghost (.kill [2])))
  (.seq (.seq (.region false [
 ⟨some 8, .call true i_l20_examples [], none, [], []⟩,
 ⟨some 3, .mv (.tmp 8), none, [], []⟩])
  (.ghost (.kill [8])))
  (.seq (.seq (.seq (.region false [
 ⟨some 9, .mv (.tmp 3), none, [], []⟩,
 ⟨some 10, .un .not (.tmp 9), none, [], []⟩])
  (.ghost (.kill [9])))
  (.cond (.tmp 10) (.seq (.region false [
      ⟨some 2, .mv (.cst (.bool false)), none, [], []⟩])
    .ret)
  .skip))
  (.seq (.seq (.region false [
 ⟨some 11, .mv (.tmp 0), none, [], []⟩,
 ⟨some 12, .call true i_r20_Headers [(.tmp 11)], none, [], []⟩,
 ⟨some 4, .mv (.tmp 12), none, [], []⟩])
  (.ghost (.kill [0, 10, 11, 12])))
  (.seq (.seq (.seq (.region false [
 ⟨some 13, .mv (.tmp 4), none, [], []⟩,
 ⟨some 14, .call true i_cut_Consistent [(.tmp 13)], none, [], []⟩,
 ⟨some 15, .un .not (.tmp 14), none, [], []⟩])
  (.ghost (.kill [13, 14])))
  (.cond (.tmp 15) (.seq (.region false [
      ⟨some 2, .mv (.cst (.bool false)), none, [], []⟩])
    .ret)
  .skip))
  (.seq (.seq (.seq (.region false [
 ⟨some 5, .mv (.cst (.int .i64 0)), none, [], []⟩])
  (.ghost (.kill [15])))
  (.seq (.block 0 (.loop l20_CutCausal.b0))
  (.ghost (.kill [4, 5, 19]))))
  l20_CutCausal.c0))))))
def l20_CutCausal.k2 : List Item := [.inBlock 4, .code (.ghost (.kill [7, 131])), .inBlock 3, .code l20_CutCausal.c2, .inLoop l20_CutCausal.b1, .inBlock 2, .code (.ghost (.kill [6, 53])), .inBlock 1, .code l20_CutCausal.c1, .inLoop l20_CutCausal.b0, .inBlock 0, .code (.ghost (.kill [4, 5, 19])), .code l20_CutCausal.c0]
def l20_CutCausal.k1 : List Item := [.inBlock 2, .code (.ghost (.kill [6, 53])), .inBlock 1, .code l20_CutCausal.c1, .inLoop l20_CutCausal.b0, .inBlock 0, .code (.ghost (.kill [4, 5, 19])), .code l20_CutCausal.c0]
def l20_CutCausal.k0 : List Item := [.inBlock 0, .code (.ghost (.kill [4, 5, 19])), .code l20_CutCausal.c0]
def l20_CutCausal : AFunc := ⟨167, [.tmp 2], l20_CutCausal.main⟩
/-- chapman/chapmanlaw20.CutClosures -/
def l20_CutClosures.c0 : ACode := (.seq (.regionG [
    .op ⟨some 117, .faddr 0 (.tmp 9), none, [], []⟩,
    .op ⟨some 118, .load false 1 (.tmp 117), none, [], []⟩,
    .op ⟨some 119, .mv (.tmp 12), none, [], []⟩,
    .op ⟨some 120, .call true i_cut_Leq [(.tmp 118), (.tmp 119)], none, [], []⟩,
    .op ⟨some 121, .mv (.tmp 13), none, [], []⟩,
    .op ⟨some 122, .eqs false .bool (.tmp 120) (.tmp 121), none, [], []⟩,
    .op ⟨some 123, .mv (.tmp 122), none, [], []⟩,
    .op ⟨some 124, .mv (.tmp 6), (some ((some 123), true)), [], []⟩,
    .op ⟨some 125, .mv (.tmp 14), (some ((some 123), true)), [], []⟩,
    .gh (.dfreeze 125),
    .op ⟨some 126, .call true i_l20_closure [(.tmp 124), (.tmp 125)], (some ((some 123), true)), [], []⟩,
    .op ⟨some 127, .mv (.tmp 12), (some ((some 123), true)), [], []⟩,
    .op ⟨some 128, .build [.nils, (.int .i64 0)] [(0, 1, (.tmp 127))], (some ((some 123), true)), [], []⟩,
    .op ⟨some 129, .call true i_r20_Alike [(.tmp 126), (.tmp 128)], (some ((some 123), true)), [], []⟩,
    .op ⟨some 130, .pick (.tmp 123) (.tmp 129) (.cst (.bool false)), none, [], []⟩,
    .op ⟨some 131, .mv (.tmp 130), none, [], []⟩,
    .op ⟨some 132, .mv (.tmp 5), (some ((some 131), true)), [], []⟩,
    .op ⟨some 133, .pick (.tmp 131) (.tmp 132) (.cst (.bool false)), none, [], []⟩,
    .op ⟨some 4, .mv (.tmp 133), none, [], []⟩])
  .ret)
def l20_CutClosures.c1 : ACode := (.seq (.region false [
 ⟨some 100, .mv (.tmp 16), none, [], []⟩,
 ⟨some 101, .bin .add (.tmp 100) (.cst (.int .i64 1)), none, [], []⟩,
 ⟨some 16, .mv (.tmp 101), none, [], []⟩])
  (.ghost (.kill [100, 101])))
def l20_CutClosures.b1 : ACode := (.seq (.seq (.seq (.region false [
 ⟨some 96, .mv (.tmp 16), none, [], []⟩,
 ⟨some 97, .mv (.tmp 6), none, [], []⟩,
 ⟨some 98, .len .sl (.tmp 97), none, [], []⟩,
 ⟨some 99, .bin .lss (.tmp 96) (.tmp 98), none, [], []⟩])
  (.ghost (.kill [96, 97, 98])))
  (.cond (.tmp 99) .skip
  (.exit 2)))
  (.seq (.trunc (.block 3 (.seq (.seq (.region false [
 ⟨some 102, .mv (.tmp 12), none, [], []⟩,
 ⟨some 103, .mv (.tmp 6), none, [], []⟩,
 ⟨some 104, .mv (.tmp 16), none, [], []⟩,
 ⟨some 105, .iaddr 5 (.tmp 103) (.tmp 104), none, [], []⟩,
 ⟨some 106, .faddr 0 (.tmp 105), none, [], []⟩,
 ⟨some 107, .load true 2 (.tmp 106), none, [], []⟩,
 ⟨some 108, .call true i_cut_Has [(.tmp 102), (.tmp 107)], none, [], []⟩])
  (.ghost (.kill [99, 102, 103, 104, 105, 106, 107])))
  (.seq (.cond (.tmp 108) (.seq (.region false [
      ⟨some 109, .mv (.tmp 14), none, [], []⟩,
      ⟨some 110, .mv (.tmp 6), none, [], []⟩,
      ⟨some 111, .mv (.tmp 16), none, [], []⟩,
      ⟨some 112, .iaddr 5 (.tmp 110) (.tmp 111), none, [], []⟩,
      ⟨some 113, .faddr 0 (.tmp 112), none, [], []⟩,
      ⟨some 114, .load true 2 (.tmp 113), none, [], []⟩,
      ⟨some 115, .bslice 2 1 [(.int .i64 0), (.int .i64 0)] [(0, (.tmp 114))], none, [], []⟩,
      ⟨some 116, .append 2 16 (.tmp 109) (.tmp 115), none, [], []⟩,
      ⟨some 14, .mv (.tmp 116), none, [], []⟩])
    (.ghost (.kill [108, 109, 110, 111, 112, 113, 114, 115, 116])))
  .skip)
  (.ghost (.kill [108]))))))
  l20_CutClosures.c1))
def l20_CutClosures.c2 : ACode := (.seq (.seq (.region false [
 ⟨some 16, .mv (.cst (.int .i64 0)), none, [], []⟩])
  (.seq (.block 2 (.loop l20_CutClosures.b1))
  (.ghost (.kill [16, 99]))))
  l20_CutClosures.c0)
def l20_CutClosures.b0 : ACode := (.seq (.seq (.seq (.region false [
 ⟨some 73, .mv (.tmp 15), none, [], []⟩,
 ⟨some 74, .mv (.tmp 7), none, [], []⟩,
 ⟨some 75, .len .sl (.tmp 74), none, [], []⟩,
 ⟨some 76, .bin .lss (.tmp 73) (.tmp 75), none, [], []⟩])
  (.ghost (.kill [73, 74, 75])))
  (.cond (.tmp 76) .skip
  (.exit 0)))
  (.seq (.block 1 (.seq (.seq (.seq (.region true [
 ⟨some 79, .faddr 0 (.tmp 9), none, [], [9]⟩,
 ⟨some 80, .load false 1 (.tmp 79), none, [0], [79]⟩,
 ⟨some 81, .mv (.tmp 7), none, [], [7]⟩,
 ⟨some 82, .mv (.tmp 15), none, [], [15]⟩,
 ⟨some 83, .iaddr 2 (.tmp 81) (.tmp 82), none, [2, 3], [81, 82]⟩,
 ⟨some 84, .load true 2 (.tmp 83), none, [4], [83]⟩,
 ⟨some 85, .call true i_cut_Has [(.tmp 80), (.tmp 84)], none, [1, 5], [80, 84]⟩,
 ⟨some 86, .un .not (.tmp 85), none, [6], [85]⟩])
  (.ghost (.kill [76, 79, 80, 81, 82, 83, 84, 85])))
  (.cond (.tmp 86) (.seq (.region false [
      ⟨some 4, .mv (.cst (.bool false)), none, [], []⟩])
    .ret)
  .skip))
  (.seq (.region false [
 ⟨some 87, .mv (.tmp 13), none, [], []⟩,
 ⟨some 88, .mv (.tmp 87), none, [], []⟩,
 ⟨some 89, .mv (.tmp 12), (some ((some 88), true)), [], []⟩,
 ⟨some 90, .mv (.tmp 7), (some ((some 88), true)), [], []⟩,
 ⟨some 91, .mv (.tmp 15), (some ((some 88), true)), [], []⟩,
 ⟨some 92, .iaddr 2 (.tmp 90) (.tmp 91), (some ((some 88), true)), [], []⟩,
 ⟨some 93, .load true 2 (.tmp 92), (some ((some 88), true)), [], []⟩,
 ⟨some 94, .call true i_cut_Has [(.tmp 89), (.tmp 93)], (some ((some 88), true)), [], []⟩,
 ⟨some 95, .pick (.tmp 88) (.tmp 94) (.cst (.bool false)), none, [], []⟩,
 ⟨some 13, .mv (.tmp 95), none, [], []⟩])
  (.ghost (.kill [86, 87, 88, 89, 90, 91, 92, 93, 94, 95])))))
  (.seq (.region false [
 ⟨some 77, .mv (.tmp 15), none, [], []⟩,
 ⟨some 78, .bin .add (.tmp 77) (.cst (.int .i64 1)), none, [], []⟩,
 ⟨some 15, .mv (.tmp 78), none, [], []⟩])
  (.ghost (.kill [77, 78])))))
def l20_CutClosures.main : ACode := (.seq (.seq (.region false [
 ⟨some 3, .box 3 (.tmp 1), none, [], []⟩,
 ⟨some 4, .mv (.cst (.bool false)), none, [], []⟩])
  (.ghost (.kill [1, 4])))
  (.seq (.seq (.region false [
 ⟨some 17, .call true i_l20_examples [], none, [], []⟩,
 ⟨some 5, .mv (.tmp 17), none, [], []⟩])
  (.ghost (.kill [17])))
  (.seq (.seq (.seq (.region false [
 ⟨some 18, .mv (.tmp 5), none, [], []⟩,
 ⟨some 19, .un .not (.tmp 18), none, [], []⟩])
  (.ghost (.kill [18])))
  (.cond (.tmp 19) (.seq (.region false [
      ⟨some 4, .mv (.cst (.bool false)), none, [], []⟩])
    .ret)
  .skip))
  (.seq (.seq (.region false [
 ⟨some 20, .mv (.tmp 0), none, [], []⟩,
 ⟨some 21, .call true i_r20_Headers [(.tmp 20)], none, [], []⟩,
 ⟨some 6, .mv (.tmp 21), none, [], []⟩])
  (.ghost (.kill [0, 19, 20, 21])))
  (.seq (.seq (.region true [
 ⟨some 22, .mv (.tmp 6), none, [], [6]⟩,
 ⟨some 23, .iaddrA 3 1 (.tmp 3) (.cst (.int .i64 0)), none, [], [3]⟩,
 ⟨some 24, .load false 1 (.tmp 23), none, [1], [23]⟩,
 ⟨some 25, .call true i_l20_chosen [(.tmp 22), (.tmp 24)], none, [0, 2], [22, 24]⟩,
 ⟨some 26, .mv (.tmp 6), none, [], [6]⟩,
 ⟨some 27, .iaddrA 3 1 (.tmp 3) (.cst (.int .i64 1)), none, [], [3]⟩,
 ⟨some 28, .load false 1 (.tmp 27), none, [5], [27]⟩,
 ⟨some 29, .call true i_l20_chosen [(.tmp 26), (.tmp 28)], none, [4, 6, 3], [26, 28]⟩,
 ⟨some 7, .mv (.tmp 25), none, [3, 7, 0, 1, 2, 3], [25]⟩,
 ⟨some 8, .mv (.tmp 29), none, [7, 8, 0, 1, 2, 3, 4, 5, 6, 7, 8], [29]⟩])
  (.ghost (.kill [22, 23, 24, 25, 26, 27, 28, 29])))
  (.seq (.seq (.regionG [
    .op ⟨some 30, .mv (.tmp 6), none, [], []⟩,
    .op ⟨some 31, .mv (.tmp 7), none, [], []⟩,
    .op ⟨some 32, .call true i_l20_closure [(.tmp 30), (.tmp 31)], none, [], []⟩,
    .op ⟨some 33, .mv (.tmp 6), none, [], []⟩,
    .op ⟨some 34, .mv (.tmp 8), none, [], []⟩,
    .op ⟨some 35, .call true i_l20_closure [(.tmp 33), (.tmp 34)], none, [], []⟩,
    .op ⟨some 36, .mv (.tmp 6), none, [], []⟩,
    .op ⟨some 37, .bslice 2 0 [(.int .i64 0), (.int .i64 0)] [], none, [], []⟩,
    .op ⟨some 38, .mv (.tmp 7), none, [], []⟩,
    .op ⟨some 39, .append 2 16 (.tmp 37) (.tmp 38), none, [], []⟩,
    .op ⟨some 40, .mv (.tmp 8), none, [], []⟩,
    .op ⟨some 41, .append 2 16 (.tmp 39) (.tmp 40), none, [], []⟩,
    .gh (.dfreeze 41),
    .op ⟨some 42, .call true i_l20_closure [(.tmp 36), (.tmp 41)], none, [], []⟩,
    .op ⟨some 9, .alloc [.nils, (.int .i64 0)], none, [], []⟩,
    .op ⟨some 10, .alloc [.nils, (.int .i64 0)], none, [], []⟩,
    .op ⟨some 11, .alloc [.nils, (.int .i64 0)], none, [], []⟩,
    .op ⟨none, .store 2 (.tmp 9) (.tmp 32), none, [], []⟩,
    .op ⟨none, .store 2 (.tmp 10) (.tmp 35), none, [], []⟩,
    .op ⟨none, .store 2 (.tmp 11) (.tmp 42), none, [], []⟩])
  (.ghost (.kill [8, 30, 31, 32, 33, 34, 35, 36, 37, 38, 39, 40, 41, 42])))
  (.seq (.seq (.seq (.region true [
 ⟨some 43, .faddr 1 (.tmp 9), none, [], [9]⟩,
 ⟨some 44, .load false 1 (.tmp 43), none, [0], [43]⟩,
 ⟨some 45, .bin .neq (.tmp 44) (.cst (.int .i64 0)), none, [1], [44]⟩,
 ⟨some 46, .mv (.tmp 45), none, [2], [45]⟩,
 ⟨some 47, .faddr 1 (.tmp 10), (some ((some 46), false)), [3], [10]⟩,
 ⟨some 48, .load false 1 (.tmp 47), (some ((some 46), false)), [4, 3], [47]⟩,
 ⟨some 49, .bin .neq (.tmp 48) (.cst (.int .i64 0)), (some ((some 46), false)), [5, 3], [48]⟩,
 ⟨some 50, .pick (.tmp 46) (.cst (.bool true)) (.tmp 49), none, [3, 6], [46, 49]⟩,
 ⟨some 51, .mv (.tmp 50), none, [7, 3], [50]⟩,
 ⟨some 52, .mv (.tmp 6), (some ((some 51), false)), [8], [6]⟩,
 ⟨some 53, .faddr 0 (.tmp 9), (some ((some 51), false)), [8], [9]⟩,
 ⟨some 54, .load false 1 (.tmp 53), (some ((some 51), false)), [10, 8], [53]⟩,
 ⟨some 55, .call true i_cut_Closed [(.tmp 52), (.tmp 54)], (some ((some 51), false)), [9, 11, 8, 8], [52, 54]⟩,
 ⟨some 56, .un .not (.tmp 55), (some ((some 51), false)), [12, 8], [55]⟩,
 ⟨some 57, .pick (.tmp 51) (.cst (.bool true)) (.tmp 56), none, [8, 13], [51, 56]⟩,
 ⟨some 58, .mv (.tmp 57), none, [14, 12], [57]⟩,
 ⟨some 59, .faddr 0 (.tmp 9), (some ((some 58), false)), [15], [9]⟩,
 ⟨some 60, .load false 1 (.tmp 59), (some ((some 58), false)), [16, 15], [59]⟩,
 ⟨some 61, .faddr 0 (.tmp 10), (some ((some 58), false)), [15], [10]⟩,
 ⟨some 62, .load false 1 (.tmp 61), (some ((some 58), false)), [18, 15], [61]⟩,
 ⟨some 63, .call true i_l20_join [(.tmp 60), (.tmp 62)], (some ((some 58), false)), [17, 19, 15, 15], [60, 62]⟩,
 ⟨some 64, .load true 2 (.tmp 11), (some ((some 58), false)), [15], [11]⟩,
 ⟨some 65, .call true i_r20_Alike [(.tmp 63), (.tmp 64)], (some ((some 58), false)), [20, 21, 20, 15], [63, 64]⟩,
 ⟨some 66, .un .not (.tmp 65), (some ((some 58), false)), [22, 15], [65]⟩,
 ⟨some 67, .pick (.tmp 58) (.cst (.bool true)) (.tmp 66), none, [15, 23], [58, 66]⟩])
  (.ghost (.kill [10, 11, 43, 44, 45, 46, 47, 48, 49, 50, 51, 52, 53, 54, 55, 56, 57, 58, 59, 60, 61, 62, 63, 64, 65, 66])))
  (.cond (.tmp 67) (.seq (.region false [
      ⟨some 4, .mv (.cst (.bool false)), none, [], []⟩])
    .ret)
  .skip))
  (.seq (.seq (.region false [
 ⟨some 68, .mv (.tmp 6), none, [], []⟩,
 ⟨some 69, .iaddrA 3 1 (.tmp 3) (.cst (.int .i64 2)), none, [], []⟩,
 ⟨some 70, .load false 1 (.tmp 69), none, [], []⟩,
 ⟨some 71, .call true i_r20_CutOf [(.tmp 68), (.tmp 70)], none, [], []⟩,
 ⟨some 12, .mv (.tmp 71), none, [], []⟩])
  (.ghost (.kill [3, 67, 68, 69, 70, 71])))
  (.seq (.seq (.region false [
 ⟨some 72, .bslice 2 0 [(.int .i64 0), (.int .i64 0)] [], none, [], []⟩,
 ⟨some 13, .mv (.cst (.bool true)), none, [], []⟩,
 ⟨some 14, .mv (.tmp 72), none, [], []⟩])
  (.ghost (.kill [72])))
  (.seq (.seq (.region false [
 ⟨some 15, .mv (.cst (.int .i64 0)), none, [], []⟩])
  (.seq (.block 0 (.loop l20_CutClosures.b0))
  (.ghost (.kill [7, 15, 76]))))
  l20_CutClosures.c2))))))))))
def l20_CutClosures.k1 : List Item := [.inBlock 2, .code (.ghost (.kill [16, 99])), .code l20_CutClosures.c0]
def l20_CutClosures.k0 : List Item := [.inBlock 0, .code (.ghost (.kill [7, 15, 76])), .code l20_CutClosures.c2]
def l20_CutClosures : AFunc := ⟨134, [.tmp 4], l20_CutClosures.main⟩
/-- chapman/chapmanlaw20.examples -/
def l20_examples.c0 : ACode := (.seq (.seq (.seq (.regionG [
    .op ⟨some 65, .faddr 1 (.tmp 5), none, [], []⟩,
    .op ⟨some 66, .load false 1 (.tmp 65), none, [], []⟩,
    .op ⟨some 67, .bin .neq (.tmp 66) (.cst (.int .i64 0)), none, [], []⟩,
    .op ⟨some 68, .mv (.tmp 67), none, [], []⟩,
    .op ⟨some 69, .faddr 0 (.tmp 5), (some ((some 68), false)), [], []⟩,
    .op ⟨some 70, .load false 1 (.tmp 69), (some ((some 68), false)), [], []⟩,
    .op ⟨some 71, .bslice 1 3 [(.int .i64 0)] [(0, (.cst (.int .i64 1))), (1, (.cst (.int .i64 2))), (2, (.cst (.int .i64 0)))], (some ((some 68), false)), [], []⟩,
    .gh (.dfreeze 71),
    .op ⟨some 72, .call true i_r20_Same [(.tmp 70), (.tmp 71)], (some ((some 68), false)), [], []⟩,
    .op ⟨some 73, .un .not (.tmp 72), (some ((some 68), false)), [], []⟩,
    .op ⟨some 74, .pick (.tmp 68) (.cst (.bool true)) (.tmp 73), none, [], []⟩,
    .op ⟨some 75, .mv (.tmp 74), none, [], []⟩,
    .op ⟨some 76, .mv (.tmp 1), (some ((some 75), false)), [], []⟩,
    .op ⟨some 77, .mv (.tmp 4), (some ((some 75), false)), [], []⟩,
    .op ⟨some 78, .call true i_l20_order [(.tmp 76), (.tmp 77)], (some ((some 75), false)), [], []⟩,
    .op ⟨some 79, .field 1 1 false (.tmp 78), (some ((some 75), false)), [], []⟩,
    .op ⟨some 80, .bin .neq (.tmp 79) (.cst (.int .i64 200)), (some ((some 75), false)), [], []⟩,
    .op ⟨some 81, .pick (.tmp 75) (.cst (.bool true)) (.tmp 80), none, [], []⟩,
    .op ⟨some 82, .mv (.tmp 81), none, [], []⟩,
    .op ⟨some 83, .mv (.tmp 1), (some ((some 82), false)), [], []⟩,
    .op ⟨some 84, .build [(.int .i64 0), (.int .i64 0)] [(0, 1, (.cst (.int .i64 0))), (1, 1, (.cst (.int .i64 2)))], (some ((some 82), false)), [], []⟩,
    .op ⟨some 85, .bslice 2 1 [(.int .i64 0), (.int .i64 0)] [(0, (.tmp 84))], (some ((some 82), false)), [], []⟩,
    .gh (.dfreeze 85),
    .op ⟨some 86, .call true i_l20_closure [(.tmp 83), (.tmp 85)], (some ((some 82), false)), [], []⟩,
    .op ⟨some 87, .mv (.tmp 2), (some ((some 82), false)), [], []⟩,
    .op ⟨some 88, .build [.nils, (.int .i64 0)] [(0, 1, (.tmp 87))], (some ((some 82), false)), [], []⟩,
    .op ⟨some 89, .call true i_r20_Alike [(.tmp 86), (.tmp 88)], (some ((some 82), false)), [], []⟩,
    .op ⟨some 90, .un .not (.tmp 89), (some ((some 82), false)), [], []⟩,
    .op ⟨some 91, .pick (.tmp 82) (.cst (.bool true)) (.tmp 90), none, [], []⟩,
    .op ⟨some 92, .mv (.tmp 91), none, [], []⟩,
    .op ⟨some 93, .mv (.tmp 1), (some ((some 92), false)), [], []⟩,
    .op ⟨some 94, .build [(.int .i64 0), (.int .i64 0)] [(0, 1, (.cst (.int .i64 2))), (1, 1, (.cst (.int .i64 1)))], (some ((some 92), false)), [], []⟩,
    .op ⟨some 95, .bslice 2 1 [(.int .i64 0), (.int .i64 0)] [(0, (.tmp 94))], (some ((some 92), false)), [], []⟩,
    .gh (.dfreeze 95),
    .op ⟨some 96, .call true i_l20_closure [(.tmp 93), (.tmp 95)], (some ((some 92), false)), [], []⟩,
    .op ⟨some 97, .field 1 1 false (.tmp 96), (some ((some 92), false)), [], []⟩,
    .op ⟨some 98, .bin .neq (.tmp 97) (.cst (.int .i64 4)), (some ((some 92), false)), [], []⟩,
    .op ⟨some 99, .pick (.tmp 92) (.cst (.bool true)) (.tmp 98), none, [], []⟩,
    .op ⟨some 100, .mv (.tmp 99), none, [], []⟩,
    .op ⟨some 101, .mv (.tmp 1), (some ((some 100), false)), [], []⟩,
    .op ⟨some 102, .slice 5 (.tmp 101) none (some (.cst (.int .i64 1))) none, (some ((some 100), false)), [], []⟩,
    .op ⟨some 103, .build [(.int .i64 0), (.int .i64 0)] [(0, 1, (.cst (.int .i64 0))), (1, 1, (.cst (.int .i64 2)))], (some ((some 100), false)), [], []⟩,
    .op ⟨some 104, .bslice 2 1 [(.int .i64 0), (.int .i64 0)] [(0, (.tmp 103))], (some ((some 100), false)), [], []⟩,
    .gh (.dfreeze 104),
    .op ⟨some 105, .call true i_l20_closure [(.tmp 102), (.tmp 104)], (some ((some 100), false)), [], []⟩,
    .op ⟨some 106, .field 1 1 false (.tmp 105), (some ((some 100), false)), [], []⟩,
    .op ⟨some 107, .bin .neq (.tmp 106) (.cst (.int .i64 200)), (some ((some 100), false)), [], []⟩,
    .op ⟨some 108, .pick (.tmp 100) (.cst (.bool true)) (.tmp 107), none, [], []⟩])
  (.ghost (.kill [5, 65, 66, 67, 68, 69, 70, 71, 72, 73, 74, 75, 76, 77, 78, 79, 80, 81, 82, 83, 84, 85, 86, 87, 88, 89, 90, 91, 92, 93, 94, 95, 96, 97, 98, 99, 100, 101, 102, 103, 104, 105, 106, 107])))
  (.cond (.tmp 108) (.seq (.region false [
      ⟨some 0, .mv (.cst (.bool false)), none, [], []⟩])
    .ret)
  .skip))
  (.seq (.region true [
 ⟨some 109, .mv (.tmp 2), none, [], [2]⟩,
 ⟨some 110, .call true i_cut_Valid [(.tmp 109)], none, [0], [109]⟩,
 ⟨some 111, .mv (.tmp 110), none, [1, 1], [110]⟩,
 ⟨some 112, .mv (.tmp 2), (some ((some 111), true)), [2], [2]⟩,
 ⟨some 113, .slice 1 (.tmp 112) none (some (.cst (.int .i64 5))) none, (some ((some 111), true)), [3, 2], [112]⟩,
 ⟨some 114, .call true i_cut_Valid [(.tmp 113)], (some ((some 111), true)), [4, 2, 2], [113]⟩,
 ⟨some 115, .un .not (.tmp 114), (some ((some 111), true)), [5, 2], [114]⟩,
 ⟨some 116, .pick (.tmp 111) (.tmp 115) (.cst (.bool false)), none, [2, 6], [111, 115]⟩,
 ⟨some 117, .mv (.tmp 116), none, [7, 5], [116]⟩,
 ⟨some 118, .mv (.tmp 3), (some ((some 117), true)), [8], [3]⟩,
 ⟨some 119, .mv (.tmp 2), (some ((some 117), true)), [8], [2]⟩,
 ⟨some 120, .call true i_cut_Leq [(.tmp 118), (.tmp 119)], (some ((some 117), true)), [9, 10, 8, 8], [118, 119]⟩,
 ⟨some 121, .pick (.tmp 117) (.tmp 120) (.cst (.bool false)), none, [8, 11], [117, 120]⟩,
 ⟨some 122, .mv (.tmp 121), none, [12, 11], [121]⟩,
 ⟨some 123, .mv (.tmp 2), (some ((some 122), true)), [13], [2]⟩,
 ⟨some 124, .mv (.tmp 3), (some ((some 122), true)), [13], [3]⟩,
 ⟨some 125, .call true i_cut_Leq [(.tmp 123), (.tmp 124)], (some ((some 122), true)), [14, 15, 13, 13], [123, 124]⟩,
 ⟨some 126, .un .not (.tmp 125), (some ((some 122), true)), [16, 13], [125]⟩,
 ⟨some 127, .pick (.tmp 122) (.tmp 126) (.cst (.bool false)), none, [13, 17], [122, 126]⟩,
 ⟨some 128, .mv (.tmp 127), none, [18, 16], [127]⟩,
 ⟨some 129, .mv (.tmp 2), (some ((some 128), true)), [19], [2]⟩,
 ⟨some 130, .build [(.int .i64 0), (.int .i64 0)] [(0, 1, (.cst (.int .i64 1))), (1, 1, (.cst (.int .i64 1)))], (some ((some 128), true)), [19], []⟩,
 ⟨some 131, .call true i_cut_Has [(.tmp 129), (.tmp 130)], (some ((some 128), true)), [20, 21, 19, 19], [129, 130]⟩,
 ⟨some 132, .pick (.tmp 128) (.tmp 131) (.cst (.bool false)), none, [19, 22], [128, 131]⟩,
 ⟨some 133, .mv (.tmp 132), none, [23, 22], [132]⟩,
 ⟨some 134, .mv (.tmp 2), (some ((some 133), true)), [24], [2]⟩,
 ⟨some 135, .build [(.int .i64 0), (.int .i64 0)] [(0, 1, (.cst (.int .i64 1))), (1, 1, (.cst (.int .i64 2)))], (some ((some 133), true)), [24], []⟩,
 ⟨some 136, .call true i_cut_Has [(.tmp 134), (.tmp 135)], (some ((some 133), true)), [25, 26, 24, 24], [134, 135]⟩,
 ⟨some 137, .un .not (.tmp 136), (some ((some 133), true)), [27, 24], [136]⟩,
 ⟨some 138, .pick (.tmp 133) (.tmp 137) (.cst (.bool false)), none, [24, 28], [133, 137]⟩,
 ⟨some 139, .mv (.tmp 138), none, [29, 27], [138]⟩,
 ⟨some 140, .mv (.tmp 1), (some ((some 139), true)), [30], [1]⟩,
 ⟨some 141, .iaddr 5 (.tmp 140) (.cst (.int .i64 0)), (some ((some 139), true)), [31, 30], [140]⟩,
 ⟨some 142, .load true 5 (.tmp 141), (some ((some 139), true)), [32, 30], [141]⟩,
 ⟨some 143, .mv (.tmp 1), (some ((some 139), true)), [30], [1]⟩,
 ⟨some 144, .iaddr 5 (.tmp 143) (.cst (.int .i64 2)), (some ((some 139), true)), [34, 30], [143]⟩,
 ⟨some 145, .load true 5 (.tmp 144), (some ((some 139), true)), [35, 30], [144]⟩,
 ⟨some 146, .call true i_cut_Sees [(.tmp 142), (.tmp 145)], (some ((some 139), true)), [33, 36, 30, 30], [142, 145]⟩,
 ⟨some 147, .pick (.tmp 139) (.tmp 146) (.cst (.bool false)), none, [30, 37], [139, 146]⟩,
 ⟨some 148, .mv (.tmp 147), none, [38, 37], [147]⟩,
 ⟨some 149, .mv (.tmp 1), (some ((some 148), true)), [39], [1]⟩,
 ⟨some 150, .iaddr 5 (.tmp 149) (.cst (.int .i64 1)), (some ((some 148), true)), [40, 39], [149]⟩,
 ⟨some 151, .load true 5 (.tmp 150), (some ((some 148), true)), [41, 39], [150]⟩,
 ⟨some 152, .mv (.tmp 1), (some ((some 148), true)), [39], [1]⟩,
 ⟨some 153, .iaddr 5 (.tmp 152) (.cst (.int .i64 2)), (some ((some 148), true)), [43, 39], [152]⟩,
 ⟨some 154, .load true 5 (.tmp 153), (some ((some 148), true)), [44, 39], [153]⟩,
 ⟨some 155, .call true i_cut_Sees [(.tmp 151), (.tmp 154)], (some ((some 148), true)), [42, 45, 39, 39], [151, 154]⟩,
 ⟨some 156, .un .not (.tmp 155), (some ((some 148), true)), [46, 39], [155]⟩,
 ⟨some 157, .pick (.tmp 148) (.tmp 156) (.cst (.bool false)), none, [39, 47], [148, 156]⟩,
 ⟨some 158, .mv (.tmp 157), none, [48, 46], [157]⟩,
 ⟨some 159, .mv (.tmp 1), (some ((some 158), true)), [49], [1]⟩,
 ⟨some 160, .iaddr 5 (.tmp 159) (.cst (.int .i64 1)), (some ((some 158), true)), [50, 49], [159]⟩,
 ⟨some 161, .load true 5 (.tmp 160), (some ((some 158), true)), [51, 49], [160]⟩,
 ⟨some 162, .mv (.tmp 1), (some ((some 158), true)), [49], [1]⟩,
 ⟨some 163, .iaddr 5 (.tmp 162) (.cst (.int .i64 2)), (some ((some 158), true)), [53, 49], [162]⟩,
 ⟨some 164, .load true 5 (.tmp 163), (some ((some 158), true)), [54, 49], [163]⟩,
 ⟨some 165, .call true i_cut_Before [(.tmp 161), (.tmp 164)], (some ((some 158), true)), [52, 55, 49, 49], [161, 164]⟩,
 ⟨some 166, .pick (.tmp 158) (.tmp 165) (.cst (.bool false)), none, [49, 56], [158, 165]⟩,
 ⟨some 167, .mv (.tmp 166), none, [57, 56], [166]⟩,
 ⟨some 168, .mv (.tmp 1), (some ((some 167), true)), [58], [1]⟩,
 ⟨some 169, .iaddr 5 (.tmp 168) (.cst (.int .i64 2)), (some ((some 167), true)), [59, 58], [168]⟩,
 ⟨some 170, .load true 5 (.tmp 169), (some ((some 167), true)), [60, 58], [169]⟩,
 ⟨some 171, .mv (.tmp 1), (some ((some 167), true)), [58], [1]⟩,
 ⟨some 172, .iaddr 5 (.tmp 171) (.cst (.int .i64 1)), (some ((some 167), true)), [62, 58], [171]⟩,
 ⟨some 173, .load true 5 (.tmp 172), (some ((some 167), true)), [63, 58], [172]⟩,
 ⟨some 174, .call true i_cut_Before [(.tmp 170), (.tmp 173)], (some ((some 167), true)), [61, 64, 58, 58], [170, 173]⟩,
 ⟨some 175, .un .not (.tmp 174), (some ((some 167), true)), [65, 58], [174]⟩,
 ⟨some 176, .pick (.tmp 167) (.tmp 175) (.cst (.bool false)), none, [58, 66], [167, 175]⟩,
 ⟨some 177, .mv (.tmp 176), none, [67, 65], [176]⟩,
 ⟨some 178, .mv (.tmp 1), (some ((some 177), true)), [68], [1]⟩,
 ⟨some 179, .iaddr 5 (.tmp 178) (.cst (.int .i64 0)), (some ((some 177), true)), [69, 68], [178]⟩,
 ⟨some 180, .load true 5 (.tmp 179), (some ((some 177), true)), [70, 68], [179]⟩,
 ⟨some 181, .call true i_cut_WellFormed [(.tmp 180)], (some ((some 177), true)), [71, 68, 68], [180]⟩,
 ⟨some 182, .pick (.tmp 177) (.tmp 181) (.cst (.bool false)), none, [68, 72], [177, 181]⟩,
 ⟨some 183, .mv (.tmp 182), none, [73, 72], [182]⟩,
 ⟨some 184, .build [(.int .i64 0), (.int .i64 0), .nils, (.int .i64 0), .nils] [], (some ((some 183), true)), [74], []⟩,
 ⟨some 185, .call true i_cut_WellFormed [(.tmp 184)], (some ((some 183), true)), [75, 74, 74], [184]⟩,
 ⟨some 186, .un .not (.tmp 185), (some ((some 183), true)), [76, 74], [185]⟩,
 ⟨some 187, .pick (.tmp 183) (.tmp 186) (.cst (.bool false)), none, [74, 77], [183, 186]⟩,
 ⟨some 188, .mv (.tmp 187), none, [78, 76], [187]⟩,
 ⟨some 189, .mv (.tmp 3), (some ((some 188), true)), [79], [3]⟩,
 ⟨some 190, .mv (.tmp 2), (some ((some 188), true)), [79], [2]⟩,
 ⟨some 191, .call true i_l20_join [(.tmp 189), (.tmp 190)], (some ((some 188), true)), [80, 81, 79, 79], [189, 190]⟩,
 ⟨some 192, .mv (.tmp 2), (some ((some 188), true)), [79], [2]⟩,
 ⟨some 193, .build [.nils, (.int .i64 0)] [(0, 1, (.tmp 192))], (some ((some 188), true)), [83, 79], [192]⟩,
 ⟨some 194, .call true i_r20_Alike [(.tmp 191), (.tmp 193)], (some ((some 188), true)), [82, 84, 82, 79], [191, 193]⟩,
 ⟨some 195, .pick (.tmp 188) (.tmp 194) (.cst (.bool false)), none, [79, 85], [188, 194]⟩,
 ⟨some 196, .mv (.tmp 195), none, [86, 85], [195]⟩,
 ⟨some 197, .mv (.tmp 4), (some ((some 196), true)), [87], [4]⟩,
 ⟨some 198, .mv (.tmp 2), (some ((some 196), true)), [87], [2]⟩,
 ⟨some 199, .call true i_l20_meet [(.tmp 197), (.tmp 198)], (some ((some 196), true)), [88, 89, 87, 87], [197, 198]⟩,
 ⟨some 200, .mv (.tmp 4), (some ((some 196), true)), [87], [4]⟩,
 ⟨some 201, .build [.nils, (.int .i64 0)] [(0, 1, (.tmp 200))], (some ((some 196), true)), [91, 87], [200]⟩,
 ⟨some 202, .call true i_r20_Alike [(.tmp 199), (.tmp 201)], (some ((some 196), true)), [90, 92, 90, 87], [199, 201]⟩,
 ⟨some 203, .pick (.tmp 196) (.tmp 202) (.cst (.bool false)), none, [87, 93], [196, 202]⟩,
 ⟨some 204, .mv (.tmp 203), none, [94, 93], [203]⟩,
 ⟨some 205, .mv (.tmp 3), (some ((some 204), true)), [95], [3]⟩,
 ⟨some 206, .call true i_l20_join [(.tmp 205), (.cst .nils)], (some ((some 204), true)), [96, 95, 95], [205]⟩,
 ⟨some 207, .field 1 1 false (.tmp 206), (some ((some 204), true)), [97, 95], [206]⟩,
 ⟨some 208, .bin .eql (.tmp 207) (.cst (.int .i64 200)), (some ((some 204), true)), [98, 95], [207]⟩,
 ⟨some 209, .pick (.tmp 204) (.tmp 208) (.cst (.bool false)), none, [95, 99], [204, 208]⟩,
 ⟨some 0, .mv (.tmp 209), none, [100, 97, 0, 1, 2, 3, 4, 5, 6, 7, 8, 9, 10, 11, 12, 13, 14, 15, 16, 17, 18, 19, 20, 21, 22, 23, 24, 25, 26, 27, 28, 29, 30, 31, 32, 33, 34, 35, 36, 37, 38, 39, 40, 41, 42, 43, 44, 45, 46, 47, 48, 49, 50, 51, 52, 53, 54, 55, 56, 57, 58, 59, 60, 61, 62, 63, 64, 65, 66, 67, 68, 69, 70, 71, 72, 73, 74, 75, 76, 77, 78, 79, 80, 81, 82, 83, 84, 85, 86, 87, 88, 89, 90, 91, 92, 93, 94, 95, 96, 97, 98, 99, 100], [209]⟩])
  .ret))
def l20_examples.c1 : ACode := (.ghost (.kill [61, 62, 63, 64]))
def l20_examples.c2 : ACode := (.seq (.seq (.seq (.region false [
 ⟨some 19, .mv (.tmp 1), none, [], []⟩,
 ⟨some 20, .mv (.tmp 2), none, [], []⟩,
 ⟨some 21, .call true i_cut_Closed [(.tmp 19), (.tmp 20)], none, [], []⟩,
 ⟨some 22, .un .not (.tmp 21), none, [], []⟩,
 ⟨some 23, .mv (.tmp 22), none, [], []⟩,
 ⟨some 24, .mv (.tmp 1), (some ((some 23), false)), [], []⟩,
 ⟨some 25, .mv (.tmp 3), (some ((some 23), false)), [], []⟩,
 ⟨some 26, .call true i_cut_Closed [(.tmp 24), (.tmp 25)], (some ((some 23), false)), [], []⟩,
 ⟨some 27, .un .not (.tmp 26), (some ((some 23), false)), [], []⟩,
 ⟨some 28, .pick (.tmp 23) (.cst (.bool true)) (.tmp 27), none, [], []⟩,
 ⟨some 29, .mv (.tmp 28), none, [], []⟩,
 ⟨some 30, .mv (.tmp 1), (some ((some 29), false)), [], []⟩,
 ⟨some 31, .mv (.tmp 4), (some ((some 29), false)), [], []⟩,
 ⟨some 32, .call true i_cut_Closed [(.tmp 30), (.tmp 31)], (some ((some 29), false)), [], []⟩,
 ⟨some 33, .pick (.tmp 29) (.cst (.bool true)) (.tmp 32), none, [], []⟩,
 ⟨some 34, .mv (.tmp 33), none, [], []⟩,
 ⟨some 35, .mv (.tmp 1), (some ((some 34), false)), [], []⟩,
 ⟨some 36, .mv (.tmp 4), (some ((some 34), false)), [], []⟩,
 ⟨some 37, .call true i_l20_greatest [(.tmp 35), (.tmp 36)], (some ((some 34), false)), [], []⟩,
 ⟨some 38, .mv (.tmp 3), (some ((some 34), false)), [], []⟩,
 ⟨some 39, .build [.nils, (.int .i64 0)] [(0, 1, (.tmp 38))], (some ((some 34), false)), [], []⟩,
 ⟨some 40, .call true i_r20_Alike [(.tmp 37), (.tmp 39)], (some ((some 34), false)), [], []⟩,
 ⟨some 41, .un .not (.tmp 40), (some ((some 34), false)), [], []⟩,
 ⟨some 42, .pick (.tmp 34) (.cst (.bool true)) (.tmp 41), none, [], []⟩,
 ⟨some 43, .mv (.tmp 42), none, [], []⟩,
 ⟨some 44, .mv (.tmp 1), (some ((some 43), false)), [], []⟩,
 ⟨some 45, .call true i_r20_All [], (some ((some 43), false)), [], []⟩,
 ⟨some 46, .call true i_l20_greatest [(.tmp 44), (.tmp 45)], (some ((some 43), false)), [], []⟩,
 ⟨some 47, .mv (.tmp 2), (some ((some 43), false)), [], []⟩,
 ⟨some 48, .build [.nils, (.int .i64 0)] [(0, 1, (.tmp 47))], (some ((some 43), false)), [], []⟩,
 ⟨some 49, .call true i_r20_Alike [(.tmp 46), (.tmp 48)], (some ((some 43), false)), [], []⟩,
 ⟨some 50, .un .not (.tmp 49), (some ((some 43), false)), [], []⟩,
 ⟨some 51, .pick (.tmp 43) (.cst (.bool true)) (.tmp 50), none, [], []⟩,
 ⟨some 52, .mv (.tmp 51), none, [], []⟩,
 ⟨some 53, .mv (.tmp 1), (some ((some 52), false)), [], []⟩,
 ⟨some 54, .call true i_cut_Consistent [(.tmp 53)], (some ((some 52), false)), [], []⟩,
 ⟨some 55, .un .not (.tmp 54), (some ((some 52), false)), [], []⟩,
 ⟨some 56, .pick (.tmp 52) (.cst (.bool true)) (.tmp 55), none, [], []⟩,
 ⟨some 57, .mv (.tmp 56), none, [], []⟩,
 ⟨some 58, .mv (.tmp 1), (some ((some 57), false)), [], []⟩,
 ⟨some 59, .slice 5 (.tmp 58) none (some (.cst (.int .i64 2))) none, (some ((some 57), false)), [], []⟩,
 ⟨some 60, .call true i_cut_Consistent [(.tmp 59)], (some ((some 57), false)), [], []⟩,
 ⟨some 61, .pick (.tmp 57) (.cst (.bool true)) (.tmp 60), none, [], []⟩])
  (.ghost (.kill [19, 20, 21, 22, 23, 24, 25, 26, 27, 28, 29, 30, 31, 32, 33, 34, 35, 36, 37, 38, 39, 40, 41, 42, 43, 44, 45, 46, 47, 48, 49, 50, 51, 52, 53, 54, 55, 56, 57, 58, 59, 60])))
  (.cond (.tmp 61) (.seq (.region false [
      ⟨some 0, .mv (.cst (.bool false)), none, [], []⟩])
    .ret)
  .skip))
  (.seq (.seq (.region false [
 ⟨some 62, .mv (.tmp 1), none, [], []⟩,
 ⟨some 63, .mv (.tmp 2), none, [], []⟩,
 ⟨some 64, .call true i_l20_order [(.tmp 62), (.tmp 63)], none, [], []⟩,
 ⟨some 5, .alloc [.nils, (.int .i64 0)], none, [], []⟩,
 ⟨none, .store 2 (.tmp 5) (.tmp 64), none, [], []⟩])
  l20_examples.c1)
  l20_examples.c0))
def l20_examples.main : ACode := (.seq (.seq (.region false [
 ⟨some 0, .mv (.cst (.bool false)), none, [], []⟩])
  (.ghost (.kill [0])))
  (.seq (.seq (.seq (.region false [
 ⟨some 6, .build [(.int .i64 0), (.int .i64 0)] [(0, 1, (.cst (.int .i64 0))), (1, 1, (.cst (.int .i64 2)))], none, [], []⟩,
 ⟨some 7, .bslice 1 6 [(.int .i64 0)] [(0, (.cst (.int .i64 1))), (1, (.cst (.int .i64 1))), (2, (.cst (.int .i64 0))), (3, (.cst (.int .i64 0))), (4, (.cst (.int .i64 0))), (5, (.cst (.int .i64 0)))], none, [], []⟩,
 ⟨some 8, .build [(.int .i64 0), (.int .i64 0), .nils, (.int .i64 0), .nils] [(0, 2, (.tmp 6)), (2, 1, (.tmp 7))], none, [], []⟩,
 ⟨some 9, .build [(.int .i64 0), (.int .i64 0)] [(0, 1, (.cst (.int .i64 0))), (1, 1, (.cst (.int .i64 1)))], none, [], []⟩,
 ⟨some 10, .call true i_r20_Zero [], none, [], []⟩,
 ⟨some 11, .build [(.int .i64 0), (.int .i64 0), .nils, (.int .i64 0), .nils] [(0, 2, (.tmp 9)), (2, 1, (.tmp 10))], none, [], []⟩,
 ⟨some 12, .build [(.int .i64 0), (.int .i64 0)] [(0, 1, (.cst (.int .i64 1))), (1, 1, (.cst (.int .i64 1)))], none, [], []⟩,
 ⟨some 13, .call true i_r20_Zero [], none, [], []⟩,
 ⟨some 14, .build [(.int .i64 0), (.int .i64 0), .nils, (.int .i64 0), .nils] [(0, 2, (.tmp 12)), (2, 1, (.tmp 13))], none, [], []⟩,
 ⟨some 15, .bslice 5 3 [(.int .i64 0), (.int .i64 0), .nils, (.int .i64 0), .nils] [(0, (.tmp 8)), (1, (.tmp 11)), (2, (.tmp 14))], none, [], []⟩,
 ⟨some 1, .mv (.tmp 15), none, [], []⟩])
  (.ghost (.dfreeze 1)))
  (.ghost (.kill [6, 7, 8, 9, 10, 11, 12, 13, 14, 15])))
  (.seq (.seq (.seq (.seq (.seq (.region false [
 ⟨some 16, .bslice 1 6 [(.int .i64 0)] [(0, (.cst (.int .i64 2))), (1, (.cst (.int .i64 1))), (2, (.cst (.int .i64 0))), (3, (.cst (.int .i64 0))), (4, (.cst (.int .i64 0))), (5, (.cst (.int .i64 0)))], none, [], []⟩,
 ⟨some 17, .bslice 1 6 [(.int .i64 0)] [(0, (.cst (.int .i64 1))), (1, (.cst (.int .i64 0))), (2, (.cst (.int .i64 0))), (3, (.cst (.int .i64 0))), (4, (.cst (.int .i64 0))), (5, (.cst (.int .i64 0)))], none, [], []⟩,
 ⟨some 18, .bslice 1 6 [(.int .i64 0)] [(0, (.cst (.int .i64 2))), (1, (.cst (.int .i64 0))), (2, (.cst (.int .i64 0))), (3, (.cst (.int .i64 0))), (4, (.cst (.int .i64 0))), (5, (.cst (.int .i64 0)))], none, [], []⟩,
 ⟨some 2, .mv (.tmp 16), none, [], []⟩,
 ⟨some 3, .mv (.tmp 17), none, [], []⟩,
 ⟨some 4, .mv (.tmp 18), none, [], []⟩])
  (.ghost (.dfreeze 2)))
  (.ghost (.dfreeze 3)))
  (.ghost (.dfreeze 4)))
  (.ghost (.kill [16, 17, 18])))
  l20_examples.c2)))
def l20_examples : AFunc := ⟨210, [.tmp 0], l20_examples.main⟩
/-- chapman/chapmanlaw20.short -/
def l20_short.c0 : ACode := (.seq (.region false [
 ⟨some 21, .mv (.tmp 0), none, [], []⟩,
 ⟨some 22, .len .sl (.tmp 21), none, [], []⟩,
 ⟨some 23, .bin .leq (.tmp 22) (.cst (.int .i64 20)), none, [], []⟩,
 ⟨some 2, .mv (.tmp 23), none, [], []⟩])
  .ret)
def l20_short.b0 : ACode := (.seq (.seq (.seq (.region false [
 ⟨some 4, .mv (.tmp 3), none, [], []⟩,
 ⟨some 5, .mv (.tmp 0), none, [], []⟩,
 ⟨some 6, .len .sl (.tmp 5), none, [], []⟩,
 ⟨some 7, .bin .lss (.tmp 4) (.tmp 6), none, [], []⟩,
 ⟨some 8, .mv (.tmp 7), none, [], []⟩,
 ⟨some 9, .mv (.tmp 3), (some ((some 8), true)), [], []⟩,
 ⟨some 10, .bin .lss (.tmp 9) (.cst (.int .i64 21)), (some ((some 8), true)), [], []⟩,
 ⟨some 11, .pick (.tmp 8) (.tmp 10) (.cst (.bool false)), none, [], []⟩])
  (.ghost (.kill [4, 5, 6, 7, 8, 9, 10])))
  (.cond (.tmp 11) .skip
  (.exit 0)))
  (.seq (.seq (.block 1 (.seq (.seq (.region false [
 ⟨some 14, .mv (.tmp 0), none, [], []⟩,
 ⟨some 15, .mv (.tmp 3), none, [], []⟩,
 ⟨some 16, .iaddr 5 (.tmp 14) (.tmp 15), none, [], []⟩,
 ⟨some 17, .faddr 2 (.tmp 16), none, [], []⟩,
 ⟨some 18, .load false 1 (.tmp 17), none, [], []⟩,
 ⟨some 19, .len .sl (.tmp 18), none, [], []⟩,
 ⟨some 20, .bin .gtr (.tmp 19) (.cst (.int .i64 9)), none, [], []⟩])
  (.ghost (.kill [11, 14, 15, 16, 17, 18, 19])))
  (.cond (.tmp 20) (.seq (.region false [
      ⟨some 2, .mv (.cst (.bool false)), none, [], []⟩])
    .ret)
  .skip)))
  (.ghost (.kill [20])))
  (.seq (.region false [
 ⟨some 12, .mv (.tmp 3), none, [], []⟩,
 ⟨some 13, .bin .add (.tmp 12) (.cst (.int .i64 1)), none, [], []⟩,
 ⟨some 3, .mv (.tmp 13), none, [], []⟩])
  (.ghost (.kill [12, 13])))))
def l20_short.main : ACode := (.seq (.seq (.region false [
 ⟨some 2, .mv (.cst (.bool false)), none, [], []⟩])
  (.ghost (.kill [2])))
  (.seq (.seq (.region false [
 ⟨some 3, .mv (.cst (.int .i64 0)), none, [], []⟩])
  (.seq (.block 0 (.loop l20_short.b0))
  (.ghost (.kill [3, 11]))))
  l20_short.c0))
def l20_short.k0 : List Item := [.inBlock 0, .code (.ghost (.kill [3, 11])), .code l20_short.c0]
def l20_short : AFunc := ⟨24, [.tmp 2], l20_short.main⟩
/-- chapman/chapmanref20.Headers -/
def r20_Headers.c0 : ACode := (.seq (.region false [
 ⟨some 84, .mv (.tmp 3), none, [], []⟩,
 ⟨some 2, .mv (.tmp 84), none, [], []⟩])
  .ret)
def r20_Headers.c1 : ACode := (.ghost (.kill [0, 4, 5, 20]))
def r20_Headers.c2 : ACode := (.seq (.region false [
 ⟨some 21, .mv (.tmp 5), none, [], []⟩,
 ⟨some 22, .bin .add (.tmp 21) (.cst (.int .i64 1)), none, [], []⟩,
 ⟨some 5, .mv (.tmp 22), none, [], []⟩])
  (.ghost (.kill [21, 22])))
def r20_Headers.c3 : ACode := (.seq (.seq (.region true [
 ⟨some 56, .mv (.tmp 3), none, [], [3]⟩,
 ⟨some 57, .mv (.tmp 6), none, [], [6]⟩,
 ⟨some 58, .mv (.tmp 4), none, [], [4]⟩,
 ⟨some 59, .mv (.tmp 6), none, [], [6]⟩,
 ⟨some 60, .iaddr 1 (.tmp 58) (.tmp 59), none, [2, 3], [58, 59]⟩,
 ⟨some 61, .load false 1 (.tmp 60), none, [4], [60]⟩,
 ⟨some 62, .mv (.tmp 6), none, [], [6]⟩,
 ⟨some 63, .iaddr 1 (.tmp 61) (.tmp 62), none, [5, 6], [61, 62]⟩,
 ⟨some 64, .load false 1 (.tmp 63), none, [7], [63]⟩,
 ⟨some 65, .bin .add (.tmp 64) (.cst (.int .i64 1)), none, [8], [64]⟩,
 ⟨some 66, .build [(.int .i64 0), (.int .i64 0)] [(0, 1, (.tmp 57)), (1, 1, (.tmp 65))], none, [1, 9], [57, 65]⟩,
 ⟨some 67, .mv (.tmp 4), none, [], [4]⟩,
 ⟨some 68, .mv (.tmp 6), none, [], [6]⟩,
 ⟨some 69, .iaddr 1 (.tmp 67) (.tmp 68), none, [11, 12], [67, 68]⟩,
 ⟨some 70, .load false 1 (.tmp 69), none, [13], [69]⟩,
 ⟨some 71, .build [(.int .i64 0), (.int .i64 0), .nils, (.int .i64 0), .nils] [(0, 2, (.tmp 66)), (2, 1, (.tmp 70))], none, [10, 14], [66, 70]⟩,
 ⟨some 72, .bslice 5 1 [(.int .i64 0), (.int .i64 0), .nils, (.int .i64 0), .nils] [(0, (.tmp 71))], none, [15], [71]⟩,
 ⟨some 73, .append 5 72 (.tmp 56) (.tmp 72), none, [0, 16], [56, 72]⟩,
 ⟨some 3, .mv (.tmp 73), none, [17, 17, 0, 1, 2, 3, 4, 5, 6, 7, 8, 9, 10, 11, 12, 13, 14, 15, 16, 17], [73]⟩])
  (.ghost (.kill [56, 57, 58, 59, 60, 61, 62, 63, 64, 65, 66, 67, 68, 69, 70, 71, 72, 73])))
  (.seq (.region false [
 ⟨some 74, .mv (.tmp 4), none, [], []⟩,
 ⟨some 75, .mv (.tmp 6), none, [], []⟩,
 ⟨some 76, .mv (.tmp 3), none, [], []⟩,
 ⟨some 77, .mv (.tmp 3), none, [], []⟩,
 ⟨some 78, .len .sl (.tmp 77), none, [], []⟩,
 ⟨some 79, .bin .sub (.tmp 78) (.cst (.int .i64 1)), none, [], []⟩,
 ⟨some 80, .iaddr 5 (.tmp 76) (.tmp 79), none, [], []⟩,
 ⟨some 81, .load true 5 (.tmp 80), none, [], []⟩,
 ⟨some 82, .call true i_r20_Own [(.tmp 81)], none, [], []⟩,
 ⟨some 83, .iaddr 1 (.tmp 74) (.tmp 75), none, [], []⟩,
 ⟨none, .store 1 (.tmp 83) (.tmp 82), none, [], []⟩])
  (.ghost (.kill [6, 74, 75, 76, 77, 78, 79, 80, 81, 82, 83]))))
def r20_Headers.b0 : ACode := (.seq (.seq (.seq (.region false [
 ⟨some 13, .mv (.tmp 5), none, [], []⟩,
 ⟨some 14, .mv (.tmp 0), none, [], []⟩,
 ⟨some 15, .len .sl (.tmp 14), none, [], []⟩,
 ⟨some 16, .bin .lss (.tmp 13) (.tmp 15), none, [], []⟩,
 ⟨some 17, .mv (.tmp 16), none, [], []⟩,
 ⟨some 18, .mv (.tmp 5), (some ((some 17), true)), [], []⟩,
 ⟨some 19, .bin .lss (.tmp 18) (.cst (.int .i64 12)), (some ((some 17), true)), [], []⟩,
 ⟨some 20, .pick (.tmp 17) (.tmp 19) (.cst (.bool false)), none, [], []⟩])
  (.ghost (.kill [13, 14, 15, 16, 17, 18, 19])))
  (.cond (.tmp 20) .skip
  (.exit 0)))
  (.seq (.trunc (.block 1 (.seq (.seq (.region true [
 ⟨some 23, .mv (.tmp 0), none, [], [0]⟩,
 ⟨some 24, .mv (.tmp 5), none, [], [5]⟩,
 ⟨some 25, .iaddr 1 (.tmp 23) (.tmp 24), none, [0, 1], [23, 24]⟩,
 ⟨some 26, .load false 1 (.tmp 25), none, [2], [25]⟩,
 ⟨some 27, .bin .rem (.tmp 26) (.cst (.int .u8 3)), none, [3], [26]⟩,
 ⟨some 28, .conv .i64 (.tmp 27), none, [4], [27]⟩,
 ⟨some 29, .mv (.tmp 0), none, [], [0]⟩,
 ⟨some 30, .mv (.tmp 5), none, [], [5]⟩,
 ⟨some 31, .iaddr 1 (.tmp 29) (.tmp 30), none, [6, 7], [29, 30]⟩,
 ⟨some 32, .load false 1 (.tmp 31), none, [8], [31]⟩,
 ⟨some 33, .bin .quo (.tmp 32) (.cst (.int .u8 3)), none, [9], [32]⟩,
 ⟨some 34, .bin .rem (.tmp 33) (.cst (.int .u8 3)), none, [10], [33]⟩,
 ⟨some 35, .conv .i64 (.tmp 34), none, [11], [34]⟩,
 ⟨some 6, .mv (.tmp 28), none, [5, 0, 1, 2, 3, 4, 5], [28]⟩,
 ⟨some 7, .mv (.tmp 35), none, [12, 13, 0, 1, 2, 3, 4, 5, 6, 7, 8, 9, 10, 11, 12, 13], [35]⟩])
  (.ghost (.kill [20, 23, 24, 25, 26, 27, 28, 29, 30, 31, 32, 33, 34, 35])))
  (.seq (.seq (.seq (.region false [
 ⟨some 36, .mv (.tmp 0), none, [], []⟩,
 ⟨some 37, .mv (.tmp 5), none, [], []⟩,
 ⟨some 38, .iaddr 1 (.tmp 36) (.tmp 37), none, [], []⟩,
 ⟨some 39, .load false 1 (.tmp 38), none, [], []⟩,
 ⟨some 40, .bin .quo (.tmp 39) (.cst (.int .u8 9)), none, [], []⟩,
 ⟨some 41, .bin .rem (.tmp 40) (.cst (.int .u8 3)), none, [], []⟩,
 ⟨some 42, .bin .gtr (.tmp 41) (.cst (.int .u8 0)), none, [], []⟩])
  (.ghost (.kill [36, 37, 38, 39, 40, 41])))
  (.seq (.cond (.tmp 42) (.seq (.region true [
      ⟨some 43, .mv (.tmp 4), none, [], [4]⟩,
      ⟨some 44, .mv (.tmp 6), none, [], [6]⟩,
      ⟨some 45, .mv (.tmp 4), none, [], [4]⟩,
      ⟨some 46, .mv (.tmp 6), none, [], [6]⟩,
      ⟨some 47, .iaddr 1 (.tmp 45) (.tmp 46), none, [2, 3], [45, 46]⟩,
      ⟨some 48, .load false 1 (.tmp 47), none, [4], [47]⟩,
      ⟨some 49, .mv (.tmp 4), none, [], [4]⟩,
      ⟨some 50, .mv (.tmp 7), none, [], [7]⟩,
      ⟨some 51, .iaddr 1 (.tmp 49) (.tmp 50), none, [6, 7], [49, 50]⟩,
      ⟨some 52, .load false 1 (.tmp 51), none, [8], [51]⟩,
      ⟨some 53, .call true i_r20_JoinIn [(.tmp 48), (.tmp 52)], none, [5, 9], [48, 52]⟩,
      ⟨some 54, .field 0 1 false (.tmp 53), none, [10], [53]⟩,
      ⟨some 55, .iaddr 1 (.tmp 43) (.tmp 44), none, [0, 1, 0, 1, 2, 3, 4, 5, 6, 7, 8, 9, 10, 11], [43, 44]⟩,
      ⟨none, .store 1 (.tmp 55) (.tmp 54), none, [12, 11, 10, 0, 1, 2, 3, 4, 5, 6, 7, 8, 9, 10, 11], [55, 54]⟩])
    (.ghost (.kill [7, 42, 43, 44, 45, 46, 47, 48, 49, 50, 51, 52, 53, 54, 55])))
  .skip)
  (.ghost (.kill [7, 42]))))
  r20_Headers.c3))))
  r20_Headers.c2))
def r20_Headers.main : ACode := (.seq (.seq (.region false [
 ⟨some 2, .mv (.cst .nils), none, [], []⟩])
  (.ghost (.kill [2])))
  (.seq (.seq (.region false [
 ⟨some 8, .bslice 5 0 [(.int .i64 0), (.int .i64 0), .nils, (.int .i64 0), .nils] [], none, [], []⟩,
 ⟨some 3, .mv (.tmp 8), none, [], []⟩])
  (.ghost (.kill [8])))
  (.seq (.seq (.region false [
 ⟨some 9, .call true i_r20_Zero [], none, [], []⟩,
 ⟨some 10, .call true i_r20_Zero [], none, [], []⟩,
 ⟨some 11, .call true i_r20_Zero [], none, [], []⟩,
 ⟨some 12, .bslice 1 3 [.nils] [(0, (.tmp 9)), (1, (.tmp 10)), (2, (.tmp 11))], none, [], []⟩,
 ⟨some 4, .mv (.tmp 12), none, [], []⟩])
  (.ghost (.kill [9, 10, 11, 12])))
  (.seq (.seq (.region false [
 ⟨some 5, .mv (.cst (.int .i64 0)), none, [], []⟩])
  (.seq (.block 0 (.loop r20_Headers.b0))
  r20_Headers.c1))
  r20_Headers.c0))))
def r20_Headers.k0 : List Item := [.inBlock 0, .code r20_Headers.c1, .code r20_Headers.c0]
def r20_Headers : AFunc := ⟨85, [.tmp 2], r20_Headers.main⟩
/-- chapman/chapmanlaw20.spoiled -/
def l20_spoiled.c0 : ACode := (.seq (.seq (.region true [
 ⟨some 93, .mv (.tmp 5), none, [], [5]⟩,
 ⟨some 94, .mv (.tmp 1), none, [], [1]⟩,
 ⟨some 95, .iaddr 1 (.tmp 94) (.cst (.int .i64 0)), none, [1], [94]⟩,
 ⟨some 96, .load false 1 (.tmp 95), none, [2], [95]⟩,
 ⟨some 97, .conv .i64 (.tmp 96), none, [3], [96]⟩,
 ⟨some 98, .mv (.tmp 5), none, [], [5]⟩,
 ⟨some 99, .len .sl (.tmp 98), none, [5], [98]⟩,
 ⟨some 100, .bin .rem (.tmp 97) (.tmp 99), none, [4, 6], [97, 99]⟩,
 ⟨some 101, .load true 5 (.tmp 6), none, [], [6]⟩,
 ⟨some 102, .iaddr 5 (.tmp 93) (.tmp 100), none, [0, 7, 0, 1, 2, 3, 4, 5, 6, 7, 8], [93, 100]⟩,
 ⟨none, .store 5 (.tmp 102) (.tmp 101), none, [9, 8, 0, 1, 2, 3, 4, 5, 6, 7, 8], [102, 101]⟩])
  (.ghost (.kill [1, 6, 93, 94, 95, 96, 97, 98, 99, 100, 101, 102])))
  (.seq (.region false [
 ⟨some 103, .mv (.tmp 5), none, [], []⟩,
 ⟨some 4, .mv (.tmp 103), none, [], []⟩])
  .ret))
def l20_spoiled.main : ACode := (.seq (.seq (.region false [
 ⟨some 4, .mv (.cst .nils), none, [], []⟩])
  (.ghost (.kill [4])))
  (.seq (.seq (.region false [
 ⟨some 7, .bslice 5 0 [(.int .i64 0), (.int .i64 0), .nils, (.int .i64 0), .nils] [], none, [], []⟩,
 ⟨some 8, .mv (.tmp 0), none, [], []⟩,
 ⟨some 9, .append 5 72 (.tmp 7) (.tmp 8), none, [], []⟩,
 ⟨some 5, .mv (.tmp 9), none, [], []⟩])
  (.ghost (.kill [0, 7, 8, 9])))
  (.seq (.seq (.seq (.region false [
 ⟨some 10, .mv (.tmp 5), none, [], []⟩,
 ⟨some 11, .len .sl (.tmp 10), none, [], []⟩,
 ⟨some 12, .bin .eql (.tmp 11) (.cst (.int .i64 0)), none, [], []⟩,
 ⟨some 13, .mv (.tmp 12), none, [], []⟩,
 ⟨some 14, .mv (.tmp 1), (some ((some 13), false)), [], []⟩,
 ⟨some 15, .len .sl (.tmp 14), (some ((some 13), false)), [], []⟩,
 ⟨some 16, .bin .lss (.tmp 15) (.cst (.int .i64 3)), (some ((some 13), false)), [], []⟩,
 ⟨some 17, .pick (.tmp 13) (.cst (.bool true)) (.tmp 16), none, [], []⟩])
  (.ghost (.kill [10, 11, 12, 13, 14, 15, 16])))
  (.cond (.tmp 17) (.seq (.region false [
      ⟨some 18, .mv (.tmp 5), none, [], []⟩,
      ⟨some 4, .mv (.tmp 18), none, [], []⟩])
    .ret)
  .skip))
  (.seq (.seq (.region false [
 ⟨some 19, .mv (.tmp 5), none, [], []⟩,
 ⟨some 20, .mv (.tmp 1), none, [], []⟩,
 ⟨some 21, .iaddr 1 (.tmp 20) (.cst (.int .i64 0)), none, [], []⟩,
 ⟨some 22, .load false 1 (.tmp 21), none, [], []⟩,
 ⟨some 23, .conv .i64 (.tmp 22), none, [], []⟩,
 ⟨some 24, .mv (.tmp 5), none, [], []⟩,
 ⟨some 25, .len .sl (.tmp 24), none, [], []⟩,
 ⟨some 26, .bin .rem (.tmp 23) (.tmp 25), none, [], []⟩,
 ⟨some 27, .iaddr 5 (.tmp 19) (.tmp 26), none, [], []⟩,
 ⟨some 28, .load true 5 (.tmp 27), none, [], []⟩,
 ⟨some 6, .alloc [(.int .i64 0), (.int .i64 0), .nils, (.int .i64 0), .nils], none, [], []⟩,
 ⟨none, .store 5 (.tmp 6) (.tmp 28), none, [], []⟩])
  (.ghost (.kill [17, 19, 20, 21, 22, 23, 24, 25, 26, 27, 28])))
  (.seq (.seq (.region false [
 ⟨some 29, .bslice 1 0 [(.int .i64 0)] [], none, [], []⟩,
 ⟨some 30, .faddr 2 (.tmp 6), none, [], []⟩,
 ⟨some 31, .load false 1 (.tmp 30), none, [], []⟩,
 ⟨some 32, .append 1 8 (.tmp 29) (.tmp 31), none, [], []⟩,
 ⟨some 33, .faddr 2 (.tmp 6), none, [], []⟩,
 ⟨none, .store 1 (.tmp 33) (.tmp 32), none, [], []⟩])
  (.ghost (.kill [29, 30, 31, 32, 33])))
  (.seq (.seq (.seq (.region false [
 ⟨some 34, .mv (.tmp 1), none, [], []⟩,
 ⟨some 35, .iaddr 1 (.tmp 34) (.cst (.int .i64 1)), none, [], []⟩,
 ⟨some 36, .load false 1 (.tmp 35), none, [], []⟩,
 ⟨some 37, .bin .rem (.tmp 36) (.cst (.int .u8 4)), none, [], []⟩])
  (.ghost (.kill [34, 35, 36])))
  (.block 0 (.seq (.seq (.region false [
 ⟨some 60, .bin .eql (.tmp 37) (.cst (.int .u8 0)), none, [], []⟩,
 ⟨some 59, .mv (.tmp 60), none, [], []⟩])
  (.ghost (.kill [60])))
  (.cond (.tmp 59) (.seq (.region false [
      ⟨some 61, .mv (.tmp 1), none, [], []⟩,
      ⟨some 62, .iaddr 1 (.tmp 61) (.cst (.int .i64 2)), none, [], []⟩,
      ⟨some 63, .load false 1 (.tmp 62), none, [], []⟩,
      ⟨some 64, .bin .rem (.tmp 63) (.cst (.int .u8 8)), none, [], []⟩,
      ⟨some 65, .conv .i64 (.tmp 64), none, [], []⟩,
      ⟨some 66, .bin .sub (.tmp 65) (.cst (.int .i64 1)), none, [], []⟩,
      ⟨some 67, .faddr 0 (.tmp 6), none, [], []⟩,
      ⟨some 68, .faddr 0 (.tmp 67), none, [], []⟩,
      ⟨none, .store 1 (.tmp 68) (.tmp 66), none, [], []⟩])
    (.ghost (.kill [37, 59, 61, 62, 63, 64, 65, 66, 67, 68])))
  (.seq (.seq (.region false [
      ⟨some 70, .bin .eql (.tmp 37) (.cst (.int .u8 1)), none, [], []⟩,
      ⟨some 69, .mv (.tmp 70), none, [], []⟩])
    (.ghost (.kill [59, 70])))
    (.cond (.tmp 69) (.seq (.region false [
        ⟨some 71, .mv (.tmp 1), none, [], []⟩,
        ⟨some 72, .iaddr 1 (.tmp 71) (.cst (.int .i64 2)), none, [], []⟩,
        ⟨some 73, .load false 1 (.tmp 72), none, [], []⟩,
        ⟨some 74, .bin .rem (.tmp 73) (.cst (.int .u8 8)), none, [], []⟩,
        ⟨some 75, .conv .i64 (.tmp 74), none, [], []⟩,
        ⟨some 76, .bin .sub (.tmp 75) (.cst (.int .i64 1)), none, [], []⟩,
        ⟨some 77, .faddr 0 (.tmp 6), none, [], []⟩,
        ⟨some 78, .faddr 1 (.tmp 77), none, [], []⟩,
        ⟨none, .store 1 (.tmp 78) (.tmp 76), none, [], []⟩])
      (.ghost (.kill [37, 69, 71, 72, 73, 74, 75, 76, 77, 78])))
    (.seq (.seq (.region false [
        ⟨some 80, .bin .eql (.tmp 37) (.cst (.int .u8 2)), none, [], []⟩,
        ⟨some 79, .mv (.tmp 80), none, [], []⟩])
      (.ghost (.kill [37, 69, 80])))
      (.cond (.tmp 79) (.seq (.region true [
          ⟨some 81, .faddr 2 (.tmp 6), none, [], [6]⟩,
          ⟨some 82, .load false 1 (.tmp 81), none, [0], [81]⟩,
          ⟨some 83, .mv (.tmp 1), none, [], [1]⟩,
          ⟨some 84, .iaddr 1 (.tmp 83) (.cst (.int .i64 2)), none, [2], [83]⟩,
          ⟨some 85, .load false 1 (.tmp 84), none, [3], [84]⟩,
          ⟨some 86, .conv .i64 (.tmp 85), none, [4], [85]⟩,
          ⟨some 87, .faddr 2 (.tmp 6), none, [], [6]⟩,
          ⟨some 88, .load false 1 (.tmp 87), none, [6], [87]⟩,
          ⟨some 89, .len .sl (.tmp 88), none, [7], [88]⟩,
          ⟨some 90, .bin .rem (.tmp 86) (.tmp 89), none, [5, 8], [86, 89]⟩,
          ⟨some 91, .slice 1 (.tmp 82) none (some (.tmp 90)) none, none, [1, 9], [82, 90]⟩,
          ⟨some 92, .faddr 2 (.tmp 6), none, [0, 1, 2, 3, 4, 5, 6, 7, 8, 9, 10], [6]⟩,
          ⟨none, .store 1 (.tmp 92) (.tmp 91), none, [11, 10, 0, 1, 2, 3, 4, 5, 6, 7, 8, 9, 10], [92, 91]⟩])
        (.ghost (.kill [79, 81, 82, 83, 84, 85, 86, 87, 88, 89, 90, 91, 92])))
      (.seq (.region true [
          ⟨some 38, .faddr 2 (.tmp 6), none, [], [6]⟩,
          ⟨some 39, .load false 1 (.tmp 38), none, [0], [38]⟩,
          ⟨some 40, .mv (.tmp 1), none, [], [1]⟩,
          ⟨some 41, .iaddr 1 (.tmp 40) (.cst (.int .i64 2)), none, [2], [40]⟩,
          ⟨some 42, .load false 1 (.tmp 41), none, [3], [41]⟩,
          ⟨some 43, .conv .i64 (.tmp 42), none, [4], [42]⟩,
          ⟨some 44, .faddr 2 (.tmp 6), none, [], [6]⟩,
          ⟨some 45, .load false 1 (.tmp 44), none, [6], [44]⟩,
          ⟨some 46, .len .sl (.tmp 45), none, [7], [45]⟩,
          ⟨some 47, .bin .rem (.tmp 43) (.tmp 46), none, [5, 8], [43, 46]⟩,
          ⟨some 48, .iaddr 1 (.tmp 39) (.tmp 47), none, [1, 9], [39, 47]⟩,
          ⟨some 49, .load false 1 (.tmp 48), none, [10], [48]⟩,
          ⟨some 50, .mv (.tmp 1), none, [], [1]⟩,
          ⟨some 51, .iaddr 1 (.tmp 50) (.cst (.int .i64 2)), none, [12], [50]⟩,
          ⟨some 52, .load false 1 (.tmp 51), none, [13], [51]⟩,
          ⟨some 53, .bin .quo (.tmp 52) (.cst (.int .u8 8)), none, [14], [52]⟩,
          ⟨some 54, .conv .i64 (.tmp 53), none, [15], [53]⟩,
          ⟨some 55, .bin .rem (.tmp 54) (.cst (.int .i64 5)), none, [16], [54]⟩,
          ⟨some 56, .bin .sub (.tmp 55) (.cst (.int .i64 1)), none, [17], [55]⟩,
          ⟨some 57, .bin .add (.tmp 49) (.tmp 56), none, [11, 18], [49, 56]⟩,
          ⟨some 58, .iaddr 1 (.tmp 39) (.tmp 47), none, [1, 9, 0, 1, 2, 3, 4, 5, 6, 7, 8, 9, 10, 11, 12, 13, 14, 15, 16, 17, 18, 19], [39, 47]⟩,
          ⟨none, .store 1 (.tmp 58) (.tmp 57), none, [20, 19, 0, 1, 2, 3, 4, 5, 6, 7, 8, 9, 10, 11, 12, 13, 14, 15, 16, 17, 18, 19], [58, 57]⟩])
        (.ghost (.kill [38, 39, 40, 41, 42, 43, 44, 45, 46, 47, 48, 49, 50, 51, 52, 53, 54, 55, 56, 57, 58, 79])))))))))))
  l20_spoiled.c0))))))
def l20_spoiled : AFunc := ⟨104, [.tmp 4], l20_spoiled.main⟩
/-- chapman/chapmanref20.CutOf -/
def r20_CutOf.main : ACode := (.seq (.seq (.region false [
 ⟨some 4, .mv (.cst .nils), none, [], []⟩])
  (.ghost (.kill [4])))
  (.seq (.seq (.seq (.region false [
 ⟨some 5, .mv (.tmp 1), none, [], []⟩,
 ⟨some 6, .len .sl (.tmp 5), none, [], []⟩,
 ⟨some 7, .bin .eql (.tmp 6) (.cst (.int .i64 0)), none, [], []⟩])
  (.ghost (.kill [5, 6])))
  (.cond (.tmp 7) (.seq (.region false [
      ⟨some 8, .mv (.tmp 0), none, [], []⟩,
      ⟨some 9, .call true i_r20_All [], none, [], []⟩,
      ⟨some 10, .call true i_r20_GreatestIn [(.tmp 8), (.tmp 9)], none, [], []⟩,
      ⟨some 11, .field 0 1 false (.tmp 10), none, [], []⟩,
      ⟨some 4, .mv (.tmp 11), none, [], []⟩])
    .ret)
  .skip))
  (.seq (.region false [
 ⟨some 12, .mv (.tmp 0), none, [], []⟩,
 ⟨some 13, .mv (.tmp 1), none, [], []⟩,
 ⟨some 14, .call true i_r20_Limit [(.tmp 13)], none, [], []⟩,
 ⟨some 15, .call true i_r20_GreatestIn [(.tmp 12), (.tmp 14)], none, [], []⟩,
 ⟨some 16, .field 0 1 false (.tmp 15), none, [], []⟩,
 ⟨some 4, .mv (.tmp 16), none, [], []⟩])
  .ret)))
def r20_CutOf : AFunc := ⟨17, [.tmp 4], r20_CutOf.main⟩
/-- chapman/chapmanref20.Limit -/
def r20_Limit.c0 : ACode := (.seq (.region false [
 ⟨some 27, .mv (.tmp 3), none, [], []⟩,
 ⟨some 2, .mv (.tmp 27), none, [], []⟩])
  .ret)
def r20_Limit.b0 : ACode := (.seq (.seq (.seq (.region false [
 ⟨some 6, .mv (.tmp 4), none, [], []⟩,
 ⟨some 7, .mv (.tmp 3), none, [], []⟩,
 ⟨some 8, .len .sl (.tmp 7), none, [], []⟩,
 ⟨some 9, .bin .lss (.tmp 6) (.tmp 8), none, [], []⟩,
 ⟨some 10, .mv (.tmp 9), none, [], []⟩,
 ⟨some 11, .mv (.tmp 4), (some ((some 10), true)), [], []⟩,
 ⟨some 12, .mv (.tmp 0), (some ((some 10), true)), [], []⟩,
 ⟨some 13, .len .sl (.tmp 12), (some ((some 10), true)), [], []⟩,
 ⟨some 14, .bin .lss (.tmp 11) (.tmp 13), (some ((some 10), true)), [], []⟩,
 ⟨some 15, .pick (.tmp 10) (.tmp 14) (.cst (.bool false)), none, [], []⟩])
  (.ghost (.kill [6, 7, 8, 9, 10, 11, 12, 13, 14])))
  (.cond (.tmp 15) .skip
  (.exit 0)))
  (.seq (.block 1 (.seq (.region false [
 ⟨some 18, .mv (.tmp 3), none, [], []⟩,
 ⟨some 19, .mv (.tmp 4), none, [], []⟩,
 ⟨some 20, .mv (.tmp 0), none, [], []⟩,
 ⟨some 21, .mv (.tmp 4), none, [], []⟩,
 ⟨some 22, .iaddr 1 (.tmp 20) (.tmp 21), none, [], []⟩,
 ⟨some 23, .load false 1 (.tmp 22), none, [], []⟩,
 ⟨some 24, .bin .rem (.tmp 23) (.cst (.int .u8 6)), none, [], []⟩,
 ⟨some 25, .conv .i64 (.tmp 24), none, [], []⟩,
 ⟨some 26, .iaddr 1 (.tmp 18) (.tmp 19), none, [], []⟩,
 ⟨none, .store 1 (.tmp 26) (.tmp 25), none, [], []⟩])
  (.ghost (.kill [15, 18, 19, 20, 21, 22, 23, 24, 25, 26]))))
  (.seq (.region false [
 ⟨some 16, .mv (.tmp 4), none, [], []⟩,
 ⟨some 17, .bin .add (.tmp 16) (.cst (.int .i64 1)), none, [], []⟩,
 ⟨some 4, .mv (.tmp 17), none, [], []⟩])
  (.ghost (.kill [16, 17])))))
def r20_Limit.main : ACode := (.seq (.seq (.region false [
 ⟨some 2, .mv (.cst .nils), none, [], []⟩])
  (.ghost (.kill [2])))
  (.seq (.seq (.region false [
 ⟨some 5, .call false i_r20_Zero [], none, [], []⟩,
 ⟨some 3, .mv (.tmp 5), none, [], []⟩])
  (.ghost (.kill [5])))
  (.seq (.seq (.region false [
 ⟨some 4, .mv (.cst (.int .i64 0)), none, [], []⟩])
  (.seq (.block 0 (.loop r20_Limit.b0))
  (.ghost (.kill [0, 4, 15]))))
  r20_Limit.c0)))
def r20_Limit.k0 : List Item := [.inBlock 0, .code (.ghost (.kill [0, 4, 15])), .code r20_Limit.c0]
def r20_Limit : AFunc := ⟨28, [.tmp 2], r20_Limit.main⟩
/-- chapman/chapmanref20.All -/
def r20_All.c0 : ACode := (.seq (.region false [
 ⟨some 11, .mv (.tmp 1), none, [], []⟩,
 ⟨some 0, .mv (.tmp 11), none, [], []⟩])
  .ret)
def r20_All.b0 : ACode := (.seq (.seq (.seq (.region false [
 ⟨some 4, .mv (.tmp 2), none, [], []⟩,
 ⟨some 5, .bin .lss (.tmp 4) (.cst (.int .i64 6)), none, [], []⟩])
  (.ghost (.kill [4])))
  (.cond (.tmp 5) .skip
  (.exit 0)))
  (.seq (.trunc (.block 1 (.seq (.region false [
 ⟨some 8, .mv (.tmp 1), none, [], []⟩,
 ⟨some 9, .bslice 1 1 [(.int .i64 0)] [(0, (.cst (.int .i64 999)))], none, [], []⟩,
 ⟨some 10, .append 1 8 (.tmp 8) (.tmp 9), none, [], []⟩,
 ⟨some 1, .mv (.tmp 10), none, [], []⟩])
  (.ghost (.kill [5, 8, 9, 10])))))
  (.seq (.region false [
 ⟨some 6, .mv (.tmp 2), none, [], []⟩,
 ⟨some 7, .bin .add (.tmp 6) (.cst (.int .i64 1)), none, [], []⟩,
 ⟨some 2, .mv (.tmp 7), none, [], []⟩])
  (.ghost (.kill [6, 7])))))
def r20_All.main : ACode := (.seq (.seq (.region false [
 ⟨some 0, .mv (.cst .nils), none, [], []⟩])
  (.ghost (.kill [0])))
  (.seq (.seq (.region false [
 ⟨some 3, .bslice 1 0 [(.int .i64 0)] [], none, [], []⟩,
 ⟨some 1, .mv (.tmp 3), none, [], []⟩])
  (.ghost (.kill [3])))
  (.seq (.seq (.region false [
 ⟨some 2, .mv (.cst (.int .i64 0)), none, [], []⟩])
  (.seq (.block 0 (.loop r20_All.b0))
  (.ghost (.kill [2, 5]))))
  r20_All.c0)))
def r20_All.k0 : List Item := [.inBlock 0, .code (.ghost (.kill [2, 5])), .code r20_All.c0]
def r20_All : AFunc := ⟨12, [.tmp 0], r20_All.main⟩
/-- chapman/cut.Valid -/
def cut_Valid.main : ACode := (.seq (.seq (.region false [
 ⟨some 2, .mv (.cst (.bool false)), none, [], []⟩])
  (.ghost (.kill [2])))
  (.seq (.region false [
 ⟨some 3, .mv (.tmp 0), none, [], []⟩,
 ⟨some 4, .len .sl (.tmp 3), none, [], []⟩,
 ⟨some 5, .bin .eql (.tmp 4) (.cst (.int .i64 6)), none, [], []⟩,
 ⟨some 6, .mv (.tmp 5), none, [], []⟩,
 ⟨some 7, .mv (.tmp 0), (some ((some 6), true)), [], []⟩,
 ⟨some 8, .call true i_slices_ContainsFunc_int [(.tmp 7), (.cst (.clo (.func i_cut_Valid_1) [] []))], (some ((some 6), true)), [], []⟩,
 ⟨some 9, .un .not (.tmp 8), (some ((some 6), true)), [], []⟩,
 ⟨some 10, .pick (.tmp 6) (.tmp 9) (.cst (.bool false)), none, [], []⟩,
 ⟨some 2, .mv (.tmp 10), none, [], []⟩])
  .ret))
def cut_Valid : AFunc := ⟨11, [.tmp 2], cut_Valid.main⟩
/-- chapman/chapmanref20.Valid -/
def r20_Valid.c0 : ACode := (.seq (.region false [
 ⟨some 2, .mv (.cst (.bool true)), none, [], []⟩])
  .ret)
def r20_Valid.b0 : ACode := (.seq (.seq (.seq (.region false [
 ⟨some 7, .mv (.tmp 3), none, [], []⟩,
 ⟨some 8, .mv (.tmp 0), none, [], []⟩,
 ⟨some 9, .len .sl (.tmp 8), none, [], []⟩,
 ⟨some 10, .bin .lss (.tmp 7) (.tmp 9), none, [], []⟩])
  (.ghost (.kill [7, 8, 9])))
  (.cond (.tmp 10) .skip
  (.exit 0)))
  (.seq (.seq (.block 1 (.seq (.seq (.region false [
 ⟨some 13, .mv (.tmp 0), none, [], []⟩,
 ⟨some 14, .mv (.tmp 3), none, [], []⟩,
 ⟨some 15, .iaddr 1 (.tmp 13) (.tmp 14), none, [], []⟩,
 ⟨some 16, .load false 1 (.tmp 15), none, [], []⟩,
 ⟨some 17, .bin .lss (.tmp 16) (.cst (.int .i64 0)), none, [], []⟩,
 ⟨some 18, .mv (.tmp 17), none, [], []⟩,
 ⟨some 19, .mv (.tmp 0), (some ((some 18), false)), [], []⟩,
 ⟨some 20, .mv (.tmp 3), (some ((some 18), false)), [], []⟩,
 ⟨some 21, .iaddr 1 (.tmp 19) (.tmp 20), (some ((some 18), false)), [], []⟩,
 ⟨some 22, .load false 1 (.tmp 21), (some ((some 18), false)), [], []⟩,
 ⟨some 23, .bin .gtr (.tmp 22) (.cst (.int .i64 999)), (some ((some 18), false)), [], []⟩,
 ⟨some 24, .pick (.tmp 18) (.cst (.bool true)) (.tmp 23), none, [], []⟩])
  (.ghost (.kill [10, 13, 14, 15, 16, 17, 18, 19, 20, 21, 22, 23])))
  (.cond (.tmp 24) (.seq (.region false [
      ⟨some 2, .mv (.cst (.bool false)), none, [], []⟩])
    .ret)
  .skip)))
  (.ghost (.kill [24])))
  (.seq (.region false [
 ⟨some 11, .mv (.tmp 3), none, [], []⟩,
 ⟨some 12, .bin .add (.tmp 11) (.cst (.int .i64 1)), none, [], []⟩,
 ⟨some 3, .mv (.tmp 12), none, [], []⟩])
  (.ghost (.kill [11, 12])))))
def r20_Valid.main : ACode := (.seq (.seq (.region false [
 ⟨some 2, .mv (.cst (.bool false)), none, [], []⟩])
  (.ghost (.kill [2])))
  (.seq (.seq (.seq (.region false [
 ⟨some 4, .mv (.tmp 0), none, [], []⟩,
 ⟨some 5, .len .sl (.tmp 4), none, [], []⟩,
 ⟨some 6, .bin .neq (.tmp 5) (.cst (.int .i64 6)), none, [], []⟩])
  (.ghost (.kill [4, 5])))
  (.cond (.tmp 6) (.seq (.region false [
      ⟨some 2, .mv (.cst (.bool false)), none, [], []⟩])
    .ret)
  .skip))
  (.seq (.seq (.seq (.region false [
 ⟨some 3, .mv (.cst (.int .i64 0)), none, [], []⟩])
  (.ghost (.kill [6])))
  (.seq (.block 0 (.loop r20_Valid.b0))
  (.ghost (.kill [0, 3, 10]))))
  r20_Valid.c0)))
def r20_Valid.k0 : List Item := [.inBlock 0, .code (.ghost (.kill [0, 3, 10])), .code r20_Valid.c0]
def r20_Valid : AFunc := ⟨25, [.tmp 2], r20_Valid.main⟩
/-- chapman/cut.Leq -/
def cut_Leq.c0 : ACode := (.seq (.region false [
 ⟨some 4, .mv (.cst (.bool true)), none, [], []⟩])
  .ret)
def cut_Leq.c1 : ACode := (.ghost (.kill [0, 1, 14, 15]))
def cut_Leq.b0 : ACode := (.seq (.region false [
 ⟨some 15, .bin .lss (.tmp 14) (.cst (.int .i64 6)), none, [], []⟩])
  (.seq (.cond (.tmp 15) .skip
  (.exit 0))
  (.seq (.seq (.block 1 (.seq (.seq (.region false [
 ⟨some 16, .mv (.tmp 14), none, [], []⟩,
 ⟨some 5, .mv (.tmp 16), none, [], []⟩])
  (.ghost (.kill [15, 16])))
  (.seq (.seq (.region true [
 ⟨some 17, .mv (.tmp 0), none, [], [0]⟩,
 ⟨some 18, .mv (.tmp 5), none, [], [5]⟩,
 ⟨some 19, .iaddr 1 (.tmp 17) (.tmp 18), none, [0, 1], [17, 18]⟩,
 ⟨some 20, .load false 1 (.tmp 19), none, [2], [19]⟩,
 ⟨some 21, .mv (.tmp 1), none, [], [1]⟩,
 ⟨some 22, .mv (.tmp 5), none, [], [5]⟩,
 ⟨some 23, .iaddr 1 (.tmp 21) (.tmp 22), none, [4, 5], [21, 22]⟩,
 ⟨some 24, .load false 1 (.tmp 23), none, [6], [23]⟩,
 ⟨some 25, .bin .gtr (.tmp 20) (.tmp 24), none, [3, 7], [20, 24]⟩])
  (.ghost (.kill [5, 17, 18, 19, 20, 21, 22, 23, 24])))
  (.cond (.tmp 25) (.seq (.region false [
      ⟨some 4, .mv (.cst (.bool false)), none, [], []⟩])
    .ret)
  .skip))))
  (.ghost (.kill [25])))
  (.seq (.region false [
 ⟨some 26, .bin .add (.tmp 14) (.cst (.int .i64 1)), none, [], []⟩,
 ⟨some 14, .mv (.tmp 26), none, [], []⟩])
  (.ghost (.kill [26]))))))
def cut_Leq.main : ACode := (.seq (.seq (.region false [
 ⟨some 4, .mv (.cst (.bool false)), none, [], []⟩])
  (.ghost (.kill [4])))
  (.seq (.seq (.seq (.region false [
 ⟨some 6, .mv (.tmp 0), none, [], []⟩,
 ⟨some 7, .call true i_cut_Valid [(.tmp 6)], none, [], []⟩,
 ⟨some 8, .un .not (.tmp 7), none, [], []⟩,
 ⟨some 9, .mv (.tmp 8), none, [], []⟩,
 ⟨some 10, .mv (.tmp 1), (some ((some 9), false)), [], []⟩,
 ⟨some 11, .call true i_cut_Valid [(.tmp 10)], (some ((some 9), false)), [], []⟩,
 ⟨some 12, .un .not (.tmp 11), (some ((some 9), false)), [], []⟩,
 ⟨some 13, .pick (.tmp 9) (.cst (.bool true)) (.tmp 12), none, [], []⟩])
  (.ghost (.kill [6, 7, 8, 9, 10, 11, 12])))
  (.cond (.tmp 13) (.seq (.region false [
      ⟨some 4, .mv (.cst (.bool false)), none, [], []⟩])
    .ret)
  .skip))
  (.seq (.seq (.seq (.region false [
 ⟨some 14, .mv (.cst (.int .i64 0)), none, [], []⟩])
  (.ghost (.kill [13])))
  (.seq (.block 0 (.loop cut_Leq.b0))
  cut_Leq.c1))
  cut_Leq.c0)))
def cut_Leq.k0 : List Item := [.inBlock 0, .code cut_Leq.c1, .code cut_Leq.c0]
def cut_Leq : AFunc := ⟨27, [.tmp 4], cut_Leq.main⟩
/-- chapman/chapmanref20.Leq -/
def r20_Leq.c0 : ACode := (.seq (.region false [
 ⟨some 4, .mv (.cst (.bool true)), none, [], []⟩])
  .ret)
def r20_Leq.c1 : ACode := (.ghost (.kill [0, 1, 5, 17]))
def r20_Leq.b0 : ACode := (.seq (.seq (.seq (.region false [
 ⟨some 14, .mv (.tmp 5), none, [], []⟩,
 ⟨some 15, .mv (.tmp 0), none, [], []⟩,
 ⟨some 16, .len .sl (.tmp 15), none, [], []⟩,
 ⟨some 17, .bin .lss (.tmp 14) (.tmp 16), none, [], []⟩])
  (.ghost (.kill [14, 15, 16])))
  (.cond (.tmp 17) .skip
  (.exit 0)))
  (.seq (.seq (.block 1 (.seq (.seq (.region true [
 ⟨some 20, .mv (.tmp 0), none, [], [0]⟩,
 ⟨some 21, .mv (.tmp 5), none, [], [5]⟩,
 ⟨some 22, .iaddr 1 (.tmp 20) (.tmp 21), none, [0, 1], [20, 21]⟩,
 ⟨some 23, .load false 1 (.tmp 22), none, [2], [22]⟩,
 ⟨some 24, .mv (.tmp 1), none, [], [1]⟩,
 ⟨some 25, .mv (.tmp 5), none, [], [5]⟩,
 ⟨some 26, .iaddr 1 (.tmp 24) (.tmp 25), none, [4, 5], [24, 25]⟩,
 ⟨some 27, .load false 1 (.tmp 26), none, [6], [26]⟩,
 ⟨some 28, .bin .gtr (.tmp 23) (.tmp 27), none, [3, 7], [23, 27]⟩])
  (.ghost (.kill [17, 20, 21, 22, 23, 24, 25, 26, 27])))
  (.cond (.tmp 28) (.seq (.region false [
      ⟨some 4, .mv (.cst (.bool false)), none, [], []⟩])
    .ret)
  .skip)))
  (.ghost (.kill [28])))
  (.seq (.region false [
 ⟨some 18, .mv (.tmp 5), none, [], []⟩,
 ⟨some 19, .bin .add (.tmp 18) (.cst (.int .i64 1)), none, [], []⟩,
 ⟨some 5, .mv (.tmp 19), none, [], []⟩])
  (.ghost (.kill [18, 19])))))
def r20_Leq.main : ACode := (.seq (.seq (.region false [
 ⟨some 4, .mv (.cst (.bool false)), none, [], []⟩])
  (.ghost (.kill [4])))
  (.seq (.seq (.seq (.region false [
 ⟨some 6, .mv (.tmp 0), none, [], []⟩,
 ⟨some 7, .call true i_r20_Valid [(.tmp 6)], none, [], []⟩,
 ⟨some 8, .un .not (.tmp 7), none, [], []⟩,
 ⟨some 9, .mv (.tmp 8), none, [], []⟩,
 ⟨some 10, .mv (.tmp 1), (some ((some 9), false)), [], []⟩,
 ⟨some 11, .call true i_r20_Valid [(.tmp 10)], (some ((some 9), false)), [], []⟩,
 ⟨some 12, .un .not (.tmp 11), (some ((some 9), false)), [], []⟩,
 ⟨some 13, .pick (.tmp 9) (.cst (.bool true)) (.tmp 12), none, [], []⟩])
  (.ghost (.kill [6, 7, 8, 9, 10, 11, 12])))
  (.cond (.tmp 13) (.seq (.region false [
      ⟨some 4, .mv (.cst (.bool false)), none, [], []⟩])
    .ret)
  .skip))
  (.seq (.seq (.seq (.region false [
 ⟨some 5, .mv (.cst (.int .i64 0)), none, [], []⟩])
  (.ghost (.kill [13])))
  (.seq (.block 0 (.loop r20_Leq.b0))
  r20_Leq.c1))
  r20_Leq.c0)))
def r20_Leq.k0 : List Item := [.inBlock 0, .code r20_Leq.c1, .code r20_Leq.c0]
def r20_Leq : AFunc := ⟨29, [.tmp 4], r20_Leq.main⟩
/-- chapman/cut.Has -/
def cut_Has.main : ACode := (.seq (.seq (.region false [
 ⟨some 3, .box 2 (.tmp 1), none, [], []⟩,
 ⟨some 4, .mv (.cst (.bool false)), none, [], []⟩])
  (.ghost (.kill [1, 4])))
  (.seq (.region true [
 ⟨some 5, .mv (.tmp 0), none, [], [0]⟩,
 ⟨some 6, .call true i_cut_Valid [(.tmp 5)], none, [0], [5]⟩,
 ⟨some 7, .mv (.tmp 6), none, [1, 1], [6]⟩,
 ⟨some 8, .faddr 0 (.tmp 3), (some ((some 7), true)), [2], [3]⟩,
 ⟨some 9, .load false 1 (.tmp 8), (some ((some 7), true)), [3, 2], [8]⟩,
 ⟨some 10, .bin .geq (.tmp 9) (.cst (.int .i64 0)), (some ((some 7), true)), [4, 2], [9]⟩,
 ⟨some 11, .pick (.tmp 7) (.tmp 10) (.cst (.bool false)), none, [2, 5], [7, 10]⟩,
 ⟨some 12, .mv (.tmp 11), none, [6, 2], [11]⟩,
 ⟨some 13, .faddr 0 (.tmp 3), (some ((some 12), true)), [7], [3]⟩,
 ⟨some 14, .load false 1 (.tmp 13), (some ((some 12), true)), [8, 7], [13]⟩,
 ⟨some 15, .bin .lss (.tmp 14) (.cst (.int .i64 6)), (some ((some 12), true)), [9, 7], [14]⟩,
 ⟨some 16, .pick (.tmp 12) (.tmp 15) (.cst (.bool false)), none, [7, 10], [12, 15]⟩,
 ⟨some 17, .mv (.tmp 16), none, [11, 7], [16]⟩,
 ⟨some 18, .faddr 1 (.tmp 3), (some ((some 17), true)), [12], [3]⟩,
 ⟨some 19, .load false 1 (.tmp 18), (some ((some 17), true)), [13, 12], [18]⟩,
 ⟨some 20, .bin .geq (.tmp 19) (.cst (.int .i64 1)), (some ((some 17), true)), [14, 12], [19]⟩,
 ⟨some 21, .pick (.tmp 17) (.tmp 20) (.cst (.bool false)), none, [12, 15], [17, 20]⟩,
 ⟨some 22, .mv (.tmp 21), none, [16, 12], [21]⟩,
 ⟨some 23, .faddr 1 (.tmp 3), (some ((some 22), true)), [17], [3]⟩,
 ⟨some 24, .load false 1 (.tmp 23), (some ((some 22), true)), [18, 17], [23]⟩,
 ⟨some 25, .mv (.tmp 0), (some ((some 22), true)), [17], [0]⟩,
 ⟨some 26, .faddr 0 (.tmp 3), (some ((some 22), true)), [17], [3]⟩,
 ⟨some 27, .load false 1 (.tmp 26), (some ((some 22), true)), [21, 17], [26]⟩,
 ⟨some 28, .iaddr 1 (.tmp 25) (.tmp 27), (some ((some 22), true)), [20, 22, 17], [25, 27]⟩,
 ⟨some 29, .load false 1 (.tmp 28), (some ((some 22), true)), [23, 17], [28]⟩,
 ⟨some 30, .bin .leq (.tmp 24) (.tmp 29), (some ((some 22), true)), [19, 24, 17], [24, 29]⟩,
 ⟨some 31, .pick (.tmp 22) (.tmp 30) (.cst (.bool false)), none, [17, 25], [22, 30]⟩,
 ⟨some 4, .mv (.tmp 31), none, [26, 17, 0, 1, 2, 3, 4, 5, 6, 7, 8, 9, 10, 11, 12, 13, 14, 15, 16, 17, 18, 19, 20, 21, 22, 23, 24, 25, 26], [31]⟩])
  .ret))
def cut_Has : AFunc := ⟨32, [.tmp 4], cut_Has.main⟩
/-- chapman/chapmanref20.Has -/
def r20_Has.main : ACode := (.seq (.seq (.region false [
 ⟨some 3, .box 2 (.tmp 1), none, [], []⟩,
 ⟨some 4, .mv (.cst (.bool false)), none, [], []⟩])
  (.ghost (.kill [1, 4])))
  (.seq (.region true [
 ⟨some 5, .mv (.tmp 0), none, [], [0]⟩,
 ⟨some 6, .call true i_r20_Valid [(.tmp 5)], none, [0], [5]⟩,
 ⟨some 7, .mv (.tmp 6), none, [1, 1], [6]⟩,
 ⟨some 8, .faddr 0 (.tmp 3), (some ((some 7), true)), [2], [3]⟩,
 ⟨some 9, .load false 1 (.tmp 8), (some ((some 7), true)), [3, 2], [8]⟩,
 ⟨some 10, .bin .geq (.tmp 9) (.cst (.int .i64 0)), (some ((some 7), true)), [4, 2], [9]⟩,
 ⟨some 11, .pick (.tmp 7) (.tmp 10) (.cst (.bool false)), none, [2, 5], [7, 10]⟩,
 ⟨some 12, .mv (.tmp 11), none, [6, 2], [11]⟩,
 ⟨some 13, .faddr 0 (.tmp 3), (some ((some 12), true)), [7], [3]⟩,
 ⟨some 14, .load false 1 (.tmp 13), (some ((some 12), true)), [8, 7], [13]⟩,
 ⟨some 15, .bin .lss (.tmp 14) (.cst (.int .i64 6)), (some ((some 12), true)), [9, 7], [14]⟩,
 ⟨some 16, .pick (.tmp 12) (.tmp 15) (.cst (.bool false)), none, [7, 10], [12, 15]⟩,
 ⟨some 17, .mv (.tmp 16), none, [11, 7], [16]⟩,
 ⟨some 18, .faddr 1 (.tmp 3), (some ((some 17), true)), [12], [3]⟩,
 ⟨some 19, .load false 1 (.tmp 18), (some ((some 17), true)), [13, 12], [18]⟩,
 ⟨some 20, .bin .geq (.tmp 19) (.cst (.int .i64 1)), (some ((some 17), true)), [14, 12], [19]⟩,
 ⟨some 21, .pick (.tmp 17) (.tmp 20) (.cst (.bool false)), none, [12, 15], [17, 20]⟩,
 ⟨some 22, .mv (.tmp 21), none, [16, 12], [21]⟩,
 ⟨some 23, .faddr 1 (.tmp 3), (some ((some 22), true)), [17], [3]⟩,
 ⟨some 24, .load false 1 (.tmp 23), (some ((some 22), true)), [18, 17], [23]⟩,
 ⟨some 25, .mv (.tmp 0), (some ((some 22), true)), [17], [0]⟩,
 ⟨some 26, .faddr 0 (.tmp 3), (some ((some 22), true)), [17], [3]⟩,
 ⟨some 27, .load false 1 (.tmp 26), (some ((some 22), true)), [21, 17], [26]⟩,
 ⟨some 28, .iaddr 1 (.tmp 25) (.tmp 27), (some ((some 22), true)), [20, 22, 17], [25, 27]⟩,
 ⟨some 29, .load false 1 (.tmp 28), (some ((some 22), true)), [23, 17], [28]⟩,
 ⟨some 30, .bin .leq (.tmp 24) (.tmp 29), (some ((some 22), true)), [19, 24, 17], [24, 29]⟩,
 ⟨some 31, .pick (.tmp 22) (.tmp 30) (.cst (.bool false)), none, [17, 25], [22, 30]⟩,
 ⟨some 4, .mv (.tmp 31), none, [26, 17, 0, 1, 2, 3, 4, 5, 6, 7, 8, 9, 10, 11, 12, 13, 14, 15, 16, 17, 18, 19, 20, 21, 22, 23, 24, 25, 26], [31]⟩])
  .ret))
def r20_Has : AFunc := ⟨32, [.tmp 4], r20_Has.main⟩
/-- chapman/chapmanref20.Alike -/
def r20_Alike.main : ACode := (.seq (.seq (.region false [
 ⟨some 2, .box 2 (.tmp 0), none, [], []⟩,
 ⟨some 3, .box 2 (.tmp 1), none, [], []⟩,
 ⟨some 4, .mv (.cst (.bool false)), none, [], []⟩])
  (.ghost (.kill [0, 1, 4])))
  (.seq (.region false [
 ⟨some 5, .faddr 1 (.tmp 2), none, [], []⟩,
 ⟨some 6, .load false 1 (.tmp 5), none, [], []⟩,
 ⟨some 7, .faddr 1 (.tmp 3), none, [], []⟩,
 ⟨some 8, .load false 1 (.tmp 7), none, [], []⟩,
 ⟨some 9, .bin .eql (.tmp 6) (.tmp 8), none, [], []⟩,
 ⟨some 10, .mv (.tmp 9), none, [], []⟩,
 ⟨some 11, .faddr 0 (.tmp 2), (some ((some 10), true)), [], []⟩,
 ⟨some 12, .load false 1 (.tmp 11), (some ((some 10), true)), [], []⟩,
 ⟨some 13, .faddr 0 (.tmp 3), (some ((some 10), true)), [], []⟩,
 ⟨some 14, .load false 1 (.tmp 13), (some ((some 10), true)), [], []⟩,
 ⟨some 15, .call true i_r20_Same [(.tmp 12), (.tmp 14)], (some ((some 10), true)), [], []⟩,
 ⟨some 16, .pick (.tmp 10) (.tmp 15) (.cst (.bool false)), none, [], []⟩,
 ⟨some 4, .mv (.tmp 16), none, [], []⟩])
  .ret))
def r20_Alike : AFunc := ⟨17, [.tmp 4], r20_Alike.main⟩
/-- chapman/chapmanlaw20.join -/
def l20_join.main : ACode := (.seq (.region false [
 ⟨some 4, .alloc [.nils, (.int .i64 0)], none, [], []⟩])
  (.seq (.seq (.region false [
 ⟨some 8, .mv (.tmp 0), none, [], []⟩,
 ⟨some 9, .mv (.tmp 1), none, [], []⟩,
 ⟨some 10, .call true i_cut_Join [(.tmp 8), (.tmp 9)], none, [], []⟩,
 ⟨some 7, .mv (.tmp 10), none, [], []⟩,
 ⟨some 11, .extr (.tmp 7) 0, none, [], []⟩,
 ⟨some 12, .extr (.tmp 7) 1, none, [], []⟩,
 ⟨some 5, .mv (.tmp 11), none, [], []⟩,
 ⟨some 6, .mv (.tmp 12), none, [], []⟩])
  (.ghost (.kill [0, 1, 7, 8, 9, 10, 11, 12])))
  (.seq (.region false [
 ⟨some 13, .mv (.tmp 5), none, [], []⟩,
 ⟨some 14, .mv (.tmp 6), none, [], []⟩,
 ⟨some 15, .build [.nils, (.int .i64 0)] [(0, 1, (.tmp 13)), (1, 1, (.tmp 14))], none, [], []⟩,
 ⟨none, .store 2 (.tmp 4) (.tmp 15), none, [], []⟩])
  .ret)))
def l20_join : AFunc := ⟨16, [.cell 4 true 2], l20_join.main⟩
/-- chapman/chapmanref20.JoinIn -/
def r20_JoinIn.c0 : ACode := (.seq (.region false [
 ⟨some 35, .mv (.tmp 5), none, [], []⟩,
 ⟨some 36, .build [.nils, (.int .i64 0)] [(0, 1, (.tmp 35))], none, [], []⟩,
 ⟨none, .store 2 (.tmp 4) (.tmp 36), none, [], []⟩])
  .ret)
def r20_JoinIn.c1 : ACode := (.ghost (.kill [0, 1, 6, 20]))
def r20_JoinIn.b0 : ACode := (.seq (.seq (.seq (.region false [
 ⟨some 17, .mv (.tmp 6), none, [], []⟩,
 ⟨some 18, .mv (.tmp 0), none, [], []⟩,
 ⟨some 19, .len .sl (.tmp 18), none, [], []⟩,
 ⟨some 20, .bin .lss (.tmp 17) (.tmp 19), none, [], []⟩])
  (.ghost (.kill [17, 18, 19])))
  (.cond (.tmp 20) .skip
  (.exit 0)))
  (.seq (.trunc (.block 1 (.seq (.region true [
 ⟨some 23, .mv (.tmp 5), none, [], [5]⟩,
 ⟨some 24, .mv (.tmp 0), none, [], [0]⟩,
 ⟨some 25, .mv (.tmp 6), none, [], [6]⟩,
 ⟨some 26, .iaddr 1 (.tmp 24) (.tmp 25), none, [1, 2], [24, 25]⟩,
 ⟨some 27, .load false 1 (.tmp 26), none, [3], [26]⟩,
 ⟨some 28, .mv (.tmp 1), none, [], [1]⟩,
 ⟨some 29, .mv (.tmp 6), none, [], [6]⟩,
 ⟨some 30, .iaddr 1 (.tmp 28) (.tmp 29), none, [5, 6], [28, 29]⟩,
 ⟨some 31, .load false 1 (.tmp 30), none, [7], [30]⟩,
 ⟨some 32, .minmax true [(.tmp 27), (.tmp 31)], none, [4, 8], [27, 31]⟩,
 ⟨some 33, .bslice 1 1 [(.int .i64 0)] [(0, (.tmp 32))], none, [9], [32]⟩,
 ⟨some 34, .append 1 8 (.tmp 23) (.tmp 33), none, [0, 10], [23, 33]⟩,
 ⟨some 5, .mv (.tmp 34), none, [11, 11, 0, 1, 2, 3, 4, 5, 6, 7, 8, 9, 10, 11], [34]⟩])
  (.ghost (.kill [20, 23, 24, 25, 26, 27, 28, 29, 30, 31, 32, 33, 34])))))
  (.seq (.region false [
 ⟨some 21, .mv (.tmp 6), none, [], []⟩,
 ⟨some 22, .bin .add (.tmp 21) (.cst (.int .i64 1)), none, [], []⟩,
 ⟨some 6, .mv (.tmp 22), none, [], []⟩])
  (.ghost (.kill [21, 22])))))
def r20_JoinIn.main : ACode := (.seq (.region false [
 ⟨some 4, .alloc [.nils, (.int .i64 0)], none, [], []⟩])
  (.seq (.seq (.seq (.region false [
 ⟨some 7, .mv (.tmp 0), none, [], []⟩,
 ⟨some 8, .call true i_r20_Valid [(.tmp 7)], none, [], []⟩,
 ⟨some 9, .un .not (.tmp 8), none, [], []⟩,
 ⟨some 10, .mv (.tmp 9), none, [], []⟩,
 ⟨some 11, .mv (.tmp 1), (some ((some 10), false)), [], []⟩,
 ⟨some 12, .call true i_r20_Valid [(.tmp 11)], (some ((some 10), false)), [], []⟩,
 ⟨some 13, .un .not (.tmp 12), (some ((some 10), false)), [], []⟩,
 ⟨some 14, .pick (.tmp 10) (.cst (.bool true)) (.tmp 13), none, [], []⟩])
  (.ghost (.kill [7, 8, 9, 10, 11, 12, 13])))
  (.cond (.tmp 14) (.seq (.region false [
      ⟨some 15, .build [.nils, (.int .i64 0)] [(1, 1, (.cst (.int .i64 200)))], none, [], []⟩,
      ⟨none, .store 2 (.tmp 4) (.tmp 15), none, [], []⟩])
    .ret)
  .skip))
  (.seq (.seq (.region false [
 ⟨some 16, .bslice 1 0 [(.int .i64 0)] [], none, [], []⟩,
 ⟨some 5, .mv (.tmp 16), none, [], []⟩])
  (.ghost (.kill [14, 16])))
  (.seq (.seq (.region false [
 ⟨some 6, .mv (.cst (.int .i64 0)), none, [], []⟩])
  (.seq (.block 0 (.loop r20_JoinIn.b0))
  r20_JoinIn.c1))
  r20_JoinIn.c0))))
def r20_JoinIn.k0 : List Item := [.inBlock 0, .code r20_JoinIn.c1, .code r20_JoinIn.c0]
def r20_JoinIn : AFunc := ⟨37, [.cell 4 true 2], r20_JoinIn.main⟩
/-- chapman/chapmanlaw20.meet -/
def l20_meet.main : ACode := (.seq (.region false [
 ⟨some 4, .alloc [.nils, (.int .i64 0)], none, [], []⟩])
  (.seq (.seq (.region false [
 ⟨some 8, .mv (.tmp 0), none, [], []⟩,
 ⟨some 9, .mv (.tmp 1), none, [], []⟩,
 ⟨some 10, .call true i_cut_Meet [(.tmp 8), (.tmp 9)], none, [], []⟩,
 ⟨some 7, .mv (.tmp 10), none, [], []⟩,
 ⟨some 11, .extr (.tmp 7) 0, none, [], []⟩,
 ⟨some 12, .extr (.tmp 7) 1, none, [], []⟩,
 ⟨some 5, .mv (.tmp 11), none, [], []⟩,
 ⟨some 6, .mv (.tmp 12), none, [], []⟩])
  (.ghost (.kill [0, 1, 7, 8, 9, 10, 11, 12])))
  (.seq (.region false [
 ⟨some 13, .mv (.tmp 5), none, [], []⟩,
 ⟨some 14, .mv (.tmp 6), none, [], []⟩,
 ⟨some 15, .build [.nils, (.int .i64 0)] [(0, 1, (.tmp 13)), (1, 1, (.tmp 14))], none, [], []⟩,
 ⟨none, .store 2 (.tmp 4) (.tmp 15), none, [], []⟩])
  .ret)))
def l20_meet : AFunc := ⟨16, [.cell 4 true 2], l20_meet.main⟩
/-- chapman/chapmanref20.MeetIn -/
def r20_MeetIn.c0 : ACode := (.seq (.region false [
 ⟨some 35, .mv (.tmp 5), none, [], []⟩,
 ⟨some 36, .build [.nils, (.int .i64 0)] [(0, 1, (.tmp 35))], none, [], []⟩,
 ⟨none, .store 2 (.tmp 4) (.tmp 36), none, [], []⟩])
  .ret)
def r20_MeetIn.c1 : ACode := (.ghost (.kill [0, 1, 6, 20]))
def r20_MeetIn.b0 : ACode := (.seq (.seq (.seq (.region false [
 ⟨some 17, .mv (.tmp 6), none, [], []⟩,
 ⟨some 18, .mv (.tmp 0), none, [], []⟩,
 ⟨some 19, .len .sl (.tmp 18), none, [], []⟩,
 ⟨some 20, .bin .lss (.tmp 17) (.tmp 19), none, [], []⟩])
  (.ghost (.kill [17, 18, 19])))
  (.cond (.tmp 20) .skip
  (.exit 0)))
  (.seq (.trunc (.block 1 (.seq (.region true [
 ⟨some 23, .mv (.tmp 5), none, [], [5]⟩,
 ⟨some 24, .mv (.tmp 0), none, [], [0]⟩,
 ⟨some 25, .mv (.tmp 6), none, [], [6]⟩,
 ⟨some 26, .iaddr 1 (.tmp 24) (.tmp 25), none, [1, 2], [24, 25]⟩,
 ⟨some 27, .load false 1 (.tmp 26), none, [3], [26]⟩,
 ⟨some 28, .mv (.tmp 1), none, [], [1]⟩,
 ⟨some 29, .mv (.tmp 6), none, [], [6]⟩,
 ⟨some 30, .iaddr 1 (.tmp 28) (.tmp 29), none, [5, 6], [28, 29]⟩,
 ⟨some 31, .load false 1 (.tmp 30), none, [7], [30]⟩,
 ⟨some 32, .minmax false [(.tmp 27), (.tmp 31)], none, [4, 8], [27, 31]⟩,
 ⟨some 33, .bslice 1 1 [(.int .i64 0)] [(0, (.tmp 32))], none, [9], [32]⟩,
 ⟨some 34, .append 1 8 (.tmp 23) (.tmp 33), none, [0, 10], [23, 33]⟩,
 ⟨some 5, .mv (.tmp 34), none, [11, 11, 0, 1, 2, 3, 4, 5, 6, 7, 8, 9, 10, 11], [34]⟩])
  (.ghost (.kill [20, 23, 24, 25, 26, 27, 28, 29, 30, 31, 32, 33, 34])))))
  (.seq (.region false [
 ⟨some 21, .mv (.tmp 6), none, [], []⟩,
 ⟨some 22, .bin .add (.tmp 21) (.cst (.int .i64 1)), none, [], []⟩,
 ⟨some 6, .mv (.tmp 22), none, [], []⟩])
  (.ghost (.kill [21, 22])))))
def r20_MeetIn.main : ACode := (.seq (.region false [
 ⟨some 4, .alloc [.nils, (.int .i64 0)], none, [], []⟩])
  (.seq (.seq (.seq (.region false [
 ⟨some 7, .mv (.tmp 0), none, [], []⟩,
 ⟨some 8, .call true i_r20_Valid [(.tmp 7)], none, [], []⟩,
 ⟨some 9, .un .not (.tmp 8), none, [], []⟩,
 ⟨some 10, .mv (.tmp 9), none, [], []⟩,
 ⟨some 11, .mv (.tmp 1), (some ((some 10), false)), [], []⟩,
 ⟨some 12, .call true i_r20_Valid [(.tmp 11)], (some ((some 10), false)), [], []⟩,
 ⟨some 13, .un .not (.tmp 12), (some ((some 10), false)), [], []⟩,
 ⟨some 14, .pick (.tmp 10) (.cst (.bool true)) (.tmp 13), none, [], []⟩])
  (.ghost (.kill [7, 8, 9, 10, 11, 12, 13])))
  (.cond (.tmp 14) (.seq (.region false [
      ⟨some 15, .build [.nils, (.int .i64 0)] [(1, 1, (.cst (.int .i64 200)))], none, [], []⟩,
      ⟨none, .store 2 (.tmp 4) (.tmp 15), none, [], []⟩])
    .ret)
  .skip))
  (.seq (.seq (.region false [
 ⟨some 16, .bslice 1 0 [(.int .i64 0)] [], none, [], []⟩,
 ⟨some 5, .mv (.tmp 16), none, [], []⟩])
  (.ghost (.kill [14, 16])))
  (.seq (.seq (.region false [
 ⟨some 6, .mv (.cst (.int .i64 0)), none, [], []⟩])
  (.seq (.block 0 (.loop r20_MeetIn.b0))
  r20_MeetIn.c1))
  r20_MeetIn.c0))))
def r20_MeetIn.k0 : List Item := [.inBlock 0, .code r20_MeetIn.c1, .code r20_MeetIn.c0]
def r20_MeetIn : AFunc := ⟨37, [.cell 4 true 2], r20_MeetIn.main⟩
/-- chapman/cut.Consistent -/
def cut_Consistent.c0 : ACode := (.seq (.region false [
 ⟨some 2, .mv (.cst (.bool true)), none, [], []⟩])
  .ret)
def cut_Consistent.c1 : ACode := (.ghost (.kill [0, 3, 21, 22, 23, 24]))
def cut_Consistent.c2 : ACode := (.seq (.region false [
 ⟨some 59, .bin .add (.tmp 23) (.cst (.int .i64 1)), none, [], []⟩,
 ⟨some 23, .mv (.tmp 59), none, [], []⟩])
  (.ghost (.kill [59])))
def cut_Consistent.c3 : ACode := (.ghost (.kill [5, 28, 29, 30, 31]))
def cut_Consistent.b1 : ACode := (.seq (.region false [
 ⟨some 31, .bin .lss (.tmp 30) (.tmp 29), none, [], []⟩])
  (.seq (.cond (.tmp 31) .skip
  (.exit 2))
  (.seq (.seq (.block 3 (.seq (.seq (.region false [
 ⟨some 32, .mv (.tmp 30), none, [], []⟩,
 ⟨some 33, .iaddr 1 (.tmp 28) (.tmp 30), none, [], []⟩,
 ⟨some 34, .load false 1 (.tmp 33), none, [], []⟩,
 ⟨some 6, .mv (.tmp 32), none, [], []⟩,
 ⟨some 7, .mv (.tmp 34), none, [], []⟩])
  (.ghost (.kill [31, 32, 33, 34])))
  (.seq (.seq (.seq (.region false [
 ⟨some 35, .mv (.tmp 7), none, [], []⟩,
 ⟨some 36, .bin .eql (.tmp 35) (.cst (.int .i64 0)), none, [], []⟩])
  (.ghost (.kill [35])))
  (.cond (.tmp 36) (.exit 3)
  .skip))
  (.seq (.seq (.region false [
 ⟨some 38, .mv (.tmp 3), none, [], []⟩,
 ⟨some 39, .mv (.tmp 6), none, [], []⟩,
 ⟨some 40, .mv (.tmp 7), none, [], []⟩,
 ⟨some 41, .build [(.int .i64 0), (.int .i64 0)] [(0, 1, (.tmp 39)), (1, 1, (.tmp 40))], none, [], []⟩,
 ⟨some 42, .lookup (.row [(0, 1, false, (.int .i64)), (1, 1, false, (.int .i64))]) (.int .i64 0) true (.tmp 38) (.tmp 41), none, [], []⟩,
 ⟨some 37, .mv (.tmp 42), none, [], []⟩,
 ⟨some 43, .extr (.tmp 37) 0, none, [], []⟩,
 ⟨some 44, .extr (.tmp 37) 1, none, [], []⟩,
 ⟨some 8, .mv (.tmp 43), none, [], []⟩,
 ⟨some 9, .mv (.tmp 44), none, [], []⟩])
  (.ghost (.kill [6, 7, 36, 37, 38, 39, 40, 41, 42, 43, 44])))
  (.seq (.seq (.region true [
 ⟨some 45, .mv (.tmp 9), none, [], [9]⟩,
 ⟨some 46, .un .not (.tmp 45), none, [0], [45]⟩,
 ⟨some 47, .mv (.tmp 46), none, [1], [46]⟩,
 ⟨some 48, .mv (.tmp 0), (some ((some 47), false)), [2], [0]⟩,
 ⟨some 49, .mv (.tmp 8), (some ((some 47), false)), [2], [8]⟩,
 ⟨some 50, .iaddr 5 (.tmp 48) (.tmp 49), (some ((some 47), false)), [3, 4, 2], [48, 49]⟩,
 ⟨some 51, .faddr 2 (.tmp 50), (some ((some 47), false)), [5, 2], [50]⟩,
 ⟨some 52, .load false 1 (.tmp 51), (some ((some 47), false)), [6, 2], [51]⟩,
 ⟨some 53, .faddr 2 (.tmp 5), (some ((some 47), false)), [2], [5]⟩,
 ⟨some 54, .load false 1 (.tmp 53), (some ((some 47), false)), [8, 2], [53]⟩,
 ⟨some 55, .call true i_cut_Leq [(.tmp 52), (.tmp 54)], (some ((some 47), false)), [7, 9, 2, 2], [52, 54]⟩,
 ⟨some 56, .un .not (.tmp 55), (some ((some 47), false)), [10, 2], [55]⟩,
 ⟨some 57, .pick (.tmp 47) (.cst (.bool true)) (.tmp 56), none, [2, 11], [47, 56]⟩])
  (.ghost (.kill [8, 9, 45, 46, 47, 48, 49, 50, 51, 52, 53, 54, 55, 56])))
  (.cond (.tmp 57) (.seq (.region false [
      ⟨some 2, .mv (.cst (.bool false)), none, [], []⟩])
    .ret)
  .skip))))))
  (.ghost (.kill [6, 7, 36, 57])))
  (.seq (.region false [
 ⟨some 58, .bin .add (.tmp 30) (.cst (.int .i64 1)), none, [], []⟩,
 ⟨some 30, .mv (.tmp 58), none, [], []⟩])
  (.ghost (.kill [58]))))))
def cut_Consistent.b0 : ACode := (.seq (.region false [
 ⟨some 24, .bin .lss (.tmp 23) (.tmp 22), none, [], []⟩])
  (.seq (.cond (.tmp 24) .skip
  (.exit 0))
  (.seq (.trunc (.block 1 (.seq (.seq (.region false [
 ⟨some 25, .iaddr 5 (.tmp 21) (.tmp 23), none, [], []⟩,
 ⟨some 26, .load true 5 (.tmp 25), none, [], []⟩,
 ⟨some 5, .alloc [(.int .i64 0), (.int .i64 0), .nils, (.int .i64 0), .nils], none, [], []⟩,
 ⟨none, .store 5 (.tmp 5) (.tmp 26), none, [], []⟩])
  (.ghost (.kill [24, 25, 26])))
  (.seq (.seq (.region false [
 ⟨some 27, .faddr 2 (.tmp 5), none, [], []⟩,
 ⟨some 28, .load false 1 (.tmp 27), none, [], []⟩,
 ⟨some 29, .len .sl (.tmp 28), none, [], []⟩,
 ⟨some 30, .mv (.cst (.int .i64 0)), none, [], []⟩])
  (.ghost (.kill [27])))
  (.seq (.block 2 (.loop cut_Consistent.b1))
  cut_Consistent.c3)))))
  cut_Consistent.c2)))
def cut_Consistent.main : ACode := (.seq (.seq (.region false [
 ⟨some 2, .mv (.cst (.bool false)), none, [], []⟩])
  (.ghost (.kill [2])))
  (.seq (.seq (.region false [
 ⟨some 10, .mv (.tmp 0), none, [], []⟩,
 ⟨some 11, .call true i_cut_indices [(.tmp 10)], none, [], []⟩,
 ⟨some 3, .mv (.tmp 11), none, [], []⟩])
  (.ghost (.kill [10, 11])))
  (.seq (.seq (.seq (.region false [
 ⟨some 12, .mv (.tmp 3), none, [], []⟩,
 ⟨some 13, .len .mp (.tmp 12), none, [], []⟩,
 ⟨some 14, .mv (.tmp 0), none, [], []⟩,
 ⟨some 15, .len .sl (.tmp 14), none, [], []⟩,
 ⟨some 16, .bin .neq (.tmp 13) (.tmp 15), none, [], []⟩,
 ⟨some 17, .mv (.tmp 16), none, [], []⟩,
 ⟨some 18, .mv (.tmp 0), (some ((some 17), false)), [], []⟩,
 ⟨some 19, .call true i_slices_ContainsFunc_Commit [(.tmp 18), (.cst (.clo (.func i_cut_Consistent_1) [] []))], (some ((some 17), false)), [], []⟩,
 ⟨some 20, .pick (.tmp 17) (.cst (.bool true)) (.tmp 19), none, [], []⟩])
  (.ghost (.kill [12, 13, 14, 15, 16, 17, 18, 19])))
  (.cond (.tmp 20) (.seq (.region false [
      ⟨some 2, .mv (.cst (.bool false)), none, [], []⟩])
    .ret)
  .skip))
  (.seq (.seq (.seq (.region false [
 ⟨some 21, .mv (.tmp 0), none, [], []⟩,
 ⟨some 22, .len .sl (.tmp 21), none, [], []⟩,
 ⟨some 23, .mv (.cst (.int .i64 0)), none, [], []⟩])
  (.ghost (.kill [20])))
  (.seq (.block 0 (.loop cut_Consistent.b0))
  cut_Consistent.c1))
  cut_Consistent.c0))))
def cut_Consistent.k1 (m0 : Nat) : List Item := [.inBlock 2, .code cut_Consistent.c3, .inBlock 1, .inTrunc m0, .code cut_Consistent.c2, .inLoop cut_Consistent.b0, .inBlock 0, .code cut_Consistent.c1, .code cut_Consistent.c0]
def cut_Consistent.k0 : List Item := [.inBlock 0, .code cut_Consistent.c1, .code cut_Consistent.c0]
def cut_Consistent : AFunc := ⟨60, [.tmp 2], cut_Consistent.main⟩
/-- chapman/chapmanref20.Consistent -/
def r20_Consistent.c0 : ACode := (.seq (.region false [
 ⟨some 2, .mv (.cst (.bool true)), none, [], []⟩])
  .ret)
def r20_Consistent.b1 : ACode := (.seq (.seq (.seq (.region false [
 ⟨some 28, .mv (.tmp 4), none, [], []⟩,
 ⟨some 29, .mv (.tmp 0), none, [], []⟩,
 ⟨some 30, .len .sl (.tmp 29), none, [], []⟩,
 ⟨some 31, .bin .lss (.tmp 28) (.tmp 30), none, [], []⟩])
  (.ghost (.kill [28, 29, 30])))
  (.cond (.tmp 31) .skip
  (.exit 2)))
  (.seq (.seq (.block 3 (.seq (.seq (.region false [
 ⟨some 34, .mv (.tmp 0), none, [], []⟩,
 ⟨some 35, .mv (.tmp 0), none, [], []⟩,
 ⟨some 36, .mv (.tmp 4), none, [], []⟩,
 ⟨some 37, .iaddr 5 (.tmp 35) (.tmp 36), none, [], []⟩,
 ⟨some 38, .faddr 2 (.tmp 37), none, [], []⟩,
 ⟨some 39, .load false 1 (.tmp 38), none, [], []⟩,
 ⟨some 40, .call true i_r20_known [(.tmp 34), (.tmp 39)], none, [], []⟩,
 ⟨some 41, .un .not (.tmp 40), none, [], []⟩])
  (.ghost (.kill [31, 34, 35, 36, 37, 38, 39, 40])))
  (.cond (.tmp 41) (.seq (.region false [
      ⟨some 2, .mv (.cst (.bool false)), none, [], []⟩])
    .ret)
  .skip)))
  (.ghost (.kill [41])))
  (.seq (.region false [
 ⟨some 32, .mv (.tmp 4), none, [], []⟩,
 ⟨some 33, .bin .add (.tmp 32) (.cst (.int .i64 1)), none, [], []⟩,
 ⟨some 4, .mv (.tmp 33), none, [], []⟩])
  (.ghost (.kill [32, 33])))))
def r20_Consistent.c1 : ACode := (.seq (.seq (.region false [
 ⟨some 4, .mv (.cst (.int .i64 0)), none, [], []⟩])
  (.seq (.block 2 (.loop r20_Consistent.b1))
  (.ghost (.kill [0, 4, 31]))))
  r20_Consistent.c0)
def r20_Consistent.b0 : ACode := (.seq (.seq (.seq (.region false [
 ⟨some 5, .mv (.tmp 3), none, [], []⟩,
 ⟨some 6, .mv (.tmp 0), none, [], []⟩,
 ⟨some 7, .len .sl (.tmp 6), none, [], []⟩,
 ⟨some 8, .bin .lss (.tmp 5) (.tmp 7), none, [], []⟩])
  (.ghost (.kill [5, 6, 7])))
  (.cond (.tmp 8) .skip
  (.exit 0)))
  (.seq (.seq (.block 1 (.seq (.seq (.region false [
 ⟨some 11, .mv (.tmp 0), none, [], []⟩,
 ⟨some 12, .mv (.tmp 3), none, [], []⟩,
 ⟨some 13, .iaddr 5 (.tmp 11) (.tmp 12), none, [], []⟩,
 ⟨some 14, .load true 5 (.tmp 13), none, [], []⟩,
 ⟨some 15, .call true i_r20_WellFormed [(.tmp 14)], none, [], []⟩,
 ⟨some 16, .un .not (.tmp 15), none, [], []⟩,
 ⟨some 17, .mv (.tmp 16), none, [], []⟩,
 ⟨some 18, .mv (.tmp 0), (some ((some 17), false)), [], []⟩,
 ⟨some 19, .mv (.tmp 0), (some ((some 17), false)), [], []⟩,
 ⟨some 20, .mv (.tmp 3), (some ((some 17), false)), [], []⟩,
 ⟨some 21, .iaddr 5 (.tmp 19) (.tmp 20), (some ((some 17), false)), [], []⟩,
 ⟨some 22, .faddr 0 (.tmp 21), (some ((some 17), false)), [], []⟩,
 ⟨some 23, .load true 2 (.tmp 22), (some ((some 17), false)), [], []⟩,
 ⟨some 24, .call true i_r20_Find [(.tmp 18), (.tmp 23)], (some ((some 17), false)), [], []⟩,
 ⟨some 25, .mv (.tmp 3), (some ((some 17), false)), [], []⟩,
 ⟨some 26, .bin .neq (.tmp 24) (.tmp 25), (some ((some 17), false)), [], []⟩,
 ⟨some 27, .pick (.tmp 17) (.cst (.bool true)) (.tmp 26), none, [], []⟩])
  (.ghost (.kill [8, 11, 12, 13, 14, 15, 16, 17, 18, 19, 20, 21, 22, 23, 24, 25, 26])))
  (.cond (.tmp 27) (.seq (.region false [
      ⟨some 2, .mv (.cst (.bool false)), none, [], []⟩])
    .ret)
  .skip)))
  (.ghost (.kill [27])))
  (.seq (.region false [
 ⟨some 9, .mv (.tmp 3), none, [], []⟩,
 ⟨some 10, .bin .add (.tmp 9) (.cst (.int .i64 1)), none, [], []⟩,
 ⟨some 3, .mv (.tmp 10), none, [], []⟩])
  (.ghost (.kill [9, 10])))))
def r20_Consistent.main : ACode := (.seq (.seq (.region false [
 ⟨some 2, .mv (.cst (.bool false)), none, [], []⟩])
  (.ghost (.kill [2])))
  (.seq (.seq (.region false [
 ⟨some 3, .mv (.cst (.int .i64 0)), none, [], []⟩])
  (.seq (.block 0 (.loop r20_Consistent.b0))
  (.ghost (.kill [3, 8]))))
  r20_Consistent.c1))
def r20_Consistent.k1 : List Item := [.inBlock 2, .code (.ghost (.kill [0, 4, 31])), .code r20_Consistent.c0]
def r20_Consistent.k0 : List Item := [.inBlock 0, .code (.ghost (.kill [3, 8])), .code r20_Consistent.c1]
def r20_Consistent : AFunc := ⟨42, [.tmp 2], r20_Consistent.main⟩
end Go.Abs
