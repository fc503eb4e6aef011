/- The functions of the program as terms of the abstract machine, printed by wip/gen/gen.py, with marks. -/
import Derived.Test.YtmdkgkhddjhdoaaDoorJAbsCore
set_option linter.all false
namespace Go.Abs
open Go
def i_l23_EscrowMatchesReference : FuncId := 3
def i_l23_EscrowConserves : FuncId := 4
def i_l23_EscrowIndependence : FuncId := 5
def i_l23_EscrowMonotone : FuncId := 6
def i_l23_EscrowAtomic : FuncId := 7
def i_l23_EscrowPromises : FuncId := 8
def i_l23_examples : FuncId := 9
def i_l23_short : FuncId := 10
def i_r23_With : FuncId := 11
def i_r20_Headers : FuncId := 12
def i_r23_Shares : FuncId := 13
def i_r23_Alike : FuncId := 14
def i_l23_created : FuncId := 15
def i_r23_NewIn : FuncId := 16
def i_escrow_Valid : FuncId := 17
def i_r23_Valid : FuncId := 18
def i_escrow_Total : FuncId := 19
def i_r23_Total : FuncId := 20
def i_l23_taken : FuncId := 21
def i_r23_TakeIn : FuncId := 22
def i_l23_granted : FuncId := 23
def i_r23_GrantIn : FuncId := 24
def i_r23_Same : FuncId := 25
def i_l23_played : FuncId := 26
def i_r23_PlayIn : FuncId := 27
def i_l23_did : FuncId := 28
def i_r23_DoIn : FuncId := 29
def i_escrow_Covered : FuncId := 30
def i_r23_Covered : FuncId := 31
def i_l23_commit : FuncId := 32
def i_r20_Same : FuncId := 33
def i_l23_kept : FuncId := 34
def i_r20_CutOf : FuncId := 35
def i_cut_Order : FuncId := 36
def i_cut_Has : FuncId := 37
def i_l23_causal : FuncId := 38
def i_l23_all : FuncId := 39
def i_r20_Zero : FuncId := 40
def i_l23_take : FuncId := 41
def i_r23_Op : FuncId := 42
def i_r20_JoinIn : FuncId := 43
def i_r20_Own : FuncId := 44
def i_escrow_New : FuncId := 45
def i_r23_station : FuncId := 46
def i_escrow_Take : FuncId := 47
def i_r23_MoveIn : FuncId := 48
def i_escrow_Grant : FuncId := 49
def i_escrow_Play : FuncId := 50
def i_escrow_Do : FuncId := 51
def i_slices_DeleteFunc_Commit : FuncId := 52
def i_slices_Clone_Commit : FuncId := 53
def i_escrow_Covered_1 : FuncId := 54
def i_cut_Sees : FuncId := 55
def i_slices_SortStableFunc_Commit : FuncId := 56
def i_escrow_Covered_2 : FuncId := 57
def i_cut_Before : FuncId := 58
def i_r23_Seen : FuncId := 59
def i_r20_GreatestIn : FuncId := 60
def i_r20_All : FuncId := 61
def i_r20_Limit : FuncId := 62
def i_cut_Closed : FuncId := 63
def i_cut_indices : FuncId := 64
def i_slices_SortFunc_int : FuncId := 65
def i_cut_Order_1 : FuncId := 66
def i_cut_compare : FuncId := 67
def i_cut_Valid : FuncId := 68
def i_r20_Sees : FuncId := 69
def i_r20_Valid : FuncId := 70
def i_escrow_station : FuncId := 71
def i_escrow_try : FuncId := 72
def i_escrow_Take_1 : FuncId := 73
def i_escrow_stock_take : FuncId := 74
def i_escrow_Grant_1 : FuncId := 75
def i_escrow_stock_grant : FuncId := 76
def i_slices_Clone_int : FuncId := 77
def i_escrow_Do_1 : FuncId := 78
def i_slices_IndexFunc_Commit : FuncId := 79
def i_cut_WellFormed : FuncId := 80
def i_slices_stableCmpFunc_Commit : FuncId := 81
def i_r20_Before : FuncId := 82
def i_r20_Closed : FuncId := 83
def i_r20_fits : FuncId := 84
def i_cut_reach : FuncId := 85
def i_slices_Equal_int : FuncId := 86
def i_slices_pdqsortCmpFunc_int : FuncId := 87
def i_bits_Len : FuncId := 88
def i_cmp_Or_int : FuncId := 89
def i_cmp_Compare_int : FuncId := 90
def i_cut_weight : FuncId := 91
def i_slices_ContainsFunc_int : FuncId := 92
def i_cut_Valid_1 : FuncId := 93
def i_r20_WellFormed : FuncId := 94
def i_slices_insertionSortCmpFunc_Commit : FuncId := 95
def i_slices_symMergeCmpFunc_Commit : FuncId := 96
def i_r20_Weight : FuncId := 97
def i_r20_Find : FuncId := 98
def i_r20_Leq : FuncId := 99
def i_cut_Leq : FuncId := 100
def i_slices_insertionSortCmpFunc_int : FuncId := 101
def i_slices_heapSortCmpFunc_int : FuncId := 102
def i_slices_breakPatternsCmpFunc_int : FuncId := 103
def i_slices_choosePivotCmpFunc_int : FuncId := 104
def i_slices_reverseRangeCmpFunc_int : FuncId := 105
def i_slices_partialInsertionSortCmpFunc_int : FuncId := 106
def i_slices_partitionEqualCmpFunc_int : FuncId := 107
def i_slices_partitionCmpFunc_int : FuncId := 108
def i_bits_Len32 : FuncId := 109
def i_bits_Len64 : FuncId := 110
def i_cmp_isNaN_int : FuncId := 111
def i_slices_IndexFunc_int : FuncId := 112
def i_slices_rotateCmpFunc_Commit : FuncId := 113
def i_slices_siftDownCmpFunc_int : FuncId := 114
def i_slices_nextPowerOfTwo : FuncId := 115
def i_slices_xorshift_Next : FuncId := 116
def i_slices_medianAdjacentCmpFunc_int : FuncId := 117
def i_slices_medianCmpFunc_int : FuncId := 118
def i_slices_swapRangeCmpFunc_Commit : FuncId := 119
def i_slices_order2CmpFunc_int : FuncId := 120
def i_gosem_cut_vars : FuncId := 140
/-- chapman/chapmanlaw23.EscrowIndependence -/
def l23_EscrowIndependence.main : ACode := (.seq (.seq (.region false [
 ⟨some 6, .mv (.cst (.bool false)), none, [], []⟩])
  (.ghost (.kill [6])))
  (.seq (.seq (.region false [
 ⟨some 15, .call true i_l23_examples [], none, [], []⟩,
 ⟨some 7, .mv (.tmp 15), none, [], []⟩])
  (.ghost (.kill [15])))
  (.seq (.seq (.seq (.region false [
 ⟨some 16, .mv (.tmp 7), none, [], []⟩,
 ⟨some 17, .un .not (.tmp 16), none, [], []⟩])
  (.ghost (.kill [16])))
  (.cond (.tmp 17) (.seq (.region false [
      ⟨some 6, .mv (.cst (.bool false)), none, [], []⟩])
    .ret)
  .skip))
  (.seq (.seq (.region false [
 ⟨some 18, .mv (.tmp 0), none, [], []⟩,
 ⟨some 19, .call true i_r23_Shares [(.tmp 18)], none, [], []⟩,
 ⟨some 8, .mv (.tmp 19), none, [], []⟩])
  (.ghost (.kill [0, 17, 18, 19])))
  (.seq (.seq (.region false [
 ⟨some 20, .mv (.tmp 1), none, [], []⟩,
 ⟨some 21, .call true i_l23_commit [(.cst (.int .i64 0)), (.tmp 20)], none, [], []⟩,
 ⟨some 22, .mv (.tmp 2), none, [], []⟩,
 ⟨some 23, .call true i_l23_commit [(.cst (.int .i64 1)), (.tmp 22)], none, [], []⟩,
 ⟨some 9, .alloc [(.int .i64 0), (.int .i64 0), .nils, (.int .i64 0), .nils], none, [], []⟩,
 ⟨some 10, .alloc [(.int .i64 0), (.int .i64 0), .nils, (.int .i64 0), .nils], none, [], []⟩,
 ⟨none, .store 5 (.tmp 9) (.tmp 21), none, [], []⟩,
 ⟨none, .store 5 (.tmp 10) (.tmp 23), none, [], []⟩])
  (.ghost (.kill [1, 2, 20, 21, 22, 23])))
  (.seq (.seq (.region true [
 ⟨some 24, .mv (.tmp 8), none, [], [8]⟩,
 ⟨some 25, .load true 5 (.tmp 9), none, [], [9]⟩,
 ⟨some 26, .call true i_l23_did [(.tmp 24), (.tmp 25)], none, [0, 1], [24, 25]⟩,
 ⟨some 27, .mv (.tmp 8), none, [], [8]⟩,
 ⟨some 28, .load true 5 (.tmp 10), none, [], [10]⟩,
 ⟨some 29, .call true i_l23_did [(.tmp 27), (.tmp 28)], none, [3, 4, 2], [27, 28]⟩,
 ⟨some 11, .alloc [.nils, (.int .i64 0)], none, [], []⟩,
 ⟨some 12, .alloc [.nils, (.int .i64 0)], none, [], []⟩,
 ⟨none, .store 2 (.tmp 11) (.tmp 26), none, [6, 2, 5, 0, 1, 2, 6, 7], [11, 26]⟩,
 ⟨none, .store 2 (.tmp 12) (.tmp 29), none, [7, 5, 8, 0, 1, 2, 3, 4, 5, 6, 7, 8], [12, 29]⟩])
  (.ghost (.kill [8, 24, 25, 26, 27, 28, 29])))
  (.seq (.seq (.seq (.region false [
 ⟨some 30, .faddr 1 (.tmp 11), none, [], []⟩,
 ⟨some 31, .load false 1 (.tmp 30), none, [], []⟩,
 ⟨some 32, .bin .neq (.tmp 31) (.cst (.int .i64 0)), none, [], []⟩,
 ⟨some 33, .mv (.tmp 32), none, [], []⟩,
 ⟨some 34, .faddr 1 (.tmp 12), (some ((some 33), false)), [], []⟩,
 ⟨some 35, .load false 1 (.tmp 34), (some ((some 33), false)), [], []⟩,
 ⟨some 36, .bin .neq (.tmp 35) (.cst (.int .i64 0)), (some ((some 33), false)), [], []⟩,
 ⟨some 37, .pick (.tmp 33) (.cst (.bool true)) (.tmp 36), none, [], []⟩])
  (.ghost (.kill [30, 31, 32, 33, 34, 35, 36])))
  (.cond (.tmp 37) (.seq (.region false [
      ⟨some 38, .mv (.tmp 7), none, [], []⟩,
      ⟨some 6, .mv (.tmp 38), none, [], []⟩])
    .ret)
  .skip))
  (.seq (.seq (.seq (.region false [
 ⟨some 39, .faddr 0 (.tmp 11), none, [], []⟩,
 ⟨some 40, .load false 1 (.tmp 39), none, [], []⟩,
 ⟨some 41, .call true i_r23_Valid [(.tmp 40)], none, [], []⟩,
 ⟨some 42, .un .not (.tmp 41), none, [], []⟩,
 ⟨some 43, .mv (.tmp 42), none, [], []⟩,
 ⟨some 44, .faddr 0 (.tmp 12), (some ((some 43), false)), [], []⟩,
 ⟨some 45, .load false 1 (.tmp 44), (some ((some 43), false)), [], []⟩,
 ⟨some 46, .call true i_r23_Valid [(.tmp 45)], (some ((some 43), false)), [], []⟩,
 ⟨some 47, .un .not (.tmp 46), (some ((some 43), false)), [], []⟩,
 ⟨some 48, .pick (.tmp 43) (.cst (.bool true)) (.tmp 47), none, [], []⟩])
  (.ghost (.kill [37, 39, 40, 41, 42, 43, 44, 45, 46, 47])))
  (.cond (.tmp 48) (.seq (.region false [
      ⟨some 6, .mv (.cst (.bool false)), none, [], []⟩])
    .ret)
  .skip))
  (.seq (.seq (.region true [
 ⟨some 49, .faddr 0 (.tmp 11), none, [], [11]⟩,
 ⟨some 50, .load false 1 (.tmp 49), none, [0], [49]⟩,
 ⟨some 51, .load true 5 (.tmp 10), none, [], [10]⟩,
 ⟨some 52, .call true i_l23_did [(.tmp 50), (.tmp 51)], none, [1, 2], [50, 51]⟩,
 ⟨some 53, .faddr 0 (.tmp 12), none, [], [12]⟩,
 ⟨some 54, .load false 1 (.tmp 53), none, [4], [53]⟩,
 ⟨some 55, .load true 5 (.tmp 9), none, [], [9]⟩,
 ⟨some 56, .call true i_l23_did [(.tmp 54), (.tmp 55)], none, [5, 6, 3], [54, 55]⟩,
 ⟨some 13, .alloc [.nils, (.int .i64 0)], none, [], []⟩,
 ⟨some 14, .alloc [.nils, (.int .i64 0)], none, [], []⟩,
 ⟨none, .store 2 (.tmp 13) (.tmp 52), none, [8, 3, 7, 0, 1, 2, 3, 8, 9], [13, 52]⟩,
 ⟨none, .store 2 (.tmp 14) (.tmp 56), none, [9, 7, 10, 0, 1, 2, 3, 4, 5, 6, 7, 8, 9, 10], [14, 56]⟩])
  (.ghost (.kill [9, 10, 11, 12, 48, 49, 50, 51, 52, 53, 54, 55, 56])))
  (.seq (.region false [
 ⟨some 57, .faddr 1 (.tmp 13), none, [], []⟩,
 ⟨some 58, .load false 1 (.tmp 57), none, [], []⟩,
 ⟨some 59, .bin .eql (.tmp 58) (.cst (.int .i64 0)), none, [], []⟩,
 ⟨some 60, .mv (.tmp 59), none, [], []⟩,
 ⟨some 61, .faddr 1 (.tmp 14), (some ((some 60), true)), [], []⟩,
 ⟨some 62, .load false 1 (.tmp 61), (some ((some 60), true)), [], []⟩,
 ⟨some 63, .bin .eql (.tmp 62) (.cst (.int .i64 0)), (some ((some 60), true)), [], []⟩,
 ⟨some 64, .pick (.tmp 60) (.tmp 63) (.cst (.bool false)), none, [], []⟩,
 ⟨some 65, .mv (.tmp 64), none, [], []⟩,
 ⟨some 66, .faddr 0 (.tmp 13), (some ((some 65), true)), [], []⟩,
 ⟨some 67, .load false 1 (.tmp 66), (some ((some 65), true)), [], []⟩,
 ⟨some 68, .faddr 0 (.tmp 14), (some ((some 65), true)), [], []⟩,
 ⟨some 69, .load false 1 (.tmp 68), (some ((some 65), true)), [], []⟩,
 ⟨some 70, .call true i_r20_Same [(.tmp 67), (.tmp 69)], (some ((some 65), true)), [], []⟩,
 ⟨some 71, .pick (.tmp 65) (.tmp 70) (.cst (.bool false)), none, [], []⟩,
 ⟨some 72, .mv (.tmp 71), none, [], []⟩,
 ⟨some 73, .mv (.tmp 7), (some ((some 72), true)), [], []⟩,
 ⟨some 74, .pick (.tmp 72) (.tmp 73) (.cst (.bool false)), none, [], []⟩,
 ⟨some 6, .mv (.tmp 74), none, [], []⟩])
  .ret))))))))))
def l23_EscrowIndependence : AFunc := ⟨75, [.tmp 6], l23_EscrowIndependence.main⟩
/-- chapman/chapmanlaw23.EscrowPromises -/
def l23_EscrowPromises.c0 : ACode := (.seq (.seq (.ghost (.dfreeze 14))
  (.seq (.region false [
 ⟨some 96, .mv (.tmp 14), none, [], []⟩,
 ⟨some 97, .iaddrA 3 1 (.tmp 5) (.cst (.int .i64 2)), none, [], []⟩,
 ⟨some 98, .load false 1 (.tmp 97), none, [], []⟩,
 ⟨some 99, .call true i_l23_causal [(.tmp 96), (.tmp 98)], none, [], []⟩,
 ⟨some 17, .mv (.tmp 99), none, [], []⟩])
  (.ghost (.kill [5, 96, 97, 98, 99]))))
  (.seq (.seq (.region false [
 ⟨some 100, .mv (.tmp 8), none, [], []⟩,
 ⟨some 101, .mv (.tmp 13), none, [], []⟩,
 ⟨some 102, .call true i_l23_played [(.tmp 100), (.tmp 101)], none, [], []⟩,
 ⟨some 103, .mv (.tmp 8), none, [], []⟩,
 ⟨some 104, .mv (.tmp 17), none, [], []⟩,
 ⟨some 105, .call true i_l23_played [(.tmp 103), (.tmp 104)], none, [], []⟩,
 ⟨some 18, .alloc [.nils, .nils], none, [], []⟩,
 ⟨some 19, .alloc [.nils, .nils], none, [], []⟩,
 ⟨none, .store 2 (.tmp 18) (.tmp 102), none, [], []⟩,
 ⟨none, .store 2 (.tmp 19) (.tmp 105), none, [], []⟩])
  (.ghost (.kill [100, 101, 102, 103, 104, 105])))
  (.seq (.region false [
 ⟨some 106, .mv (.tmp 17), none, [], []⟩,
 ⟨some 107, .len .sl (.tmp 106), none, [], []⟩,
 ⟨some 108, .mv (.tmp 14), none, [], []⟩,
 ⟨some 109, .len .sl (.tmp 108), none, [], []⟩,
 ⟨some 110, .bin .eql (.tmp 107) (.tmp 109), none, [], []⟩,
 ⟨some 111, .mv (.tmp 110), none, [], []⟩,
 ⟨some 112, .mv (.tmp 13), (some ((some 111), true)), [], []⟩,
 ⟨some 113, .len .sl (.tmp 112), (some ((some 111), true)), [], []⟩,
 ⟨some 114, .mv (.tmp 14), (some ((some 111), true)), [], []⟩,
 ⟨some 115, .len .sl (.tmp 114), (some ((some 111), true)), [], []⟩,
 ⟨some 116, .bin .eql (.tmp 113) (.tmp 115), (some ((some 111), true)), [], []⟩,
 ⟨some 117, .pick (.tmp 111) (.tmp 116) (.cst (.bool false)), none, [], []⟩,
 ⟨some 118, .mv (.tmp 117), none, [], []⟩,
 ⟨some 119, .load true 2 (.tmp 18), (some ((some 118), true)), [], []⟩,
 ⟨some 120, .mv (.tmp 13), (some ((some 118), true)), [], []⟩,
 ⟨some 121, .len .sl (.tmp 120), (some ((some 118), true)), [], []⟩,
 ⟨some 122, .call true i_l23_all [(.tmp 119), (.tmp 121)], (some ((some 118), true)), [], []⟩,
 ⟨some 123, .pick (.tmp 118) (.tmp 122) (.cst (.bool false)), none, [], []⟩,
 ⟨some 124, .mv (.tmp 123), none, [], []⟩,
 ⟨some 125, .load true 2 (.tmp 19), (some ((some 124), true)), [], []⟩,
 ⟨some 126, .mv (.tmp 17), (some ((some 124), true)), [], []⟩,
 ⟨some 127, .len .sl (.tmp 126), (some ((some 124), true)), [], []⟩,
 ⟨some 128, .call true i_l23_all [(.tmp 125), (.tmp 127)], (some ((some 124), true)), [], []⟩,
 ⟨some 129, .pick (.tmp 124) (.tmp 128) (.cst (.bool false)), none, [], []⟩,
 ⟨some 130, .mv (.tmp 129), none, [], []⟩,
 ⟨some 131, .faddr 0 (.tmp 18), (some ((some 130), true)), [], []⟩,
 ⟨some 132, .load false 1 (.tmp 131), (some ((some 130), true)), [], []⟩,
 ⟨some 133, .faddr 0 (.tmp 19), (some ((some 130), true)), [], []⟩,
 ⟨some 134, .load false 1 (.tmp 133), (some ((some 130), true)), [], []⟩,
 ⟨some 135, .call true i_r20_Same [(.tmp 132), (.tmp 134)], (some ((some 130), true)), [], []⟩,
 ⟨some 136, .pick (.tmp 130) (.tmp 135) (.cst (.bool false)), none, [], []⟩,
 ⟨some 137, .mv (.tmp 136), none, [], []⟩,
 ⟨some 138, .faddr 0 (.tmp 18), (some ((some 137), true)), [], []⟩,
 ⟨some 139, .load false 1 (.tmp 138), (some ((some 137), true)), [], []⟩,
 ⟨some 140, .call true i_escrow_Total [(.tmp 139)], (some ((some 137), true)), [], []⟩,
 ⟨some 141, .mv (.tmp 8), (some ((some 137), true)), [], []⟩,
 ⟨some 142, .call true i_escrow_Total [(.tmp 141)], (some ((some 137), true)), [], []⟩,
 ⟨some 143, .bin .leq (.tmp 140) (.tmp 142), (some ((some 137), true)), [], []⟩,
 ⟨some 144, .pick (.tmp 137) (.tmp 143) (.cst (.bool false)), none, [], []⟩,
 ⟨some 145, .mv (.tmp 144), none, [], []⟩,
 ⟨some 146, .mv (.tmp 7), (some ((some 145), true)), [], []⟩,
 ⟨some 147, .pick (.tmp 145) (.tmp 146) (.cst (.bool false)), none, [], []⟩,
 ⟨some 6, .mv (.tmp 147), none, [], []⟩])
  .ret)))
def l23_EscrowPromises.c1 : ACode := (.ghost (.kill [9, 10, 16, 79]))
def l23_EscrowPromises.c2 : ACode := (.seq (.region false [
 ⟨some 80, .mv (.tmp 16), none, [], []⟩,
 ⟨some 81, .bin .add (.tmp 80) (.cst (.int .i64 1)), none, [], []⟩,
 ⟨some 16, .mv (.tmp 81), none, [], []⟩])
  (.ghost (.kill [80, 81])))
def l23_EscrowPromises.b1 : ACode := (.seq (.seq (.seq (.region false [
 ⟨some 76, .mv (.tmp 16), none, [], []⟩,
 ⟨some 77, .mv (.tmp 9), none, [], []⟩,
 ⟨some 78, .len .sl (.tmp 77), none, [], []⟩,
 ⟨some 79, .bin .lss (.tmp 76) (.tmp 78), none, [], []⟩])
  (.ghost (.kill [76, 77, 78])))
  (.cond (.tmp 79) .skip
  (.exit 2)))
  (.seq (.trunc (.block 3 (.seq (.seq (.region false [
 ⟨some 82, .mv (.tmp 10), none, [], []⟩,
 ⟨some 83, .mv (.tmp 9), none, [], []⟩,
 ⟨some 84, .mv (.tmp 16), none, [], []⟩,
 ⟨some 85, .iaddr 5 (.tmp 83) (.tmp 84), none, [], []⟩,
 ⟨some 86, .faddr 0 (.tmp 85), none, [], []⟩,
 ⟨some 87, .load true 2 (.tmp 86), none, [], []⟩,
 ⟨some 88, .call true i_cut_Has [(.tmp 82), (.tmp 87)], none, [], []⟩])
  (.ghost (.kill [79, 82, 83, 84, 85, 86, 87])))
  (.seq (.cond (.tmp 88) (.seq (.region false [
      ⟨some 89, .mv (.tmp 14), none, [], []⟩,
      ⟨some 90, .mv (.tmp 9), none, [], []⟩,
      ⟨some 91, .mv (.tmp 16), none, [], []⟩,
      ⟨some 92, .iaddr 5 (.tmp 90) (.tmp 91), none, [], []⟩,
      ⟨some 93, .load true 5 (.tmp 92), none, [], []⟩,
      ⟨some 94, .bslice 5 1 [(.int .i64 0), (.int .i64 0), .nils, (.int .i64 0), .nils] [(0, (.tmp 93))], none, [], []⟩,
      ⟨some 95, .append 5 72 (.tmp 89) (.tmp 94), none, [], []⟩,
      ⟨some 14, .mv (.tmp 95), none, [], []⟩])
    (.ghost (.kill [88, 89, 90, 91, 92, 93, 94, 95])))
  .skip)
  (.ghost (.kill [88]))))))
  l23_EscrowPromises.c2))
def l23_EscrowPromises.c3 : ACode := (.seq (.seq (.seq (.region false [
 ⟨some 16, .mv (.cst (.int .i64 0)), none, [], []⟩])
  (.ghost (.dfreeze 13)))
  (.seq (.block 2 (.loop l23_EscrowPromises.b1))
  l23_EscrowPromises.c1))
  l23_EscrowPromises.c0)
def l23_EscrowPromises.b0 : ACode := (.seq (.seq (.seq (.region false [
 ⟨some 46, .mv (.tmp 15), none, [], []⟩,
 ⟨some 47, .mv (.tmp 11), none, [], []⟩,
 ⟨some 48, .len .sl (.tmp 47), none, [], []⟩,
 ⟨some 49, .bin .lss (.tmp 46) (.tmp 48), none, [], []⟩])
  (.ghost (.kill [46, 47, 48])))
  (.cond (.tmp 49) .skip
  (.exit 0)))
  (.seq (.trunc (.block 1 (.seq (.seq (.seq (.region false [
 ⟨some 52, .mv (.tmp 11), none, [], []⟩,
 ⟨some 53, .mv (.tmp 15), none, [], []⟩,
 ⟨some 54, .iaddr 1 (.tmp 52) (.tmp 53), none, [], []⟩,
 ⟨some 55, .load false 1 (.tmp 54), none, [], []⟩,
 ⟨some 56, .bin .lss (.tmp 55) (.cst (.int .i64 0)), none, [], []⟩,
 ⟨some 57, .mv (.tmp 56), none, [], []⟩,
 ⟨some 58, .mv (.tmp 11), (some ((some 57), false)), [], []⟩,
 ⟨some 59, .mv (.tmp 15), (some ((some 57), false)), [], []⟩,
 ⟨some 60, .iaddr 1 (.tmp 58) (.tmp 59), (some ((some 57), false)), [], []⟩,
 ⟨some 61, .load false 1 (.tmp 60), (some ((some 57), false)), [], []⟩,
 ⟨some 62, .mv (.tmp 9), (some ((some 57), false)), [], []⟩,
 ⟨some 63, .len .sl (.tmp 62), (some ((some 57), false)), [], []⟩,
 ⟨some 64, .bin .geq (.tmp 61) (.tmp 63), (some ((some 57), false)), [], []⟩,
 ⟨some 65, .pick (.tmp 57) (.cst (.bool true)) (.tmp 64), none, [], []⟩])
  (.ghost (.kill [49, 52, 53, 54, 55, 56, 57, 58, 59, 60, 61, 62, 63, 64])))
  (.cond (.tmp 65) (.seq (.region false [
      ⟨some 6, .mv (.cst (.bool false)), none, [], []⟩])
    .ret)
  .skip))
  (.seq (.region false [
 ⟨some 66, .mv (.tmp 13), none, [], []⟩,
 ⟨some 67, .mv (.tmp 9), none, [], []⟩,
 ⟨some 68, .mv (.tmp 11), none, [], []⟩,
 ⟨some 69, .mv (.tmp 15), none, [], []⟩,
 ⟨some 70, .iaddr 1 (.tmp 68) (.tmp 69), none, [], []⟩,
 ⟨some 71, .load false 1 (.tmp 70), none, [], []⟩,
 ⟨some 72, .iaddr 5 (.tmp 67) (.tmp 71), none, [], []⟩,
 ⟨some 73, .load true 5 (.tmp 72), none, [], []⟩,
 ⟨some 74, .bslice 5 1 [(.int .i64 0), (.int .i64 0), .nils, (.int .i64 0), .nils] [(0, (.tmp 73))], none, [], []⟩,
 ⟨some 75, .append 5 72 (.tmp 66) (.tmp 74), none, [], []⟩,
 ⟨some 13, .mv (.tmp 75), none, [], []⟩])
  (.ghost (.kill [65, 66, 67, 68, 69, 70, 71, 72, 73, 74, 75]))))))
  (.seq (.region false [
 ⟨some 50, .mv (.tmp 15), none, [], []⟩,
 ⟨some 51, .bin .add (.tmp 50) (.cst (.int .i64 1)), none, [], []⟩,
 ⟨some 15, .mv (.tmp 51), none, [], []⟩])
  (.ghost (.kill [50, 51])))))
def l23_EscrowPromises.main : ACode := (.seq (.seq (.region false [
 ⟨some 5, .box 3 (.tmp 2), none, [], []⟩,
 ⟨some 6, .mv (.cst (.bool false)), none, [], []⟩])
  (.ghost (.kill [2, 6])))
  (.seq (.seq (.region false [
 ⟨some 20, .call true i_l23_examples [], none, [], []⟩,
 ⟨some 7, .mv (.tmp 20), none, [], []⟩])
  (.ghost (.kill [20])))
  (.seq (.seq (.seq (.region false [
 ⟨some 21, .mv (.tmp 7), none, [], []⟩,
 ⟨some 22, .un .not (.tmp 21), none, [], []⟩])
  (.ghost (.kill [21])))
  (.cond (.tmp 22) (.seq (.region false [
      ⟨some 6, .mv (.cst (.bool false)), none, [], []⟩])
    .ret)
  .skip))
  (.seq (.seq (.region false [
 ⟨some 23, .iaddrA 3 1 (.tmp 5) (.cst (.int .i64 0)), none, [], []⟩,
 ⟨some 24, .load false 1 (.tmp 23), none, [], []⟩,
 ⟨some 25, .call true i_r23_Shares [(.tmp 24)], none, [], []⟩,
 ⟨some 8, .mv (.tmp 25), none, [], []⟩])
  (.ghost (.kill [22, 23, 24, 25])))
  (.seq (.seq (.region false [
 ⟨some 26, .mv (.tmp 8), none, [], []⟩,
 ⟨some 27, .mv (.tmp 0), none, [], []⟩,
 ⟨some 28, .call true i_r20_Headers [(.tmp 27)], none, [], []⟩,
 ⟨some 29, .mv (.tmp 1), none, [], []⟩,
 ⟨some 30, .call true i_r23_With [(.tmp 28), (.tmp 29)], none, [], []⟩,
 ⟨some 31, .call true i_l23_kept [(.tmp 26), (.tmp 30)], none, [], []⟩,
 ⟨some 9, .mv (.tmp 31), none, [], []⟩])
  (.ghost (.kill [0, 1, 26, 27, 28, 29, 30, 31])))
  (.seq (.seq (.region false [
 ⟨some 32, .mv (.tmp 9), none, [], []⟩,
 ⟨some 33, .iaddrA 3 1 (.tmp 5) (.cst (.int .i64 1)), none, [], []⟩,
 ⟨some 34, .load false 1 (.tmp 33), none, [], []⟩,
 ⟨some 35, .call true i_r20_CutOf [(.tmp 32), (.tmp 34)], none, [], []⟩,
 ⟨some 10, .mv (.tmp 35), none, [], []⟩])
  (.ghost (.kill [32, 33, 34, 35])))
  (.seq (.seq (.region false [
 ⟨some 37, .mv (.tmp 9), none, [], []⟩,
 ⟨some 38, .mv (.tmp 10), none, [], []⟩,
 ⟨some 39, .call true i_cut_Order [(.tmp 37), (.tmp 38)], none, [], []⟩,
 ⟨some 36, .mv (.tmp 39), none, [], []⟩,
 ⟨some 40, .extr (.tmp 36) 0, none, [], []⟩,
 ⟨some 41, .extr (.tmp 36) 1, none, [], []⟩,
 ⟨some 11, .mv (.tmp 40), none, [], []⟩,
 ⟨some 12, .mv (.tmp 41), none, [], []⟩])
  (.ghost (.kill [36, 37, 38, 39, 40, 41])))
  (.seq (.seq (.seq (.region false [
 ⟨some 42, .mv (.tmp 12), none, [], []⟩,
 ⟨some 43, .bin .neq (.tmp 42) (.cst (.int .i64 0)), none, [], []⟩])
  (.ghost (.kill [12, 42])))
  (.cond (.tmp 43) (.seq (.region false [
      ⟨some 6, .mv (.cst (.bool false)), none, [], []⟩])
    .ret)
  .skip))
  (.seq (.seq (.region false [
 ⟨some 44, .bslice 5 0 [(.int .i64 0), (.int .i64 0), .nils, (.int .i64 0), .nils] [], none, [], []⟩,
 ⟨some 45, .bslice 5 0 [(.int .i64 0), (.int .i64 0), .nils, (.int .i64 0), .nils] [], none, [], []⟩,
 ⟨some 13, .mv (.tmp 44), none, [], []⟩,
 ⟨some 14, .mv (.tmp 45), none, [], []⟩])
  (.ghost (.kill [43, 44, 45])))
  (.seq (.seq (.region false [
 ⟨some 15, .mv (.cst (.int .i64 0)), none, [], []⟩])
  (.seq (.block 0 (.loop l23_EscrowPromises.b0))
  (.ghost (.kill [11, 15, 49]))))
  l23_EscrowPromises.c3))))))))))
def l23_EscrowPromises.k1 : List Item := [.inBlock 2, .code l23_EscrowPromises.c1, .code l23_EscrowPromises.c0]
def l23_EscrowPromises.k0 : List Item := [.inBlock 0, .code (.ghost (.kill [11, 15, 49])), .code l23_EscrowPromises.c3]
def l23_EscrowPromises : AFunc := ⟨148, [.tmp 6], l23_EscrowPromises.main⟩
/-- chapman/chapmanlaw23.examples -/
def l23_examples.c0 : ACode := (.seq (.seq (.seq (.region false [
 ⟨some 67, .load true 5 (.tmp 4), none, [], []⟩,
 ⟨some 68, .load true 5 (.tmp 5), none, [], []⟩,
 ⟨some 69, .bslice 5 2 [(.int .i64 0), (.int .i64 0), .nils, (.int .i64 0), .nils] [(0, (.tmp 67)), (1, (.tmp 68))], none, [], []⟩,
 ⟨some 7, .mv (.tmp 69), none, [], []⟩])
  (.ghost (.dfreeze 7)))
  (.ghost (.kill [67, 68, 69])))
  (.seq (.seq (.seq (.region false [
 ⟨some 70, .mv (.tmp 1), none, [], []⟩,
 ⟨some 71, .mv (.tmp 7), none, [], []⟩,
 ⟨some 72, .load true 5 (.tmp 5), none, [], []⟩,
 ⟨some 73, .call true i_escrow_Covered [(.tmp 70), (.tmp 71), (.tmp 72)], none, [], []⟩,
 ⟨some 74, .un .not (.tmp 73), none, [], []⟩,
 ⟨some 75, .mv (.tmp 74), none, [], []⟩,
 ⟨some 76, .mv (.tmp 1), (some ((some 75), false)), [], []⟩,
 ⟨some 77, .mv (.tmp 7), (some ((some 75), false)), [], []⟩,
 ⟨some 78, .load true 5 (.tmp 6), (some ((some 75), false)), [], []⟩,
 ⟨some 79, .call true i_escrow_Covered [(.tmp 76), (.tmp 77), (.tmp 78)], (some ((some 75), false)), [], []⟩,
 ⟨some 80, .pick (.tmp 75) (.cst (.bool true)) (.tmp 79), none, [], []⟩,
 ⟨some 81, .mv (.tmp 80), none, [], []⟩,
 ⟨some 82, .mv (.tmp 1), (some ((some 81), false)), [], []⟩,
 ⟨some 83, .load true 5 (.tmp 4), (some ((some 81), false)), [], []⟩,
 ⟨some 84, .call true i_escrow_Covered [(.tmp 82), (.cst .nils), (.tmp 83)], (some ((some 81), false)), [], []⟩,
 ⟨some 85, .un .not (.tmp 84), (some ((some 81), false)), [], []⟩,
 ⟨some 86, .pick (.tmp 81) (.cst (.bool true)) (.tmp 85), none, [], []⟩])
  (.ghost (.kill [6, 70, 71, 72, 73, 74, 75, 76, 77, 78, 79, 80, 81, 82, 83, 84, 85])))
  (.cond (.tmp 86) (.seq (.region false [
      ⟨some 0, .mv (.cst (.bool false)), none, [], []⟩])
    .ret)
  .skip))
  (.seq (.regionG [
    .op ⟨some 87, .mv (.tmp 1), none, [], []⟩,
    .op ⟨some 88, .mv (.tmp 7), none, [], []⟩,
    .op ⟨some 89, .call true i_l23_played [(.tmp 87), (.tmp 88)], none, [], []⟩,
    .op ⟨some 90, .bslice 1 6 [(.int .i64 0)] [(0, (.cst (.int .i64 3))), (1, (.cst (.int .i64 0))), (2, (.cst (.int .i64 0))), (3, (.cst (.int .i64 0))), (4, (.cst (.int .i64 0))), (5, (.cst (.int .i64 0)))], none, [], []⟩,
    .gh (.dfreeze 90),
    .op ⟨some 91, .bslice 1 2 [(.bool false)] [(0, (.cst (.bool true))), (1, (.cst (.bool true)))], none, [], []⟩,
    .gh (.dfreeze 91),
    .op ⟨some 92, .build [.nils, .nils] [(0, 1, (.tmp 90)), (1, 1, (.tmp 91))], none, [], []⟩,
    .op ⟨some 93, .call true i_r23_Same [(.tmp 89), (.tmp 92)], none, [], []⟩,
    .op ⟨some 94, .mv (.tmp 93), none, [], []⟩,
    .op ⟨some 95, .mv (.tmp 1), (some ((some 94), true)), [], []⟩,
    .op ⟨some 96, .load true 5 (.tmp 5), (some ((some 94), true)), [], []⟩,
    .op ⟨some 97, .load true 5 (.tmp 4), (some ((some 94), true)), [], []⟩,
    .op ⟨some 98, .bslice 5 2 [(.int .i64 0), (.int .i64 0), .nils, (.int .i64 0), .nils] [(0, (.tmp 96)), (1, (.tmp 97))], (some ((some 94), true)), [], []⟩,
    .gh (.dfreeze 98),
    .op ⟨some 99, .call true i_l23_played [(.tmp 95), (.tmp 98)], (some ((some 94), true)), [], []⟩,
    .op ⟨some 100, .mv (.tmp 2), (some ((some 94), true)), [], []⟩,
    .op ⟨some 101, .bslice 1 2 [(.bool false)] [(0, (.cst (.bool false))), (1, (.cst (.bool true)))], (some ((some 94), true)), [], []⟩,
    .gh (.dfreeze 101),
    .op ⟨some 102, .build [.nils, .nils] [(0, 1, (.tmp 100)), (1, 1, (.tmp 101))], (some ((some 94), true)), [], []⟩,
    .op ⟨some 103, .call true i_r23_Same [(.tmp 99), (.tmp 102)], (some ((some 94), true)), [], []⟩,
    .op ⟨some 104, .pick (.tmp 94) (.tmp 103) (.cst (.bool false)), none, [], []⟩,
    .op ⟨some 105, .mv (.tmp 104), none, [], []⟩,
    .op ⟨some 106, .mv (.tmp 1), (some ((some 105), true)), [], []⟩,
    .op ⟨some 107, .call true i_escrow_Valid [(.tmp 106)], (some ((some 105), true)), [], []⟩,
    .op ⟨some 108, .pick (.tmp 105) (.tmp 107) (.cst (.bool false)), none, [], []⟩,
    .op ⟨some 109, .mv (.tmp 108), none, [], []⟩,
    .op ⟨some 110, .mv (.tmp 1), (some ((some 109), true)), [], []⟩,
    .op ⟨some 111, .slice 1 (.tmp 110) none (some (.cst (.int .i64 5))) none, (some ((some 109), true)), [], []⟩,
    .op ⟨some 112, .call true i_escrow_Valid [(.tmp 111)], (some ((some 109), true)), [], []⟩,
    .op ⟨some 113, .un .not (.tmp 112), (some ((some 109), true)), [], []⟩,
    .op ⟨some 114, .pick (.tmp 109) (.tmp 113) (.cst (.bool false)), none, [], []⟩,
    .op ⟨some 115, .mv (.tmp 114), none, [], []⟩,
    .op ⟨some 116, .mv (.tmp 2), (some ((some 115), true)), [], []⟩,
    .op ⟨some 117, .call true i_escrow_Total [(.tmp 116)], (some ((some 115), true)), [], []⟩,
    .op ⟨some 118, .bin .eql (.tmp 117) (.cst (.int .i64 5)), (some ((some 115), true)), [], []⟩,
    .op ⟨some 119, .pick (.tmp 115) (.tmp 118) (.cst (.bool false)), none, [], []⟩,
    .op ⟨some 120, .mv (.tmp 119), none, [], []⟩,
    .op ⟨some 121, .call true i_escrow_Total [(.cst .nils)], (some ((some 120), true)), [], []⟩,
    .op ⟨some 122, .bin .eql (.tmp 121) (.cst (.int .i64 0)), (some ((some 120), true)), [], []⟩,
    .op ⟨some 123, .pick (.tmp 120) (.tmp 122) (.cst (.bool false)), none, [], []⟩,
    .op ⟨some 124, .mv (.tmp 123), none, [], []⟩,
    .op ⟨some 125, .mv (.tmp 1), (some ((some 124), true)), [], []⟩,
    .op ⟨some 126, .load true 5 (.tmp 5), (some ((some 124), true)), [], []⟩,
    .op ⟨some 127, .call true i_l23_did [(.tmp 125), (.tmp 126)], (some ((some 124), true)), [], []⟩,
    .op ⟨some 128, .field 1 1 false (.tmp 127), (some ((some 124), true)), [], []⟩,
    .op ⟨some 129, .bin .eql (.tmp 128) (.cst (.int .i64 230)), (some ((some 124), true)), [], []⟩,
    .op ⟨some 130, .pick (.tmp 124) (.tmp 129) (.cst (.bool false)), none, [], []⟩,
    .op ⟨some 0, .mv (.tmp 130), none, [], []⟩])
  .ret)))
def l23_examples.c1 : ACode := (.ghost (.kill [63, 64, 65, 66]))
def l23_examples.c2 : ACode := (.seq (.seq (.seq (.region false [
 ⟨some 57, .build [(.int .i64 0), (.int .i64 0)] [(0, 1, (.cst (.int .i64 0))), (1, 1, (.cst (.int .i64 1)))], none, [], []⟩,
 ⟨some 58, .call true i_r20_Zero [], none, [], []⟩,
 ⟨some 59, .build [(.int .i64 0), (.int .i64 0), (.str ⟨#[]⟩)] [(0, 1, (.cst (.int .i64 2))), (1, 1, (.cst (.int .i64 2)))], none, [], []⟩,
 ⟨some 60, .build [(.int .i64 0), (.int .i64 0), (.int .i64 0), (.int .i64 0), .nils, .nils, (.int .i64 0), (.int .i64 0), (.str ⟨#[]⟩)] [(0, 1, (.cst (.int .i64 6))), (3, 1, (.cst (.int .i64 1))), (6, 3, (.tmp 59))], none, [], []⟩,
 ⟨some 61, .bslice 9 1 [(.int .i64 0), (.int .i64 0), (.int .i64 0), (.int .i64 0), .nils, .nils, (.int .i64 0), (.int .i64 0), (.str ⟨#[]⟩)] [(0, (.tmp 60))], none, [], []⟩,
 ⟨some 62, .build [(.int .i64 0), (.int .i64 0), .nils, (.int .i64 0), .nils] [(0, 2, (.tmp 57)), (2, 1, (.tmp 58)), (4, 1, (.tmp 61))], none, [], []⟩,
 ⟨some 4, .alloc [(.int .i64 0), (.int .i64 0), .nils, (.int .i64 0), .nils], none, [], []⟩,
 ⟨none, .store 5 (.tmp 4) (.tmp 62), none, [], []⟩])
  (.ghost (.inner 4)))
  (.ghost (.kill [56, 57, 58, 59, 60, 61, 62])))
  (.seq (.seq (.regionG [
    .op ⟨some 63, .bslice 1 6 [(.int .i64 0)] [(0, (.cst (.int .i64 1))), (1, (.cst (.int .i64 0))), (2, (.cst (.int .i64 0))), (3, (.cst (.int .i64 0))), (4, (.cst (.int .i64 0))), (5, (.cst (.int .i64 0)))], none, [], []⟩,
    .gh (.dfreeze 63),
    .op ⟨some 64, .call true i_l23_take [(.cst (.int .i64 1)), (.tmp 63)], none, [], []⟩,
    .op ⟨some 65, .call true i_r20_Zero [], none, [], []⟩,
    .op ⟨some 66, .call true i_l23_take [(.cst (.int .i64 1)), (.tmp 65)], none, [], []⟩,
    .op ⟨some 5, .alloc [(.int .i64 0), (.int .i64 0), .nils, (.int .i64 0), .nils], none, [], []⟩,
    .op ⟨some 6, .alloc [(.int .i64 0), (.int .i64 0), .nils, (.int .i64 0), .nils], none, [], []⟩,
    .op ⟨none, .store 5 (.tmp 5) (.tmp 64), none, [], []⟩,
    .op ⟨none, .store 5 (.tmp 6) (.tmp 66), none, [], []⟩])
  l23_examples.c1)
  l23_examples.c0))
def l23_examples.c3 : ACode := (.cond (.tmp 56) (.seq (.region false [
      ⟨some 0, .mv (.cst (.bool false)), none, [], []⟩])
    .ret)
  .skip)
def l23_examples.c4 : ACode := (.ghost (.kill [3, 13, 14, 15, 16, 17, 18, 19, 20, 21, 22, 23, 24, 25, 26, 27, 28, 29, 30, 31, 32, 33, 34, 35, 36, 37, 38, 39, 40, 41, 42, 43, 44, 45, 46, 47, 48, 49, 50, 51, 52, 53, 54, 55]))
def l23_examples.main : ACode := (.seq (.seq (.region false [
 ⟨some 0, .mv (.cst (.bool false)), none, [], []⟩])
  (.ghost (.kill [0])))
  (.seq (.seq (.seq (.seq (.region false [
 ⟨some 8, .bslice 1 6 [(.int .i64 0)] [(0, (.cst (.int .i64 5))), (1, (.cst (.int .i64 0))), (2, (.cst (.int .i64 0))), (3, (.cst (.int .i64 0))), (4, (.cst (.int .i64 0))), (5, (.cst (.int .i64 0)))], none, [], []⟩,
 ⟨some 9, .bslice 1 6 [(.int .i64 0)] [(0, (.cst (.int .i64 3))), (1, (.cst (.int .i64 2))), (2, (.cst (.int .i64 0))), (3, (.cst (.int .i64 0))), (4, (.cst (.int .i64 0))), (5, (.cst (.int .i64 0)))], none, [], []⟩,
 ⟨some 1, .mv (.tmp 8), none, [], []⟩,
 ⟨some 2, .mv (.tmp 9), none, [], []⟩])
  (.ghost (.dfreeze 1)))
  (.ghost (.dfreeze 2)))
  (.ghost (.kill [8, 9])))
  (.seq (.seq (.region false [
 ⟨some 10, .mv (.tmp 1), none, [], []⟩,
 ⟨some 11, .build [(.int .i64 0), (.int .i64 0), (.int .i64 0)] [(0, 1, (.cst (.int .i64 0))), (1, 1, (.cst (.int .i64 1))), (2, 1, (.cst (.int .i64 2)))], none, [], []⟩,
 ⟨some 12, .call true i_l23_granted [(.tmp 10), (.tmp 11)], none, [], []⟩,
 ⟨some 3, .alloc [.nils, (.int .i64 0)], none, [], []⟩,
 ⟨none, .store 2 (.tmp 3) (.tmp 12), none, [], []⟩])
  (.ghost (.kill [10, 11, 12])))
  (.seq (.seq (.seq (.regionG [
    .op ⟨some 13, .load true 2 (.tmp 3), none, [], []⟩,
    .op ⟨some 14, .mv (.tmp 2), none, [], []⟩,
    .op ⟨some 15, .build [.nils, (.int .i64 0)] [(0, 1, (.tmp 14))], none, [], []⟩,
    .op ⟨some 16, .call true i_r23_Alike [(.tmp 13), (.tmp 15)], none, [], []⟩,
    .op ⟨some 17, .un .not (.tmp 16), none, [], []⟩,
    .op ⟨some 18, .mv (.tmp 17), none, [], []⟩,
    .op ⟨some 19, .mv (.tmp 2), (some ((some 18), false)), [], []⟩,
    .op ⟨some 20, .call true i_l23_taken [(.tmp 19), (.cst (.int .i64 0)), (.cst (.int .i64 3))], (some ((some 18), false)), [], []⟩,
    .op ⟨some 21, .bslice 1 6 [(.int .i64 0)] [(0, (.cst (.int .i64 0))), (1, (.cst (.int .i64 2))), (2, (.cst (.int .i64 0))), (3, (.cst (.int .i64 0))), (4, (.cst (.int .i64 0))), (5, (.cst (.int .i64 0)))], (some ((some 18), false)), [], []⟩,
    .gh (.dfreeze 21),
    .op ⟨some 22, .build [.nils, (.int .i64 0)] [(0, 1, (.tmp 21))], (some ((some 18), false)), [], []⟩,
    .op ⟨some 23, .call true i_r23_Alike [(.tmp 20), (.tmp 22)], (some ((some 18), false)), [], []⟩,
    .op ⟨some 24, .un .not (.tmp 23), (some ((some 18), false)), [], []⟩,
    .op ⟨some 25, .pick (.tmp 18) (.cst (.bool true)) (.tmp 24), none, [], []⟩,
    .op ⟨some 26, .mv (.tmp 25), none, [], []⟩,
    .op ⟨some 27, .mv (.tmp 2), (some ((some 26), false)), [], []⟩,
    .op ⟨some 28, .call true i_l23_taken [(.tmp 27), (.cst (.int .i64 0)), (.cst (.int .i64 4))], (some ((some 26), false)), [], []⟩,
    .op ⟨some 29, .field 1 1 false (.tmp 28), (some ((some 26), false)), [], []⟩,
    .op ⟨some 30, .bin .neq (.tmp 29) (.cst (.int .i64 230)), (some ((some 26), false)), [], []⟩,
    .op ⟨some 31, .pick (.tmp 26) (.cst (.bool true)) (.tmp 30), none, [], []⟩,
    .op ⟨some 32, .mv (.tmp 31), none, [], []⟩,
    .op ⟨some 33, .mv (.tmp 2), (some ((some 32), false)), [], []⟩,
    .op ⟨some 34, .call true i_l23_taken [(.tmp 33), (.cst (.int .i64 0)), (.cst (.int .i64 0))], (some ((some 32), false)), [], []⟩,
    .op ⟨some 35, .field 1 1 false (.tmp 34), (some ((some 32), false)), [], []⟩,
    .op ⟨some 36, .bin .neq (.tmp 35) (.cst (.int .i64 230)), (some ((some 32), false)), [], []⟩,
    .op ⟨some 37, .pick (.tmp 32) (.cst (.bool true)) (.tmp 36), none, [], []⟩,
    .op ⟨some 38, .mv (.tmp 37), none, [], []⟩,
    .op ⟨some 39, .mv (.tmp 1), (some ((some 38), false)), [], []⟩,
    .op ⟨some 40, .build [(.int .i64 0), (.int .i64 0), (.int .i64 0)] [(0, 1, (.cst (.int .i64 0))), (1, 1, (.cst (.int .i64 0))), (2, 1, (.cst (.int .i64 1)))], (some ((some 38), false)), [], []⟩,
    .op ⟨some 41, .call true i_l23_granted [(.tmp 39), (.tmp 40)], (some ((some 38), false)), [], []⟩,
    .op ⟨some 42, .field 1 1 false (.tmp 41), (some ((some 38), false)), [], []⟩,
    .op ⟨some 43, .bin .neq (.tmp 42) (.cst (.int .i64 230)), (some ((some 38), false)), [], []⟩,
    .op ⟨some 44, .pick (.tmp 38) (.cst (.bool true)) (.tmp 43), none, [], []⟩,
    .op ⟨some 45, .mv (.tmp 44), none, [], []⟩,
    .op ⟨some 46, .call true i_l23_created [(.cst (.int .i64 0)), (.cst (.int .i64 5))], (some ((some 45), false)), [], []⟩,
    .op ⟨some 47, .mv (.tmp 1), (some ((some 45), false)), [], []⟩,
    .op ⟨some 48, .build [.nils, (.int .i64 0)] [(0, 1, (.tmp 47))], (some ((some 45), false)), [], []⟩,
    .op ⟨some 49, .call true i_r23_Alike [(.tmp 46), (.tmp 48)], (some ((some 45), false)), [], []⟩,
    .op ⟨some 50, .un .not (.tmp 49), (some ((some 45), false)), [], []⟩,
    .op ⟨some 51, .pick (.tmp 45) (.cst (.bool true)) (.tmp 50), none, [], []⟩,
    .op ⟨some 52, .mv (.tmp 51), none, [], []⟩,
    .op ⟨some 53, .call true i_l23_created [(.cst (.int .i64 6)), (.cst (.int .i64 1))], (some ((some 52), false)), [], []⟩,
    .op ⟨some 54, .field 1 1 false (.tmp 53), (some ((some 52), false)), [], []⟩,
    .op ⟨some 55, .bin .neq (.tmp 54) (.cst (.int .i64 230)), (some ((some 52), false)), [], []⟩,
    .op ⟨some 56, .pick (.tmp 52) (.cst (.bool true)) (.tmp 55), none, [], []⟩])
  l23_examples.c4)
  l23_examples.c3)
  l23_examples.c2))))
def l23_examples : AFunc := ⟨131, [.tmp 0], l23_examples.main⟩
/-- chapman/chapmanlaw23.short -/
def l23_short.c0 : ACode := (.seq (.region false [
 ⟨some 30, .mv (.tmp 0), none, [], []⟩,
 ⟨some 31, .len .sl (.tmp 30), none, [], []⟩,
 ⟨some 32, .bin .leq (.tmp 31) (.cst (.int .i64 16)), none, [], []⟩,
 ⟨some 2, .mv (.tmp 32), none, [], []⟩])
  .ret)
def l23_short.b0 : ACode := (.seq (.seq (.seq (.region false [
 ⟨some 4, .mv (.tmp 3), none, [], []⟩,
 ⟨some 5, .mv (.tmp 0), none, [], []⟩,
 ⟨some 6, .len .sl (.tmp 5), none, [], []⟩,
 ⟨some 7, .bin .lss (.tmp 4) (.tmp 6), none, [], []⟩,
 ⟨some 8, .mv (.tmp 7), none, [], []⟩,
 ⟨some 9, .mv (.tmp 3), (some ((some 8), true)), [], []⟩,
 ⟨some 10, .bin .lss (.tmp 9) (.cst (.int .i64 17)), (some ((some 8), true)), [], []⟩,
 ⟨some 11, .pick (.tmp 8) (.tmp 10) (.cst (.bool false)), none, [], []⟩])
  (.ghost (.kill [4, 5, 6, 7, 8, 9, 10])))
  (.cond (.tmp 11) .skip
  (.exit 0)))
  (.seq (.seq (.block 1 (.seq (.seq (.region false [
 ⟨some 14, .mv (.tmp 0), none, [], []⟩,
 ⟨some 15, .mv (.tmp 3), none, [], []⟩,
 ⟨some 16, .iaddr 5 (.tmp 14) (.tmp 15), none, [], []⟩,
 ⟨some 17, .faddr 4 (.tmp 16), none, [], []⟩,
 ⟨some 18, .load false 1 (.tmp 17), none, [], []⟩,
 ⟨some 19, .len .sl (.tmp 18), none, [], []⟩,
 ⟨some 20, .bin .gtr (.tmp 19) (.cst (.int .i64 8)), none, [], []⟩,
 ⟨some 21, .mv (.tmp 20), none, [], []⟩,
 ⟨some 22, .mv (.tmp 0), (some ((some 21), false)), [], []⟩,
 ⟨some 23, .mv (.tmp 3), (some ((some 21), false)), [], []⟩,
 ⟨some 24, .iaddr 5 (.tmp 22) (.tmp 23), (some ((some 21), false)), [], []⟩,
 ⟨some 25, .faddr 2 (.tmp 24), (some ((some 21), false)), [], []⟩,
 ⟨some 26, .load false 1 (.tmp 25), (some ((some 21), false)), [], []⟩,
 ⟨some 27, .len .sl (.tmp 26), (some ((some 21), false)), [], []⟩,
 ⟨some 28, .bin .gtr (.tmp 27) (.cst (.int .i64 9)), (some ((some 21), false)), [], []⟩,
 ⟨some 29, .pick (.tmp 21) (.cst (.bool true)) (.tmp 28), none, [], []⟩])
  (.ghost (.kill [11, 14, 15, 16, 17, 18, 19, 20, 21, 22, 23, 24, 25, 26, 27, 28])))
  (.cond (.tmp 29) (.seq (.region false [
      ⟨some 2, .mv (.cst (.bool false)), none, [], []⟩])
    .ret)
  .skip)))
  (.ghost (.kill [29])))
  (.seq (.region false [
 ⟨some 12, .mv (.tmp 3), none, [], []⟩,
 ⟨some 13, .bin .add (.tmp 12) (.cst (.int .i64 1)), none, [], []⟩,
 ⟨some 3, .mv (.tmp 13), none, [], []⟩])
  (.ghost (.kill [12, 13])))))
def l23_short.main : ACode := (.seq (.seq (.region false [
 ⟨some 2, .mv (.cst (.bool false)), none, [], []⟩])
  (.ghost (.kill [2])))
  (.seq (.seq (.region false [
 ⟨some 3, .mv (.cst (.int .i64 0)), none, [], []⟩])
  (.seq (.block 0 (.loop l23_short.b0))
  (.ghost (.kill [3, 11]))))
  l23_short.c0))
def l23_short.k0 : List Item := [.inBlock 0, .code (.ghost (.kill [3, 11])), .code l23_short.c0]
def l23_short : AFunc := ⟨33, [.tmp 2], l23_short.main⟩
/-- chapman/chapmanref23.With -/
def r23_With.c0 : ACode := (.seq (.region false [
 ⟨some 76, .mv (.tmp 5), none, [], []⟩,
 ⟨some 4, .mv (.tmp 76), none, [], []⟩])
  .ret)
def r23_With.c1 : ACode := (.ghost (.kill [0, 1, 6, 14]))
def r23_With.c2 : ACode := (.seq (.region false [
 ⟨some 15, .mv (.tmp 6), none, [], []⟩,
 ⟨some 16, .bin .add (.tmp 15) (.cst (.int .i64 1)), none, [], []⟩,
 ⟨some 6, .mv (.tmp 16), none, [], []⟩])
  (.ghost (.kill [15, 16])))
def r23_With.c3 : ACode := (.seq (.region false [
 ⟨some 72, .mv (.tmp 5), none, [], []⟩,
 ⟨some 73, .load true 5 (.tmp 7), none, [], []⟩,
 ⟨some 74, .bslice 5 1 [(.int .i64 0), (.int .i64 0), .nils, (.int .i64 0), .nils] [(0, (.tmp 73))], none, [], []⟩,
 ⟨some 75, .append 5 72 (.tmp 72) (.tmp 74), none, [], []⟩,
 ⟨some 5, .mv (.tmp 75), none, [], []⟩])
  (.ghost (.kill [7, 72, 73, 74, 75])))
def r23_With.c4 : ACode := (.seq (.region false [
 ⟨some 34, .mv (.tmp 8), none, [], []⟩,
 ⟨some 35, .bin .add (.tmp 34) (.cst (.int .i64 1)), none, [], []⟩,
 ⟨some 8, .mv (.tmp 35), none, [], []⟩])
  (.ghost (.kill [34, 35])))
def r23_With.c5 : ACode := (.seq (.seq (.region false [
 ⟨some 57, .mv (.tmp 1), none, [], []⟩,
 ⟨some 58, .mv (.tmp 8), none, [], []⟩,
 ⟨some 59, .iaddr 3 (.tmp 57) (.tmp 58), none, [], []⟩,
 ⟨some 60, .iaddrA 3 1 (.tmp 59) (.cst (.int .i64 2)), none, [], []⟩,
 ⟨some 61, .load false 1 (.tmp 60), none, [], []⟩,
 ⟨some 62, .bin .rem (.tmp 61) (.cst (.int .u8 5)), none, [], []⟩,
 ⟨some 63, .bin .gtr (.tmp 62) (.cst (.int .u8 0)), none, [], []⟩])
  (.ghost (.kill [57, 58, 59, 60, 61, 62])))
  (.seq (.cond (.tmp 63) (.seq (.seq (.regionD ⟨[64, 67, 71], [], [([64], [9, 68, 69])]⟩ [
      ⟨some 64, .bslice 9 0 [(.int .i64 0), (.int .i64 0), (.int .i64 0), (.int .i64 0), .nils, .nils, (.int .i64 0), (.int .i64 0), (.str ⟨#[]⟩)] [], none, [], []⟩,
      ⟨some 65, .faddr 4 (.tmp 7), none, [], [7]⟩,
      ⟨some 66, .load false 1 (.tmp 65), none, [1], [65]⟩,
      ⟨some 67, .append 9 112 (.tmp 64) (.tmp 66), none, [0, 2], [64, 66]⟩,
      ⟨some 68, .load true 9 (.tmp 9), none, [], [9]⟩,
      ⟨some 69, .bslice 9 1 [(.int .i64 0), (.int .i64 0), (.int .i64 0), (.int .i64 0), .nils, .nils, (.int .i64 0), (.int .i64 0), (.str ⟨#[]⟩)] [(0, (.tmp 68))], none, [4], [68]⟩,
      ⟨some 70, .append 9 112 (.tmp 67) (.tmp 69), none, [3, 5, 3], [67, 69]⟩,
      ⟨some 71, .faddr 4 (.tmp 7), none, [0, 1, 2, 3, 4, 5, 6], [7]⟩,
      ⟨none, .store 1 (.tmp 71) (.tmp 70), none, [7, 6, 6, 0, 1, 2, 3, 4, 5, 6], [71, 70]⟩])
    (.ghost (.inner 7)))
    (.ghost (.kill [9, 63, 64, 65, 66, 67, 68, 69, 70, 71])))
  .skip)
  (.ghost (.kill [9, 63]))))
def r23_With.b1 : ACode := (.seq (.seq (.seq (.region false [
 ⟨some 23, .mv (.tmp 8), none, [], []⟩,
 ⟨some 24, .mv (.tmp 6), none, [], []⟩,
 ⟨some 25, .bin .mul (.cst (.int .i64 2)) (.tmp 24), none, [], []⟩,
 ⟨some 26, .bin .add (.tmp 25) (.cst (.int .i64 2)), none, [], []⟩,
 ⟨some 27, .bin .lss (.tmp 23) (.tmp 26), none, [], []⟩,
 ⟨some 28, .mv (.tmp 27), none, [], []⟩,
 ⟨some 29, .mv (.tmp 8), (some ((some 28), true)), [], []⟩,
 ⟨some 30, .mv (.tmp 1), (some ((some 28), true)), [], []⟩,
 ⟨some 31, .len .sl (.tmp 30), (some ((some 28), true)), [], []⟩,
 ⟨some 32, .bin .lss (.tmp 29) (.tmp 31), (some ((some 28), true)), [], []⟩,
 ⟨some 33, .pick (.tmp 28) (.tmp 32) (.cst (.bool false)), none, [], []⟩])
  (.ghost (.kill [23, 24, 25, 26, 27, 28, 29, 30, 31, 32])))
  (.cond (.tmp 33) .skip
  (.exit 2)))
  (.seq (.trunc (.block 3 (.seq (.seq (.region false [
 ⟨some 36, .mv (.tmp 1), none, [], []⟩,
 ⟨some 37, .mv (.tmp 8), none, [], []⟩,
 ⟨some 38, .iaddr 3 (.tmp 36) (.tmp 37), none, [], []⟩,
 ⟨some 39, .load true 3 (.tmp 38), none, [], []⟩,
 ⟨some 40, .call true i_r23_Op [(.tmp 39)], none, [], []⟩,
 ⟨some 9, .alloc [(.int .i64 0), (.int .i64 0), (.int .i64 0), (.int .i64 0), .nils, .nils, (.int .i64 0), (.int .i64 0), (.str ⟨#[]⟩)], none, [], []⟩,
 ⟨none, .store 9 (.tmp 9) (.tmp 40), none, [], []⟩])
  (.ghost (.kill [33, 36, 37, 38, 39, 40])))
  (.seq (.seq (.seq (.region false [
 ⟨some 41, .faddr 0 (.tmp 9), none, [], []⟩,
 ⟨some 42, .load false 1 (.tmp 41), none, [], []⟩,
 ⟨some 43, .bin .eql (.tmp 42) (.cst (.int .i64 6)), none, [], []⟩,
 ⟨some 44, .mv (.tmp 43), none, [], []⟩,
 ⟨some 45, .faddr 3 (.tmp 9), (some ((some 44), true)), [], []⟩,
 ⟨some 46, .load false 1 (.tmp 45), (some ((some 44), true)), [], []⟩,
 ⟨some 47, .faddr 0 (.tmp 7), (some ((some 44), true)), [], []⟩,
 ⟨some 48, .faddr 0 (.tmp 47), (some ((some 44), true)), [], []⟩,
 ⟨some 49, .load false 1 (.tmp 48), (some ((some 44), true)), [], []⟩,
 ⟨some 50, .bin .eql (.tmp 46) (.tmp 49), (some ((some 44), true)), [], []⟩,
 ⟨some 51, .pick (.tmp 44) (.tmp 50) (.cst (.bool false)), none, [], []⟩])
  (.ghost (.kill [41, 42, 43, 44, 45, 46, 47, 48, 49, 50])))
  (.seq (.cond (.tmp 51) (.seq (.region false [
      ⟨some 52, .faddr 3 (.tmp 9), none, [], []⟩,
      ⟨some 53, .load false 1 (.tmp 52), none, [], []⟩,
      ⟨some 54, .bin .add (.tmp 53) (.cst (.int .i64 1)), none, [], []⟩,
      ⟨some 55, .bin .rem (.tmp 54) (.cst (.int .i64 3)), none, [], []⟩,
      ⟨some 56, .faddr 3 (.tmp 9), none, [], []⟩,
      ⟨none, .store 1 (.tmp 56) (.tmp 55), none, [], []⟩])
    (.ghost (.kill [51, 52, 53, 54, 55, 56])))
  .skip)
  (.ghost (.kill [51]))))
  r23_With.c5))))
  r23_With.c4))
def r23_With.b0 : ACode := (.seq (.seq (.seq (.region false [
 ⟨some 11, .mv (.tmp 6), none, [], []⟩,
 ⟨some 12, .mv (.tmp 0), none, [], []⟩,
 ⟨some 13, .len .sl (.tmp 12), none, [], []⟩,
 ⟨some 14, .bin .lss (.tmp 11) (.tmp 13), none, [], []⟩])
  (.ghost (.kill [11, 12, 13])))
  (.cond (.tmp 14) .skip
  (.exit 0)))
  (.seq (.trunc (.block 1 (.seq (.seq (.region false [
 ⟨some 17, .mv (.tmp 0), none, [], []⟩,
 ⟨some 18, .mv (.tmp 6), none, [], []⟩,
 ⟨some 19, .iaddr 5 (.tmp 17) (.tmp 18), none, [], []⟩,
 ⟨some 20, .load true 5 (.tmp 19), none, [], []⟩,
 ⟨some 7, .alloc [(.int .i64 0), (.int .i64 0), .nils, (.int .i64 0), .nils], none, [], []⟩,
 ⟨none, .store 5 (.tmp 7) (.tmp 20), none, [], []⟩])
  (.ghost (.kill [14, 17, 18, 19, 20])))
  (.seq (.seq (.seq (.region false [
 ⟨some 21, .mv (.tmp 6), none, [], []⟩,
 ⟨some 22, .bin .mul (.cst (.int .i64 2)) (.tmp 21), none, [], []⟩,
 ⟨some 8, .mv (.tmp 22), none, [], []⟩])
  (.ghost (.kill [21, 22])))
  (.seq (.block 2 (.loop r23_With.b1))
  (.ghost (.kill [8, 33]))))
  r23_With.c3))))
  r23_With.c2))
def r23_With.main : ACode := (.seq (.seq (.region false [
 ⟨some 4, .mv (.cst .nils), none, [], []⟩])
  (.ghost (.kill [4])))
  (.seq (.seq (.region false [
 ⟨some 10, .bslice 5 0 [(.int .i64 0), (.int .i64 0), .nils, (.int .i64 0), .nils] [], none, [], []⟩,
 ⟨some 5, .mv (.tmp 10), none, [], []⟩])
  (.ghost (.kill [10])))
  (.seq (.seq (.region false [
 ⟨some 6, .mv (.cst (.int .i64 0)), none, [], []⟩])
  (.seq (.block 0 (.loop r23_With.b0))
  r23_With.c1))
  r23_With.c0)))
def r23_With.k1 (m0 : Nat) : List Item := [.inBlock 2, .code (.ghost (.kill [8, 33])), .code r23_With.c3, .inBlock 1, .inTrunc m0, .code r23_With.c2, .inLoop r23_With.b0, .inBlock 0, .code r23_With.c1, .code r23_With.c0]
def r23_With.k0 : List Item := [.inBlock 0, .code r23_With.c1, .code r23_With.c0]
def r23_With : AFunc := ⟨77, [.tmp 4], r23_With.main⟩
/-- chapman/chapmanref20.Headers -/
def r20_Headers.c0 : ACode := (.seq (.region false [
 ⟨some 84, .mv (.tmp 3), none, [], []⟩,
 ⟨some 2, .mv (.tmp 84), none, [], []⟩])
  .ret)
def r20_Headers.c1 : ACode := (.ghost (.kill [0, 4, 5, 20]))
def r20_Headers.c2 : ACode := (.seq (.region false [
 ⟨some 21, .mv (.tmp 5), none, [], []⟩,
 ⟨some 22, .bin .add (.tmp 21) (.cst (.int .i64 1)), none, [], []⟩,
 ⟨some 5, .mv (.tmp 22), none, [], []⟩])
  (.ghost (.kill [21, 22])))
def r20_Headers.c3 : ACode := (.seq (.seq (.region true [
 ⟨some 56, .mv (.tmp 3), none, [], [3]⟩,
 ⟨some 57, .mv (.tmp 6), none, [], [6]⟩,
 ⟨some 58, .mv (.tmp 4), none, [], [4]⟩,
 ⟨some 59, .mv (.tmp 6), none, [], [6]⟩,
 ⟨some 60, .iaddr 1 (.tmp 58) (.tmp 59), none, [2, 3], [58, 59]⟩,
 ⟨some 61, .load false 1 (.tmp 60), none, [4], [60]⟩,
 ⟨some 62, .mv (.tmp 6), none, [], [6]⟩,
 ⟨some 63, .iaddr 1 (.tmp 61) (.tmp 62), none, [5, 6], [61, 62]⟩,
 ⟨some 64, .load false 1 (.tmp 63), none, [7], [63]⟩,
 ⟨some 65, .bin .add (.tmp 64) (.cst (.int .i64 1)), none, [8], [64]⟩,
 ⟨some 66, .build [(.int .i64 0), (.int .i64 0)] [(0, 1, (.tmp 57)), (1, 1, (.tmp 65))], none, [1, 9], [57, 65]⟩,
 ⟨some 67, .mv (.tmp 4), none, [], [4]⟩,
 ⟨some 68, .mv (.tmp 6), none, [], [6]⟩,
 ⟨some 69, .iaddr 1 (.tmp 67) (.tmp 68), none, [11, 12], [67, 68]⟩,
 ⟨some 70, .load false 1 (.tmp 69), none, [13], [69]⟩,
 ⟨some 71, .build [(.int .i64 0), (.int .i64 0), .nils, (.int .i64 0), .nils] [(0, 2, (.tmp 66)), (2, 1, (.tmp 70))], none, [10, 14], [66, 70]⟩,
 ⟨some 72, .bslice 5 1 [(.int .i64 0), (.int .i64 0), .nils, (.int .i64 0), .nils] [(0, (.tmp 71))], none, [15], [71]⟩,
 ⟨some 73, .append 5 72 (.tmp 56) (.tmp 72), none, [0, 16], [56, 72]⟩,
 ⟨some 3, .mv (.tmp 73), none, [17, 17, 0, 1, 2, 3, 4, 5, 6, 7, 8, 9, 10, 11, 12, 13, 14, 15, 16, 17], [73]⟩])
  (.ghost (.kill [56, 57, 58, 59, 60, 61, 62, 63, 64, 65, 66, 67, 68, 69, 70, 71, 72, 73])))
  (.seq (.region false [
 ⟨some 74, .mv (.tmp 4), none, [], []⟩,
 ⟨some 75, .mv (.tmp 6), none, [], []⟩,
 ⟨some 76, .mv (.tmp 3), none, [], []⟩,
 ⟨some 77, .mv (.tmp 3), none, [], []⟩,
 ⟨some 78, .len .sl (.tmp 77), none, [], []⟩,
 ⟨some 79, .bin .sub (.tmp 78) (.cst (.int .i64 1)), none, [], []⟩,
 ⟨some 80, .iaddr 5 (.tmp 76) (.tmp 79), none, [], []⟩,
 ⟨some 81, .load true 5 (.tmp 80), none, [], []⟩,
 ⟨some 82, .call true i_r20_Own [(.tmp 81)], none, [], []⟩,
 ⟨some 83, .iaddr 1 (.tmp 74) (.tmp 75), none, [], []⟩,
 ⟨none, .store 1 (.tmp 83) (.tmp 82), none, [], []⟩])
  (.ghost (.kill [6, 74, 75, 76, 77, 78, 79, 80, 81, 82, 83]))))
def r20_Headers.b0 : ACode := (.seq (.seq (.seq (.region false [
 ⟨some 13, .mv (.tmp 5), none, [], []⟩,
 ⟨some 14, .mv (.tmp 0), none, [], []⟩,
 ⟨some 15, .len .sl (.tmp 14), none, [], []⟩,
 ⟨some 16, .bin .lss (.tmp 13) (.tmp 15), none, [], []⟩,
 ⟨some 17, .mv (.tmp 16), none, [], []⟩,
 ⟨some 18, .mv (.tmp 5), (some ((some 17), true)), [], []⟩,
 ⟨some 19, .bin .lss (.tmp 18) (.cst (.int .i64 12)), (some ((some 17), true)), [], []⟩,
 ⟨some 20, .pick (.tmp 17) (.tmp 19) (.cst (.bool false)), none, [], []⟩])
  (.ghost (.kill [13, 14, 15, 16, 17, 18, 19])))
  (.cond (.tmp 20) .skip
  (.exit 0)))
  (.seq (.trunc (.block 1 (.seq (.seq (.region true [
 ⟨some 23, .mv (.tmp 0), none, [], [0]⟩,
 ⟨some 24, .mv (.tmp 5), none, [], [5]⟩,
 ⟨some 25, .iaddr 1 (.tmp 23) (.tmp 24), none, [0, 1], [23, 24]⟩,
 ⟨some 26, .load false 1 (.tmp 25), none, [2], [25]⟩,
 ⟨some 27, .bin .rem (.tmp 26) (.cst (.int .u8 3)), none, [3], [26]⟩,
 ⟨some 28, .conv .i64 (.tmp 27), none, [4], [27]⟩,
 ⟨some 29, .mv (.tmp 0), none, [], [0]⟩,
 ⟨some 30, .mv (.tmp 5), none, [], [5]⟩,
 ⟨some 31, .iaddr 1 (.tmp 29) (.tmp 30), none, [6, 7], [29, 30]⟩,
 ⟨some 32, .load false 1 (.tmp 31), none, [8], [31]⟩,
 ⟨some 33, .bin .quo (.tmp 32) (.cst (.int .u8 3)), none, [9], [32]⟩,
 ⟨some 34, .bin .rem (.tmp 33) (.cst (.int .u8 3)), none, [10], [33]⟩,
 ⟨some 35, .conv .i64 (.tmp 34), none, [11], [34]⟩,
 ⟨some 6, .mv (.tmp 28), none, [5, 0, 1, 2, 3, 4, 5], [28]⟩,
 ⟨some 7, .mv (.tmp 35), none, [12, 13, 0, 1, 2, 3, 4, 5, 6, 7, 8, 9, 10, 11, 12, 13], [35]⟩])
  (.ghost (.kill [20, 23, 24, 25, 26, 27, 28, 29, 30, 31, 32, 33, 34, 35])))
  (.seq (.seq (.seq (.region false [
 ⟨some 36, .mv (.tmp 0), none, [], []⟩,
 ⟨some 37, .mv (.tmp 5), none, [], []⟩,
 ⟨some 38, .iaddr 1 (.tmp 36) (.tmp 37), none, [], []⟩,
 ⟨some 39, .load false 1 (.tmp 38), none, [], []⟩,
 ⟨some 40, .bin .quo (.tmp 39) (.cst (.int .u8 9)), none, [], []⟩,
 ⟨some 41, .bin .rem (.tmp 40) (.cst (.int .u8 3)), none, [], []⟩,
 ⟨some 42, .bin .gtr (.tmp 41) (.cst (.int .u8 0)), none, [], []⟩])
  (.ghost (.kill [36, 37, 38, 39, 40, 41])))
  (.seq (.cond (.tmp 42) (.seq (.region true [
      ⟨some 43, .mv (.tmp 4), none, [], [4]⟩,
      ⟨some 44, .mv (.tmp 6), none, [], [6]⟩,
      ⟨some 45, .mv (.tmp 4), none, [], [4]⟩,
      ⟨some 46, .mv (.tmp 6), none, [], [6]⟩,
      ⟨some 47, .iaddr 1 (.tmp 45) (.tmp 46), none, [2, 3], [45, 46]⟩,
      ⟨some 48, .load false 1 (.tmp 47), none, [4], [47]⟩,
      ⟨some 49, .mv (.tmp 4), none, [], [4]⟩,
      ⟨some 50, .mv (.tmp 7), none, [], [7]⟩,
      ⟨some 51, .iaddr 1 (.tmp 49) (.tmp 50), none, [6, 7], [49, 50]⟩,
      ⟨some 52, .load false 1 (.tmp 51), none, [8], [51]⟩,
      ⟨some 53, .call true i_r20_JoinIn [(.tmp 48), (.tmp 52)], none, [5, 9], [48, 52]⟩,
      ⟨some 54, .field 0 1 false (.tmp 53), none, [10], [53]⟩,
      ⟨some 55, .iaddr 1 (.tmp 43) (.tmp 44), none, [0, 1, 0, 1, 2, 3, 4, 5, 6, 7, 8, 9, 10, 11], [43, 44]⟩,
      ⟨none, .store 1 (.tmp 55) (.tmp 54), none, [12, 11, 10, 0, 1, 2, 3, 4, 5, 6, 7, 8, 9, 10, 11], [55, 54]⟩])
    (.ghost (.kill [7, 42, 43, 44, 45, 46, 47, 48, 49, 50, 51, 52, 53, 54, 55])))
  .skip)
  (.ghost (.kill [7, 42]))))
  r20_Headers.c3))))
  r20_Headers.c2))
def r20_Headers.main : ACode := (.seq (.seq (.region false [
 ⟨some 2, .mv (.cst .nils), none, [], []⟩])
  (.ghost (.kill [2])))
  (.seq (.seq (.region false [
 ⟨some 8, .bslice 5 0 [(.int .i64 0), (.int .i64 0), .nils, (.int .i64 0), .nils] [], none, [], []⟩,
 ⟨some 3, .mv (.tmp 8), none, [], []⟩])
  (.ghost (.kill [8])))
  (.seq (.seq (.region false [
 ⟨some 9, .call true i_r20_Zero [], none, [], []⟩,
 ⟨some 10, .call true i_r20_Zero [], none, [], []⟩,
 ⟨some 11, .call true i_r20_Zero [], none, [], []⟩,
 ⟨some 12, .bslice 1 3 [.nils] [(0, (.tmp 9)), (1, (.tmp 10)), (2, (.tmp 11))], none, [], []⟩,
 ⟨some 4, .mv (.tmp 12), none, [], []⟩])
  (.ghost (.kill [9, 10, 11, 12])))
  (.seq (.seq (.region false [
 ⟨some 5, .mv (.cst (.int .i64 0)), none, [], []⟩])
  (.seq (.block 0 (.loop r20_Headers.b0))
  r20_Headers.c1))
  r20_Headers.c0))))
def r20_Headers.k0 : List Item := [.inBlock 0, .code r20_Headers.c1, .code r20_Headers.c0]
def r20_Headers : AFunc := ⟨85, [.tmp 2], r20_Headers.main⟩
/-- chapman/chapmanref23.Shares -/
def r23_Shares.c0 : ACode := (.seq (.region false [
 ⟨some 27, .mv (.tmp 3), none, [], []⟩,
 ⟨some 2, .mv (.tmp 27), none, [], []⟩])
  .ret)
def r23_Shares.b0 : ACode := (.seq (.seq (.seq (.region false [
 ⟨some 6, .mv (.tmp 4), none, [], []⟩,
 ⟨some 7, .mv (.tmp 3), none, [], []⟩,
 ⟨some 8, .len .sl (.tmp 7), none, [], []⟩,
 ⟨some 9, .bin .lss (.tmp 6) (.tmp 8), none, [], []⟩,
 ⟨some 10, .mv (.tmp 9), none, [], []⟩,
 ⟨some 11, .mv (.tmp 4), (some ((some 10), true)), [], []⟩,
 ⟨some 12, .mv (.tmp 0), (some ((some 10), true)), [], []⟩,
 ⟨some 13, .len .sl (.tmp 12), (some ((some 10), true)), [], []⟩,
 ⟨some 14, .bin .lss (.tmp 11) (.tmp 13), (some ((some 10), true)), [], []⟩,
 ⟨some 15, .pick (.tmp 10) (.tmp 14) (.cst (.bool false)), none, [], []⟩])
  (.ghost (.kill [6, 7, 8, 9, 10, 11, 12, 13, 14])))
  (.cond (.tmp 15) .skip
  (.exit 0)))
  (.seq (.block 1 (.seq (.region false [
 ⟨some 18, .mv (.tmp 3), none, [], []⟩,
 ⟨some 19, .mv (.tmp 4), none, [], []⟩,
 ⟨some 20, .mv (.tmp 0), none, [], []⟩,
 ⟨some 21, .mv (.tmp 4), none, [], []⟩,
 ⟨some 22, .iaddr 1 (.tmp 20) (.tmp 21), none, [], []⟩,
 ⟨some 23, .load false 1 (.tmp 22), none, [], []⟩,
 ⟨some 24, .bin .rem (.tmp 23) (.cst (.int .u8 10)), none, [], []⟩,
 ⟨some 25, .conv .i64 (.tmp 24), none, [], []⟩,
 ⟨some 26, .iaddr 1 (.tmp 18) (.tmp 19), none, [], []⟩,
 ⟨none, .store 1 (.tmp 26) (.tmp 25), none, [], []⟩])
  (.ghost (.kill [15, 18, 19, 20, 21, 22, 23, 24, 25, 26]))))
  (.seq (.region false [
 ⟨some 16, .mv (.tmp 4), none, [], []⟩,
 ⟨some 17, .bin .add (.tmp 16) (.cst (.int .i64 1)), none, [], []⟩,
 ⟨some 4, .mv (.tmp 17), none, [], []⟩])
  (.ghost (.kill [16, 17])))))
def r23_Shares.main : ACode := (.seq (.seq (.region false [
 ⟨some 2, .mv (.cst .nils), none, [], []⟩])
  (.ghost (.kill [2])))
  (.seq (.seq (.region false [
 ⟨some 5, .mkslice 1 8 [(.int .i64 0)] (.cst (.int .i64 6)) (.cst (.int .i64 6)), none, [], []⟩,
 ⟨some 3, .mv (.tmp 5), none, [], []⟩])
  (.ghost (.kill [5])))
  (.seq (.seq (.region false [
 ⟨some 4, .mv (.cst (.int .i64 0)), none, [], []⟩])
  (.seq (.block 0 (.loop r23_Shares.b0))
  (.ghost (.kill [0, 4, 15]))))
  r23_Shares.c0)))
def r23_Shares.k0 : List Item := [.inBlock 0, .code (.ghost (.kill [0, 4, 15])), .code r23_Shares.c0]
def r23_Shares : AFunc := ⟨28, [.tmp 2], r23_Shares.main⟩
/-- chapman/chapmanref23.Alike -/
def r23_Alike.main : ACode := (.seq (.seq (.region false [
 ⟨some 2, .box 2 (.tmp 0), none, [], []⟩,
 ⟨some 3, .box 2 (.tmp 1), none, [], []⟩,
 ⟨some 4, .mv (.cst (.bool false)), none, [], []⟩])
  (.ghost (.kill [0, 1, 4])))
  (.seq (.region false [
 ⟨some 5, .faddr 1 (.tmp 2), none, [], []⟩,
 ⟨some 6, .load false 1 (.tmp 5), none, [], []⟩,
 ⟨some 7, .faddr 1 (.tmp 3), none, [], []⟩,
 ⟨some 8, .load false 1 (.tmp 7), none, [], []⟩,
 ⟨some 9, .bin .eql (.tmp 6) (.tmp 8), none, [], []⟩,
 ⟨some 10, .mv (.tmp 9), none, [], []⟩,
 ⟨some 11, .faddr 0 (.tmp 2), (some ((some 10), true)), [], []⟩,
 ⟨some 12, .load false 1 (.tmp 11), (some ((some 10), true)), [], []⟩,
 ⟨some 13, .faddr 0 (.tmp 3), (some ((some 10), true)), [], []⟩,
 ⟨some 14, .load false 1 (.tmp 13), (some ((some 10), true)), [], []⟩,
 ⟨some 15, .call true i_r20_Same [(.tmp 12), (.tmp 14)], (some ((some 10), true)), [], []⟩,
 ⟨some 16, .pick (.tmp 10) (.tmp 15) (.cst (.bool false)), none, [], []⟩,
 ⟨some 4, .mv (.tmp 16), none, [], []⟩])
  .ret))
def r23_Alike : AFunc := ⟨17, [.tmp 4], r23_Alike.main⟩
/-- chapman/chapmanlaw23.created -/
def l23_created.main : ACode := (.seq (.region false [
 ⟨some 4, .alloc [.nils, (.int .i64 0)], none, [], []⟩])
  (.seq (.seq (.region false [
 ⟨some 8, .mv (.tmp 0), none, [], []⟩,
 ⟨some 9, .mv (.tmp 1), none, [], []⟩,
 ⟨some 10, .call true i_escrow_New [(.tmp 8), (.tmp 9)], none, [], []⟩,
 ⟨some 7, .mv (.tmp 10), none, [], []⟩,
 ⟨some 11, .extr (.tmp 7) 0, none, [], []⟩,
 ⟨some 12, .extr (.tmp 7) 1, none, [], []⟩,
 ⟨some 5, .mv (.tmp 11), none, [], []⟩,
 ⟨some 6, .mv (.tmp 12), none, [], []⟩])
  (.ghost (.kill [0, 1, 7, 8, 9, 10, 11, 12])))
  (.seq (.region false [
 ⟨some 13, .mv (.tmp 5), none, [], []⟩,
 ⟨some 14, .mv (.tmp 6), none, [], []⟩,
 ⟨some 15, .build [.nils, (.int .i64 0)] [(0, 1, (.tmp 13)), (1, 1, (.tmp 14))], none, [], []⟩,
 ⟨none, .store 2 (.tmp 4) (.tmp 15), none, [], []⟩])
  .ret)))
def l23_created : AFunc := ⟨16, [.cell 4 true 2], l23_created.main⟩
/-- chapman/escrow.Valid -/
def escrow_Valid.c0 : ACode := (.seq (.region false [
 ⟨some 2, .mv (.cst (.bool true)), none, [], []⟩])
  .ret)
def escrow_Valid.c1 : ACode := (.ghost (.kill [3, 9, 10, 11, 12]))
def escrow_Valid.b0 : ACode := (.seq (.region false [
 ⟨some 12, .bin .lss (.tmp 11) (.tmp 10), none, [], []⟩])
  (.seq (.cond (.tmp 12) .skip
  (.exit 0))
  (.seq (.block 1 (.seq (.seq (.region false [
 ⟨some 13, .iaddr 1 (.tmp 9) (.tmp 11), none, [], []⟩,
 ⟨some 14, .load false 1 (.tmp 13), none, [], []⟩,
 ⟨some 5, .mv (.tmp 14), none, [], []⟩])
  (.ghost (.kill [12, 13, 14])))
  (.seq (.seq (.seq (.region false [
 ⟨some 15, .mv (.tmp 5), none, [], []⟩,
 ⟨some 16, .bin .lss (.tmp 15) (.cst (.int .i64 0)), none, [], []⟩,
 ⟨some 17, .mv (.tmp 16), none, [], []⟩,
 ⟨some 18, .mv (.tmp 5), (some ((some 17), false)), [], []⟩,
 ⟨some 19, .mv (.tmp 3), (some ((some 17), false)), [], []⟩,
 ⟨some 20, .bin .gtr (.tmp 18) (.tmp 19), (some ((some 17), false)), [], []⟩,
 ⟨some 21, .pick (.tmp 17) (.cst (.bool true)) (.tmp 20), none, [], []⟩])
  (.ghost (.kill [15, 16, 17, 18, 19, 20])))
  (.cond (.tmp 21) (.seq (.region false [
      ⟨some 2, .mv (.cst (.bool false)), none, [], []⟩])
    .ret)
  .skip))
  (.seq (.region false [
 ⟨some 22, .mv (.tmp 3), none, [], []⟩,
 ⟨some 23, .mv (.tmp 5), none, [], []⟩,
 ⟨some 24, .bin .sub (.tmp 22) (.tmp 23), none, [], []⟩,
 ⟨some 3, .mv (.tmp 24), none, [], []⟩])
  (.ghost (.kill [5, 21, 22, 23, 24]))))))
  (.seq (.region false [
 ⟨some 25, .bin .add (.tmp 11) (.cst (.int .i64 1)), none, [], []⟩,
 ⟨some 11, .mv (.tmp 25), none, [], []⟩])
  (.ghost (.kill [25]))))))
def escrow_Valid.main : ACode := (.seq (.seq (.region false [
 ⟨some 2, .mv (.cst (.bool false)), none, [], []⟩])
  (.ghost (.kill [2])))
  (.seq (.seq (.seq (.region false [
 ⟨some 6, .mv (.tmp 0), none, [], []⟩,
 ⟨some 7, .len .sl (.tmp 6), none, [], []⟩,
 ⟨some 8, .bin .neq (.tmp 7) (.cst (.int .i64 6)), none, [], []⟩])
  (.ghost (.kill [6, 7])))
  (.cond (.tmp 8) (.seq (.region false [
      ⟨some 2, .mv (.cst (.bool false)), none, [], []⟩])
    .ret)
  .skip))
  (.seq (.seq (.region false [
 ⟨some 3, .mv (.cst (.int .i64 1000000000000000)), none, [], []⟩])
  (.ghost (.kill [8])))
  (.seq (.seq (.seq (.region false [
 ⟨some 9, .mv (.tmp 0), none, [], []⟩,
 ⟨some 10, .len .sl (.tmp 9), none, [], []⟩,
 ⟨some 11, .mv (.cst (.int .i64 0)), none, [], []⟩])
  (.ghost (.kill [0])))
  (.seq (.block 0 (.loop escrow_Valid.b0))
  escrow_Valid.c1))
  escrow_Valid.c0))))
def escrow_Valid.k0 : List Item := [.inBlock 0, .code escrow_Valid.c1, .code escrow_Valid.c0]
def escrow_Valid : AFunc := ⟨26, [.tmp 2], escrow_Valid.main⟩
/-- chapman/chapmanref23.Valid -/
def r23_Valid.c0 : ACode := (.seq (.region false [
 ⟨some 33, .mv (.tmp 0), none, [], []⟩,
 ⟨some 34, .len .sl (.tmp 33), none, [], []⟩,
 ⟨some 35, .bin .eql (.tmp 34) (.cst (.int .i64 6)), none, [], []⟩,
 ⟨some 36, .mv (.tmp 35), none, [], []⟩,
 ⟨some 37, .mv (.tmp 3), (some ((some 36), true)), [], []⟩,
 ⟨some 38, .bin .leq (.tmp 37) (.cst (.int .i64 1000000000000000)), (some ((some 36), true)), [], []⟩,
 ⟨some 39, .pick (.tmp 36) (.tmp 38) (.cst (.bool false)), none, [], []⟩,
 ⟨some 2, .mv (.tmp 39), none, [], []⟩])
  .ret)
def r23_Valid.b0 : ACode := (.seq (.seq (.seq (.region false [
 ⟨some 5, .mv (.tmp 4), none, [], []⟩,
 ⟨some 6, .mv (.tmp 0), none, [], []⟩,
 ⟨some 7, .len .sl (.tmp 6), none, [], []⟩,
 ⟨some 8, .bin .lss (.tmp 5) (.tmp 7), none, [], []⟩,
 ⟨some 9, .mv (.tmp 8), none, [], []⟩,
 ⟨some 10, .mv (.tmp 4), (some ((some 9), true)), [], []⟩,
 ⟨some 11, .bin .lss (.tmp 10) (.cst (.int .i64 6)), (some ((some 9), true)), [], []⟩,
 ⟨some 12, .pick (.tmp 9) (.tmp 11) (.cst (.bool false)), none, [], []⟩])
  (.ghost (.kill [5, 6, 7, 8, 9, 10, 11])))
  (.cond (.tmp 12) .skip
  (.exit 0)))
  (.seq (.block 1 (.seq (.seq (.seq (.region false [
 ⟨some 15, .mv (.tmp 0), none, [], []⟩,
 ⟨some 16, .mv (.tmp 4), none, [], []⟩,
 ⟨some 17, .iaddr 1 (.tmp 15) (.tmp 16), none, [], []⟩,
 ⟨some 18, .load false 1 (.tmp 17), none, [], []⟩,
 ⟨some 19, .bin .lss (.tmp 18) (.cst (.int .i64 0)), none, [], []⟩,
 ⟨some 20, .mv (.tmp 19), none, [], []⟩,
 ⟨some 21, .mv (.tmp 0), (some ((some 20), false)), [], []⟩,
 ⟨some 22, .mv (.tmp 4), (some ((some 20), false)), [], []⟩,
 ⟨some 23, .iaddr 1 (.tmp 21) (.tmp 22), (some ((some 20), false)), [], []⟩,
 ⟨some 24, .load false 1 (.tmp 23), (some ((some 20), false)), [], []⟩,
 ⟨some 25, .bin .gtr (.tmp 24) (.cst (.int .i64 1000000000000000)), (some ((some 20), false)), [], []⟩,
 ⟨some 26, .pick (.tmp 20) (.cst (.bool true)) (.tmp 25), none, [], []⟩])
  (.ghost (.kill [12, 15, 16, 17, 18, 19, 20, 21, 22, 23, 24, 25])))
  (.cond (.tmp 26) (.seq (.region false [
      ⟨some 2, .mv (.cst (.bool false)), none, [], []⟩])
    .ret)
  .skip))
  (.seq (.region false [
 ⟨some 27, .mv (.tmp 3), none, [], []⟩,
 ⟨some 28, .mv (.tmp 0), none, [], []⟩,
 ⟨some 29, .mv (.tmp 4), none, [], []⟩,
 ⟨some 30, .iaddr 1 (.tmp 28) (.tmp 29), none, [], []⟩,
 ⟨some 31, .load false 1 (.tmp 30), none, [], []⟩,
 ⟨some 32, .bin .add (.tmp 27) (.tmp 31), none, [], []⟩,
 ⟨some 3, .mv (.tmp 32), none, [], []⟩])
  (.ghost (.kill [26, 27, 28, 29, 30, 31, 32])))))
  (.seq (.region false [
 ⟨some 13, .mv (.tmp 4), none, [], []⟩,
 ⟨some 14, .bin .add (.tmp 13) (.cst (.int .i64 1)), none, [], []⟩,
 ⟨some 4, .mv (.tmp 14), none, [], []⟩])
  (.ghost (.kill [13, 14])))))
def r23_Valid.main : ACode := (.seq (.seq (.region false [
 ⟨some 2, .mv (.cst (.bool false)), none, [], []⟩])
  (.ghost (.kill [2])))
  (.seq (.region false [
 ⟨some 3, .mv (.cst (.int .i64 0)), none, [], []⟩])
  (.seq (.seq (.region false [
 ⟨some 4, .mv (.cst (.int .i64 0)), none, [], []⟩])
  (.seq (.block 0 (.loop r23_Valid.b0))
  (.ghost (.kill [4, 12]))))
  r23_Valid.c0)))
def r23_Valid.k0 : List Item := [.inBlock 0, .code (.ghost (.kill [4, 12])), .code r23_Valid.c0]
def r23_Valid : AFunc := ⟨40, [.tmp 2], r23_Valid.main⟩
/-- chapman/escrow.Total -/
def escrow_Total.c0 : ACode := (.seq (.region false [
 ⟨some 18, .mv (.tmp 3), none, [], []⟩,
 ⟨some 2, .mv (.tmp 18), none, [], []⟩])
  .ret)
def escrow_Total.c1 : ACode := (.ghost (.kill [8, 9, 10, 11]))
def escrow_Total.b0 : ACode := (.seq (.region false [
 ⟨some 11, .bin .lss (.tmp 10) (.tmp 9), none, [], []⟩])
  (.seq (.cond (.tmp 11) .skip
  (.exit 0))
  (.seq (.block 1 (.seq (.seq (.region false [
 ⟨some 12, .iaddr 1 (.tmp 8) (.tmp 10), none, [], []⟩,
 ⟨some 13, .load false 1 (.tmp 12), none, [], []⟩,
 ⟨some 5, .mv (.tmp 13), none, [], []⟩])
  (.ghost (.kill [11, 12, 13])))
  (.seq (.region false [
 ⟨some 14, .mv (.tmp 3), none, [], []⟩,
 ⟨some 15, .mv (.tmp 5), none, [], []⟩,
 ⟨some 16, .bin .add (.tmp 14) (.tmp 15), none, [], []⟩,
 ⟨some 3, .mv (.tmp 16), none, [], []⟩])
  (.ghost (.kill [5, 14, 15, 16])))))
  (.seq (.region false [
 ⟨some 17, .bin .add (.tmp 10) (.cst (.int .i64 1)), none, [], []⟩,
 ⟨some 10, .mv (.tmp 17), none, [], []⟩])
  (.ghost (.kill [17]))))))
def escrow_Total.main : ACode := (.seq (.seq (.region false [
 ⟨some 2, .mv (.cst (.int .i64 0)), none, [], []⟩])
  (.ghost (.kill [2])))
  (.seq (.region false [
 ⟨some 3, .mv (.cst (.int .i64 0)), none, [], []⟩])
  (.seq (.seq (.seq (.region false [
 ⟨some 6, .mv (.tmp 0), none, [], []⟩,
 ⟨some 7, .call true i_escrow_Valid [(.tmp 6)], none, [], []⟩])
  (.ghost (.kill [6])))
  (.seq (.cond (.tmp 7) (.seq (.seq (.region false [
      ⟨some 8, .mv (.tmp 0), none, [], []⟩,
      ⟨some 9, .len .sl (.tmp 8), none, [], []⟩,
      ⟨some 10, .mv (.cst (.int .i64 0)), none, [], []⟩])
    (.ghost (.kill [0, 7])))
    (.seq (.block 0 (.loop escrow_Total.b0))
    escrow_Total.c1))
  .skip)
  (.ghost (.kill [0, 7]))))
  escrow_Total.c0)))
def escrow_Total.k0 : List Item := [.inBlock 0, .code escrow_Total.c1, .code (.ghost (.kill [0, 7])), .code escrow_Total.c0]
def escrow_Total : AFunc := ⟨19, [.tmp 2], escrow_Total.main⟩
/-- chapman/chapmanlaw23.taken -/
def l23_taken.main : ACode := (.seq (.region false [
 ⟨some 6, .alloc [.nils, (.int .i64 0)], none, [], []⟩])
  (.seq (.seq (.region false [
 ⟨some 10, .mv (.tmp 0), none, [], []⟩,
 ⟨some 11, .mv (.tmp 1), none, [], []⟩,
 ⟨some 12, .mv (.tmp 2), none, [], []⟩,
 ⟨some 13, .call true i_escrow_Take [(.tmp 10), (.tmp 11), (.tmp 12)], none, [], []⟩,
 ⟨some 9, .mv (.tmp 13), none, [], []⟩,
 ⟨some 14, .extr (.tmp 9) 0, none, [], []⟩,
 ⟨some 15, .extr (.tmp 9) 1, none, [], []⟩,
 ⟨some 7, .mv (.tmp 14), none, [], []⟩,
 ⟨some 8, .mv (.tmp 15), none, [], []⟩])
  (.ghost (.kill [0, 1, 2, 9, 10, 11, 12, 13, 14, 15])))
  (.seq (.region false [
 ⟨some 16, .mv (.tmp 7), none, [], []⟩,
 ⟨some 17, .mv (.tmp 8), none, [], []⟩,
 ⟨some 18, .build [.nils, (.int .i64 0)] [(0, 1, (.tmp 16)), (1, 1, (.tmp 17))], none, [], []⟩,
 ⟨none, .store 2 (.tmp 6) (.tmp 18), none, [], []⟩])
  .ret)))
def l23_taken : AFunc := ⟨19, [.cell 6 true 2], l23_taken.main⟩
/-- chapman/chapmanlaw23.granted -/
def l23_granted.main : ACode := (.seq (.seq (.region false [
 ⟨some 3, .box 3 (.tmp 1), none, [], []⟩,
 ⟨some 4, .alloc [.nils, (.int .i64 0)], none, [], []⟩])
  (.ghost (.kill [1])))
  (.seq (.seq (.region false [
 ⟨some 8, .mv (.tmp 0), none, [], []⟩,
 ⟨some 9, .faddr 0 (.tmp 3), none, [], []⟩,
 ⟨some 10, .load false 1 (.tmp 9), none, [], []⟩,
 ⟨some 11, .faddr 1 (.tmp 3), none, [], []⟩,
 ⟨some 12, .load false 1 (.tmp 11), none, [], []⟩,
 ⟨some 13, .faddr 2 (.tmp 3), none, [], []⟩,
 ⟨some 14, .load false 1 (.tmp 13), none, [], []⟩,
 ⟨some 15, .call true i_escrow_Grant [(.tmp 8), (.tmp 10), (.tmp 12), (.tmp 14)], none, [], []⟩,
 ⟨some 7, .mv (.tmp 15), none, [], []⟩,
 ⟨some 16, .extr (.tmp 7) 0, none, [], []⟩,
 ⟨some 17, .extr (.tmp 7) 1, none, [], []⟩,
 ⟨some 5, .mv (.tmp 16), none, [], []⟩,
 ⟨some 6, .mv (.tmp 17), none, [], []⟩])
  (.ghost (.kill [0, 3, 7, 8, 9, 10, 11, 12, 13, 14, 15, 16, 17])))
  (.seq (.region false [
 ⟨some 18, .mv (.tmp 5), none, [], []⟩,
 ⟨some 19, .mv (.tmp 6), none, [], []⟩,
 ⟨some 20, .build [.nils, (.int .i64 0)] [(0, 1, (.tmp 18)), (1, 1, (.tmp 19))], none, [], []⟩,
 ⟨none, .store 2 (.tmp 4) (.tmp 20), none, [], []⟩])
  .ret)))
def l23_granted : AFunc := ⟨21, [.cell 4 true 2], l23_granted.main⟩
/-- chapman/chapmanref23.Same -/
def r23_Same.c0 : ACode := (.seq (.region false [
 ⟨some 4, .mv (.cst (.bool true)), none, [], []⟩])
  .ret)
def r23_Same.c1 : ACode := (.ghost (.kill [2, 3, 5, 25]))
def r23_Same.b0 : ACode := (.seq (.seq (.seq (.region false [
 ⟨some 21, .mv (.tmp 5), none, [], []⟩,
 ⟨some 22, .faddr 1 (.tmp 2), none, [], []⟩,
 ⟨some 23, .load false 1 (.tmp 22), none, [], []⟩,
 ⟨some 24, .len .sl (.tmp 23), none, [], []⟩,
 ⟨some 25, .bin .lss (.tmp 21) (.tmp 24), none, [], []⟩])
  (.ghost (.kill [21, 22, 23, 24])))
  (.cond (.tmp 25) .skip
  (.exit 0)))
  (.seq (.seq (.block 1 (.seq (.seq (.region true [
 ⟨some 28, .faddr 1 (.tmp 2), none, [], [2]⟩,
 ⟨some 29, .load false 1 (.tmp 28), none, [0], [28]⟩,
 ⟨some 30, .mv (.tmp 5), none, [], [5]⟩,
 ⟨some 31, .iaddr 1 (.tmp 29) (.tmp 30), none, [1, 2], [29, 30]⟩,
 ⟨some 32, .load false 1 (.tmp 31), none, [3], [31]⟩,
 ⟨some 33, .faddr 1 (.tmp 3), none, [], [3]⟩,
 ⟨some 34, .load false 1 (.tmp 33), none, [5], [33]⟩,
 ⟨some 35, .mv (.tmp 5), none, [], [5]⟩,
 ⟨some 36, .iaddr 1 (.tmp 34) (.tmp 35), none, [6, 7], [34, 35]⟩,
 ⟨some 37, .load false 1 (.tmp 36), none, [8], [36]⟩,
 ⟨some 38, .eqs true .bool (.tmp 32) (.tmp 37), none, [4, 9], [32, 37]⟩])
  (.ghost (.kill [25, 28, 29, 30, 31, 32, 33, 34, 35, 36, 37])))
  (.cond (.tmp 38) (.seq (.region false [
      ⟨some 4, .mv (.cst (.bool false)), none, [], []⟩])
    .ret)
  .skip)))
  (.ghost (.kill [38])))
  (.seq (.region false [
 ⟨some 26, .mv (.tmp 5), none, [], []⟩,
 ⟨some 27, .bin .add (.tmp 26) (.cst (.int .i64 1)), none, [], []⟩,
 ⟨some 5, .mv (.tmp 27), none, [], []⟩])
  (.ghost (.kill [26, 27])))))
def r23_Same.main : ACode := (.seq (.seq (.region false [
 ⟨some 2, .box 2 (.tmp 0), none, [], []⟩,
 ⟨some 3, .box 2 (.tmp 1), none, [], []⟩,
 ⟨some 4, .mv (.cst (.bool false)), none, [], []⟩])
  (.ghost (.kill [0, 1, 4])))
  (.seq (.seq (.seq (.region false [
 ⟨some 6, .faddr 0 (.tmp 2), none, [], []⟩,
 ⟨some 7, .load false 1 (.tmp 6), none, [], []⟩,
 ⟨some 8, .faddr 0 (.tmp 3), none, [], []⟩,
 ⟨some 9, .load false 1 (.tmp 8), none, [], []⟩,
 ⟨some 10, .call true i_r20_Same [(.tmp 7), (.tmp 9)], none, [], []⟩,
 ⟨some 11, .un .not (.tmp 10), none, [], []⟩,
 ⟨some 12, .mv (.tmp 11), none, [], []⟩,
 ⟨some 13, .faddr 1 (.tmp 2), (some ((some 12), false)), [], []⟩,
 ⟨some 14, .load false 1 (.tmp 13), (some ((some 12), false)), [], []⟩,
 ⟨some 15, .len .sl (.tmp 14), (some ((some 12), false)), [], []⟩,
 ⟨some 16, .faddr 1 (.tmp 3), (some ((some 12), false)), [], []⟩,
 ⟨some 17, .load false 1 (.tmp 16), (some ((some 12), false)), [], []⟩,
 ⟨some 18, .len .sl (.tmp 17), (some ((some 12), false)), [], []⟩,
 ⟨some 19, .bin .neq (.tmp 15) (.tmp 18), (some ((some 12), false)), [], []⟩,
 ⟨some 20, .pick (.tmp 12) (.cst (.bool true)) (.tmp 19), none, [], []⟩])
  (.ghost (.kill [6, 7, 8, 9, 10, 11, 12, 13, 14, 15, 16, 17, 18, 19])))
  (.cond (.tmp 20) (.seq (.region false [
      ⟨some 4, .mv (.cst (.bool false)), none, [], []⟩])
    .ret)
  .skip))
  (.seq (.seq (.seq (.region false [
 ⟨some 5, .mv (.cst (.int .i64 0)), none, [], []⟩])
  (.ghost (.kill [20])))
  (.seq (.block 0 (.loop r23_Same.b0))
  r23_Same.c1))
  r23_Same.c0)))
def r23_Same.k0 : List Item := [.inBlock 0, .code r23_Same.c1, .code r23_Same.c0]
def r23_Same : AFunc := ⟨39, [.tmp 4], r23_Same.main⟩
/-- chapman/chapmanlaw23.played -/
def l23_played.main : ACode := (.seq (.region false [
 ⟨some 4, .alloc [.nils, .nils], none, [], []⟩])
  (.seq (.seq (.region false [
 ⟨some 8, .mv (.tmp 0), none, [], []⟩,
 ⟨some 9, .mv (.tmp 1), none, [], []⟩,
 ⟨some 10, .call true i_escrow_Play [(.tmp 8), (.tmp 9)], none, [], []⟩,
 ⟨some 7, .mv (.tmp 10), none, [], []⟩,
 ⟨some 11, .extr (.tmp 7) 0, none, [], []⟩,
 ⟨some 12, .extr (.tmp 7) 1, none, [], []⟩,
 ⟨some 5, .mv (.tmp 11), none, [], []⟩,
 ⟨some 6, .mv (.tmp 12), none, [], []⟩])
  (.ghost (.kill [0, 1, 7, 8, 9, 10, 11, 12])))
  (.seq (.region false [
 ⟨some 13, .mv (.tmp 5), none, [], []⟩,
 ⟨some 14, .mv (.tmp 6), none, [], []⟩,
 ⟨some 15, .build [.nils, .nils] [(0, 1, (.tmp 13)), (1, 1, (.tmp 14))], none, [], []⟩,
 ⟨none, .store 2 (.tmp 4) (.tmp 15), none, [], []⟩])
  .ret)))
def l23_played : AFunc := ⟨16, [.cell 4 true 2], l23_played.main⟩
/-- chapman/chapmanlaw23.did -/
def l23_did.main : ACode := (.seq (.seq (.region false [
 ⟨some 3, .box 5 (.tmp 1), none, [], []⟩,
 ⟨some 4, .alloc [.nils, (.int .i64 0)], none, [], []⟩])
  (.ghost (.kill [1])))
  (.seq (.seq (.region false [
 ⟨some 8, .mv (.tmp 0), none, [], []⟩,
 ⟨some 9, .load true 5 (.tmp 3), none, [], []⟩,
 ⟨some 10, .call true i_escrow_Do [(.tmp 8), (.tmp 9)], none, [], []⟩,
 ⟨some 7, .mv (.tmp 10), none, [], []⟩,
 ⟨some 11, .extr (.tmp 7) 0, none, [], []⟩,
 ⟨some 12, .extr (.tmp 7) 1, none, [], []⟩,
 ⟨some 5, .mv (.tmp 11), none, [], []⟩,
 ⟨some 6, .mv (.tmp 12), none, [], []⟩])
  (.ghost (.kill [0, 3, 7, 8, 9, 10, 11, 12])))
  (.seq (.region false [
 ⟨some 13, .mv (.tmp 5), none, [], []⟩,
 ⟨some 14, .mv (.tmp 6), none, [], []⟩,
 ⟨some 15, .build [.nils, (.int .i64 0)] [(0, 1, (.tmp 13)), (1, 1, (.tmp 14))], none, [], []⟩,
 ⟨none, .store 2 (.tmp 4) (.tmp 15), none, [], []⟩])
  .ret)))
def l23_did : AFunc := ⟨16, [.cell 4 true 2], l23_did.main⟩
/-- chapman/escrow.Covered -/
def escrow_Covered.main : ACode := (.seq (.seq (.region false [
 ⟨some 5, .box 5 (.tmp 2), none, [], []⟩,
 ⟨some 6, .mv (.cst (.bool false)), none, [], []⟩])
  (.ghost (.kill [2, 6])))
  (.seq (.seq (.region false [
 ⟨some 12, .mv (.tmp 1), none, [], []⟩,
 ⟨some 13, .call false i_slices_Clone_Commit [(.tmp 12)], none, [], []⟩,
 ⟨some 14, .mkfn (.func i_escrow_Covered_1) [] [(.tmp 5)], none, [], []⟩,
 ⟨some 15, .call false i_slices_DeleteFunc_Commit [(.tmp 13), (.tmp 14)], none, [], []⟩,
 ⟨some 7, .mv (.tmp 15), none, [], []⟩])
  (.ghost (.kill [1, 12, 13, 14, 15])))
  (.seq (.seq (.seq (.region false [
 ⟨some 16, .mv (.tmp 7), none, [], []⟩,
 ⟨some 17, .call false i_slices_SortStableFunc_Commit [(.tmp 16), (.cst (.clo (.func i_escrow_Covered_2) [] []))], none, [], []⟩])
  (.ghost (.dfreeze 7)))
  (.ghost (.kill [16, 17])))
  (.seq (.seq (.region false [
 ⟨some 19, .mv (.tmp 0), none, [], []⟩,
 ⟨some 20, .mv (.tmp 7), none, [], []⟩,
 ⟨some 21, .call true i_escrow_Play [(.tmp 19), (.tmp 20)], none, [], []⟩,
 ⟨some 18, .mv (.tmp 21), none, [], []⟩,
 ⟨some 22, .extr (.tmp 18) 0, none, [], []⟩,
 ⟨some 23, .extr (.tmp 18) 1, none, [], []⟩,
 ⟨some 8, .mv (.tmp 22), none, [], []⟩,
 ⟨some 9, .mv (.tmp 23), none, [], []⟩])
  (.ghost (.kill [0, 7, 9, 18, 19, 20, 21, 22, 23])))
  (.seq (.seq (.region false [
 ⟨some 25, .mv (.tmp 8), none, [], []⟩,
 ⟨some 26, .load true 5 (.tmp 5), none, [], []⟩,
 ⟨some 27, .call true i_escrow_Do [(.tmp 25), (.tmp 26)], none, [], []⟩,
 ⟨some 24, .mv (.tmp 27), none, [], []⟩,
 ⟨some 28, .extr (.tmp 24) 0, none, [], []⟩,
 ⟨some 29, .extr (.tmp 24) 1, none, [], []⟩,
 ⟨some 10, .mv (.tmp 28), none, [], []⟩,
 ⟨some 11, .mv (.tmp 29), none, [], []⟩])
  (.ghost (.kill [5, 8, 10, 24, 25, 26, 27, 28, 29])))
  (.seq (.region false [
 ⟨some 30, .mv (.tmp 11), none, [], []⟩,
 ⟨some 31, .bin .eql (.tmp 30) (.cst (.int .i64 0)), none, [], []⟩,
 ⟨some 6, .mv (.tmp 31), none, [], []⟩])
  .ret))))))
def escrow_Covered : AFunc := ⟨32, [.tmp 6], escrow_Covered.main⟩
/-- chapman/chapmanlaw23.commit -/
def l23_commit.c0 : ACode := (.seq (.region false [
 ⟨some 31, .load true 5 (.tmp 5), none, [], []⟩,
 ⟨none, .store 5 (.tmp 4) (.tmp 31), none, [], []⟩])
  .ret)
def l23_commit.b0 : ACode := (.seq (.seq (.seq (.region false [
 ⟨some 11, .mv (.tmp 6), none, [], []⟩,
 ⟨some 12, .mv (.tmp 1), none, [], []⟩,
 ⟨some 13, .len .sl (.tmp 12), none, [], []⟩,
 ⟨some 14, .bin .lss (.tmp 11) (.tmp 13), none, [], []⟩,
 ⟨some 15, .mv (.tmp 14), none, [], []⟩,
 ⟨some 16, .mv (.tmp 6), (some ((some 15), true)), [], []⟩,
 ⟨some 17, .bin .lss (.tmp 16) (.cst (.int .i64 3)), (some ((some 15), true)), [], []⟩,
 ⟨some 18, .pick (.tmp 15) (.tmp 17) (.cst (.bool false)), none, [], []⟩])
  (.ghost (.kill [11, 12, 13, 14, 15, 16, 17])))
  (.cond (.tmp 18) .skip
  (.exit 0)))
  (.seq (.block 1 (.seq (.region true [
 ⟨some 21, .faddr 4 (.tmp 5), none, [], [5]⟩,
 ⟨some 22, .load false 1 (.tmp 21), none, [0], [21]⟩,
 ⟨some 23, .mv (.tmp 1), none, [], [1]⟩,
 ⟨some 24, .mv (.tmp 6), none, [], [6]⟩,
 ⟨some 25, .iaddr 3 (.tmp 23) (.tmp 24), none, [2, 3], [23, 24]⟩,
 ⟨some 26, .load true 3 (.tmp 25), none, [4], [25]⟩,
 ⟨some 27, .call true i_r23_Op [(.tmp 26)], none, [5], [26]⟩,
 ⟨some 28, .bslice 9 1 [(.int .i64 0), (.int .i64 0), (.int .i64 0), (.int .i64 0), .nils, .nils, (.int .i64 0), (.int .i64 0), (.str ⟨#[]⟩)] [(0, (.tmp 27))], none, [6], [27]⟩,
 ⟨some 29, .append 9 112 (.tmp 22) (.tmp 28), none, [1, 7, 6], [22, 28]⟩,
 ⟨some 30, .faddr 4 (.tmp 5), none, [0, 1, 2, 3, 4, 5, 6, 7, 8], [5]⟩,
 ⟨none, .store 1 (.tmp 30) (.tmp 29), none, [9, 8, 8, 0, 1, 2, 3, 4, 5, 6, 7, 8], [30, 29]⟩])
  (.ghost (.kill [18, 21, 22, 23, 24, 25, 26, 27, 28, 29, 30]))))
  (.seq (.region false [
 ⟨some 19, .mv (.tmp 6), none, [], []⟩,
 ⟨some 20, .bin .add (.tmp 19) (.cst (.int .i64 1)), none, [], []⟩,
 ⟨some 6, .mv (.tmp 20), none, [], []⟩])
  (.ghost (.kill [19, 20])))))
def l23_commit.main : ACode := (.seq (.region false [
 ⟨some 4, .alloc [(.int .i64 0), (.int .i64 0), .nils, (.int .i64 0), .nils], none, [], []⟩])
  (.seq (.seq (.region false [
 ⟨some 7, .mv (.tmp 0), none, [], []⟩,
 ⟨some 8, .build [(.int .i64 0), (.int .i64 0)] [(0, 1, (.tmp 7)), (1, 1, (.cst (.int .i64 1)))], none, [], []⟩,
 ⟨some 9, .call true i_r20_Zero [], none, [], []⟩,
 ⟨some 10, .build [(.int .i64 0), (.int .i64 0), .nils, (.int .i64 0), .nils] [(0, 2, (.tmp 8)), (2, 1, (.tmp 9))], none, [], []⟩,
 ⟨some 5, .alloc [(.int .i64 0), (.int .i64 0), .nils, (.int .i64 0), .nils], none, [], []⟩,
 ⟨none, .store 5 (.tmp 5) (.tmp 10), none, [], []⟩])
  (.ghost (.kill [0, 7, 8, 9, 10])))
  (.seq (.seq (.region false [
 ⟨some 6, .mv (.cst (.int .i64 0)), none, [], []⟩])
  (.seq (.block 0 (.loop l23_commit.b0))
  (.ghost (.kill [1, 6, 18]))))
  l23_commit.c0)))
def l23_commit.k0 : List Item := [.inBlock 0, .code (.ghost (.kill [1, 6, 18])), .code l23_commit.c0]
def l23_commit : AFunc := ⟨32, [.cell 4 true 5], l23_commit.main⟩
/-- chapman/chapmanref20.Same -/
def r20_Same.c0 : ACode := (.seq (.region false [
 ⟨some 4, .mv (.cst (.bool true)), none, [], []⟩])
  .ret)
def r20_Same.c1 : ACode := (.ghost (.kill [0, 1, 5, 14]))
def r20_Same.b0 : ACode := (.seq (.seq (.seq (.region false [
 ⟨some 11, .mv (.tmp 5), none, [], []⟩,
 ⟨some 12, .mv (.tmp 0), none, [], []⟩,
 ⟨some 13, .len .sl (.tmp 12), none, [], []⟩,
 ⟨some 14, .bin .lss (.tmp 11) (.tmp 13), none, [], []⟩])
  (.ghost (.kill [11, 12, 13])))
  (.cond (.tmp 14) .skip
  (.exit 0)))
  (.seq (.seq (.block 1 (.seq (.seq (.region true [
 ⟨some 17, .mv (.tmp 0), none, [], [0]⟩,
 ⟨some 18, .mv (.tmp 5), none, [], [5]⟩,
 ⟨some 19, .iaddr 1 (.tmp 17) (.tmp 18), none, [0, 1], [17, 18]⟩,
 ⟨some 20, .load false 1 (.tmp 19), none, [2], [19]⟩,
 ⟨some 21, .mv (.tmp 1), none, [], [1]⟩,
 ⟨some 22, .mv (.tmp 5), none, [], [5]⟩,
 ⟨some 23, .iaddr 1 (.tmp 21) (.tmp 22), none, [4, 5], [21, 22]⟩,
 ⟨some 24, .load false 1 (.tmp 23), none, [6], [23]⟩,
 ⟨some 25, .bin .neq (.tmp 20) (.tmp 24), none, [3, 7], [20, 24]⟩])
  (.ghost (.kill [14, 17, 18, 19, 20, 21, 22, 23, 24])))
  (.cond (.tmp 25) (.seq (.region false [
      ⟨some 4, .mv (.cst (.bool false)), none, [], []⟩])
    .ret)
  .skip)))
  (.ghost (.kill [25])))
  (.seq (.region false [
 ⟨some 15, .mv (.tmp 5), none, [], []⟩,
 ⟨some 16, .bin .add (.tmp 15) (.cst (.int .i64 1)), none, [], []⟩,
 ⟨some 5, .mv (.tmp 16), none, [], []⟩])
  (.ghost (.kill [15, 16])))))
def r20_Same.main : ACode := (.seq (.seq (.region false [
 ⟨some 4, .mv (.cst (.bool false)), none, [], []⟩])
  (.ghost (.kill [4])))
  (.seq (.seq (.seq (.region false [
 ⟨some 6, .mv (.tmp 0), none, [], []⟩,
 ⟨some 7, .len .sl (.tmp 6), none, [], []⟩,
 ⟨some 8, .mv (.tmp 1), none, [], []⟩,
 ⟨some 9, .len .sl (.tmp 8), none, [], []⟩,
 ⟨some 10, .bin .neq (.tmp 7) (.tmp 9), none, [], []⟩])
  (.ghost (.kill [6, 7, 8, 9])))
  (.cond (.tmp 10) (.seq (.region false [
      ⟨some 4, .mv (.cst (.bool false)), none, [], []⟩])
    .ret)
  .skip))
  (.seq (.seq (.seq (.region false [
 ⟨some 5, .mv (.cst (.int .i64 0)), none, [], []⟩])
  (.ghost (.kill [10])))
  (.seq (.block 0 (.loop r20_Same.b0))
  r20_Same.c1))
  r20_Same.c0)))
def r20_Same.k0 : List Item := [.inBlock 0, .code r20_Same.c1, .code r20_Same.c0]
def r20_Same : AFunc := ⟨26, [.tmp 4], r20_Same.main⟩
/-- chapman/chapmanlaw23.kept -/
def l23_kept.c0 : ACode := (.seq (.region false [
 ⟨some 29, .mv (.tmp 5), none, [], []⟩,
 ⟨some 4, .mv (.tmp 29), none, [], []⟩])
  .ret)
def l23_kept.c1 : ACode := (.ghost (.kill [0, 1, 6, 12]))
def l23_kept.c2 : ACode := (.seq (.region false [
 ⟨some 13, .mv (.tmp 6), none, [], []⟩,
 ⟨some 14, .bin .add (.tmp 13) (.cst (.int .i64 1)), none, [], []⟩,
 ⟨some 6, .mv (.tmp 14), none, [], []⟩])
  (.ghost (.kill [13, 14])))
def l23_kept.c3 : ACode := (.seq (.region false [
 ⟨some 25, .mv (.tmp 5), none, [], []⟩,
 ⟨some 26, .load true 5 (.tmp 7), none, [], []⟩,
 ⟨some 27, .bslice 5 1 [(.int .i64 0), (.int .i64 0), .nils, (.int .i64 0), .nils] [(0, (.tmp 26))], none, [], []⟩,
 ⟨some 28, .append 5 72 (.tmp 25) (.tmp 27), none, [], []⟩,
 ⟨some 5, .mv (.tmp 28), none, [], []⟩])
  (.ghost (.kill [7, 25, 26, 27, 28])))
def l23_kept.b0 : ACode := (.seq (.seq (.seq (.region false [
 ⟨some 9, .mv (.tmp 6), none, [], []⟩,
 ⟨some 10, .mv (.tmp 1), none, [], []⟩,
 ⟨some 11, .len .sl (.tmp 10), none, [], []⟩,
 ⟨some 12, .bin .lss (.tmp 9) (.tmp 11), none, [], []⟩])
  (.ghost (.kill [9, 10, 11])))
  (.cond (.tmp 12) .skip
  (.exit 0)))
  (.seq (.trunc (.block 1 (.seq (.seq (.region false [
 ⟨some 15, .mv (.tmp 1), none, [], []⟩,
 ⟨some 16, .mv (.tmp 6), none, [], []⟩,
 ⟨some 17, .iaddr 5 (.tmp 15) (.tmp 16), none, [], []⟩,
 ⟨some 18, .load true 5 (.tmp 17), none, [], []⟩,
 ⟨some 7, .alloc [(.int .i64 0), (.int .i64 0), .nils, (.int .i64 0), .nils], none, [], []⟩,
 ⟨none, .store 5 (.tmp 7) (.tmp 18), none, [], []⟩])
  (.ghost (.kill [12, 15, 16, 17, 18])))
  (.seq (.seq (.seq (.region false [
 ⟨some 19, .mv (.tmp 0), none, [], []⟩,
 ⟨some 20, .mv (.tmp 5), none, [], []⟩,
 ⟨some 21, .load true 5 (.tmp 7), none, [], []⟩,
 ⟨some 22, .call true i_escrow_Covered [(.tmp 19), (.tmp 20), (.tmp 21)], none, [], []⟩,
 ⟨some 23, .un .not (.tmp 22), none, [], []⟩])
  (.ghost (.kill [19, 20, 21, 22])))
  (.seq (.cond (.tmp 23) (.seq (.region false [
      ⟨some 24, .faddr 4 (.tmp 7), none, [], []⟩,
      ⟨none, .store 1 (.tmp 24) (.cst .nils), none, [], []⟩])
    (.ghost (.kill [23, 24])))
  .skip)
  (.ghost (.kill [23]))))
  l23_kept.c3))))
  l23_kept.c2))
def l23_kept.main : ACode := (.seq (.seq (.region false [
 ⟨some 4, .mv (.cst .nils), none, [], []⟩])
  (.ghost (.kill [4])))
  (.seq (.seq (.region false [
 ⟨some 8, .bslice 5 0 [(.int .i64 0), (.int .i64 0), .nils, (.int .i64 0), .nils] [], none, [], []⟩,
 ⟨some 5, .mv (.tmp 8), none, [], []⟩])
  (.ghost (.kill [8])))
  (.seq (.seq (.region false [
 ⟨some 6, .mv (.cst (.int .i64 0)), none, [], []⟩])
  (.seq (.block 0 (.loop l23_kept.b0))
  l23_kept.c1))
  l23_kept.c0)))
def l23_kept.k0 : List Item := [.inBlock 0, .code l23_kept.c1, .code l23_kept.c0]
def l23_kept : AFunc := ⟨30, [.tmp 4], l23_kept.main⟩
/-- chapman/chapmanref20.CutOf -/
def r20_CutOf.main : ACode := (.seq (.seq (.region false [
 ⟨some 4, .mv (.cst .nils), none, [], []⟩])
  (.ghost (.kill [4])))
  (.seq (.seq (.seq (.region false [
 ⟨some 5, .mv (.tmp 1), none, [], []⟩,
 ⟨some 6, .len .sl (.tmp 5), none, [], []⟩,
 ⟨some 7, .bin .eql (.tmp 6) (.cst (.int .i64 0)), none, [], []⟩])
  (.ghost (.kill [5, 6])))
  (.cond (.tmp 7) (.seq (.region false [
      ⟨some 8, .mv (.tmp 0), none, [], []⟩,
      ⟨some 9, .call true i_r20_All [], none, [], []⟩,
      ⟨some 10, .call true i_r20_GreatestIn [(.tmp 8), (.tmp 9)], none, [], []⟩,
      ⟨some 11, .field 0 1 false (.tmp 10), none, [], []⟩,
      ⟨some 4, .mv (.tmp 11), none, [], []⟩])
    .ret)
  .skip))
  (.seq (.region false [
 ⟨some 12, .mv (.tmp 0), none, [], []⟩,
 ⟨some 13, .mv (.tmp 1), none, [], []⟩,
 ⟨some 14, .call true i_r20_Limit [(.tmp 13)], none, [], []⟩,
 ⟨some 15, .call true i_r20_GreatestIn [(.tmp 12), (.tmp 14)], none, [], []⟩,
 ⟨some 16, .field 0 1 false (.tmp 15), none, [], []⟩,
 ⟨some 4, .mv (.tmp 16), none, [], []⟩])
  .ret)))
def r20_CutOf : AFunc := ⟨17, [.tmp 4], r20_CutOf.main⟩
/-- chapman/cut.Order -/
def cut_Order.c0 : ACode := (.seq (.seq (.region false [
 ⟨some 39, .mv (.tmp 7), none, [], []⟩,
 ⟨some 40, .mkfn (.func i_cut_Order_1) [] [(.tmp 2)], none, [], []⟩,
 ⟨some 41, .call false i_slices_SortFunc_int [(.tmp 39), (.tmp 40)], none, [], []⟩])
  (.ghost (.kill [2, 39, 40, 41])))
  (.seq (.region false [
 ⟨some 42, .mv (.tmp 7), none, [], []⟩,
 ⟨some 4, .mv (.tmp 42), none, [], []⟩,
 ⟨some 5, .mv (.cst (.int .i64 0)), none, [], []⟩])
  .ret))
def cut_Order.c1 : ACode := (.ghost (.kill [6, 17, 18, 19, 20]))
def cut_Order.c2 : ACode := (.seq (.region false [
 ⟨some 38, .bin .add (.tmp 19) (.cst (.int .i64 1)), none, [], []⟩,
 ⟨some 19, .mv (.tmp 38), none, [], []⟩])
  (.ghost (.kill [38])))
def cut_Order.c3 : ACode := (.ghost (.kill [8, 24, 25, 26]))
def cut_Order.b1 : ACode := (.seq (.region false [
 ⟨some 26, .bin .lss (.tmp 25) (.tmp 24), none, [], []⟩])
  (.seq (.cond (.tmp 26) .skip
  (.exit 2))
  (.seq (.trunc (.block 3 (.seq (.seq (.region false [
 ⟨some 27, .mv (.tmp 25), none, [], []⟩,
 ⟨some 10, .mv (.tmp 27), none, [], []⟩])
  (.ghost (.kill [26, 27])))
  (.seq (.region false [
 ⟨some 28, .mv (.tmp 7), none, [], []⟩,
 ⟨some 29, .mv (.tmp 6), none, [], []⟩,
 ⟨some 30, .mv (.tmp 8), none, [], []⟩,
 ⟨some 31, .mv (.tmp 10), none, [], []⟩,
 ⟨some 32, .bin .add (.tmp 31) (.cst (.int .i64 1)), none, [], []⟩,
 ⟨some 33, .build [(.int .i64 0), (.int .i64 0)] [(0, 1, (.tmp 30)), (1, 1, (.tmp 32))], none, [], []⟩,
 ⟨some 34, .lookup (.row [(0, 1, false, (.int .i64)), (1, 1, false, (.int .i64))]) (.int .i64 0) false (.tmp 29) (.tmp 33), none, [], []⟩,
 ⟨some 35, .bslice 1 1 [(.int .i64 0)] [(0, (.tmp 34))], none, [], []⟩,
 ⟨some 36, .append 1 8 (.tmp 28) (.tmp 35), none, [], []⟩,
 ⟨some 7, .mv (.tmp 36), none, [], []⟩])
  (.ghost (.kill [10, 28, 29, 30, 31, 32, 33, 34, 35, 36]))))))
  (.seq (.region false [
 ⟨some 37, .bin .add (.tmp 25) (.cst (.int .i64 1)), none, [], []⟩,
 ⟨some 25, .mv (.tmp 37), none, [], []⟩])
  (.ghost (.kill [37]))))))
def cut_Order.b0 : ACode := (.seq (.region false [
 ⟨some 20, .bin .lss (.tmp 19) (.tmp 18), none, [], []⟩])
  (.seq (.cond (.tmp 20) .skip
  (.exit 0))
  (.seq (.trunc (.block 1 (.seq (.seq (.region false [
 ⟨some 21, .mv (.tmp 19), none, [], []⟩,
 ⟨some 22, .iaddr 1 (.tmp 17) (.tmp 19), none, [], []⟩,
 ⟨some 23, .load false 1 (.tmp 22), none, [], []⟩,
 ⟨some 8, .mv (.tmp 21), none, [], []⟩,
 ⟨some 9, .mv (.tmp 23), none, [], []⟩])
  (.ghost (.kill [20, 21, 22, 23])))
  (.seq (.seq (.region false [
 ⟨some 24, .mv (.tmp 9), none, [], []⟩,
 ⟨some 25, .mv (.cst (.int .i64 0)), none, [], []⟩])
  (.ghost (.kill [9])))
  (.seq (.block 2 (.loop cut_Order.b1))
  cut_Order.c3)))))
  cut_Order.c2)))
def cut_Order.main : ACode := (.seq (.seq (.region false [
 ⟨some 2, .box 1 (.tmp 0), none, [], []⟩,
 ⟨some 4, .mv (.cst .nils), none, [], []⟩,
 ⟨some 5, .mv (.cst (.int .i64 0)), none, [], []⟩])
  (.ghost (.kill [0, 4, 5])))
  (.seq (.seq (.seq (.region false [
 ⟨some 11, .load false 1 (.tmp 2), none, [], []⟩,
 ⟨some 12, .mv (.tmp 1), none, [], []⟩,
 ⟨some 13, .call true i_cut_Closed [(.tmp 11), (.tmp 12)], none, [], []⟩,
 ⟨some 14, .un .not (.tmp 13), none, [], []⟩])
  (.ghost (.kill [11, 12, 13])))
  (.cond (.tmp 14) (.seq (.region false [
      ⟨some 4, .mv (.cst .nils), none, [], []⟩,
      ⟨some 5, .mv (.cst (.int .i64 200)), none, [], []⟩])
    .ret)
  .skip))
  (.seq (.seq (.region false [
 ⟨some 15, .load false 1 (.tmp 2), none, [], []⟩,
 ⟨some 16, .call true i_cut_indices [(.tmp 15)], none, [], []⟩,
 ⟨some 6, .mv (.tmp 16), none, [], []⟩])
  (.ghost (.kill [14, 15, 16])))
  (.seq (.seq (.region false [
 ⟨some 7, .mv (.cst .nils), none, [], []⟩])
  (.ghost (.nilref 7 1)))
  (.seq (.seq (.seq (.region false [
 ⟨some 17, .mv (.tmp 1), none, [], []⟩,
 ⟨some 18, .len .sl (.tmp 17), none, [], []⟩,
 ⟨some 19, .mv (.cst (.int .i64 0)), none, [], []⟩])
  (.ghost (.kill [1])))
  (.seq (.block 0 (.loop cut_Order.b0))
  cut_Order.c1))
  cut_Order.c0)))))
def cut_Order.k1 (m0 : Nat) : List Item := [.inBlock 2, .code cut_Order.c3, .inBlock 1, .inTrunc m0, .code cut_Order.c2, .inLoop cut_Order.b0, .inBlock 0, .code cut_Order.c1, .code cut_Order.c0]
def cut_Order.k0 : List Item := [.inBlock 0, .code cut_Order.c1, .code cut_Order.c0]
def cut_Order : AFunc := ⟨43, [.tmp 4, .tmp 5], cut_Order.main⟩
/-- chapman/cut.Has -/
def cut_Has.main : ACode := (.seq (.seq (.region false [
 ⟨some 3, .box 2 (.tmp 1), none, [], []⟩,
 ⟨some 4, .mv (.cst (.bool false)), none, [], []⟩])
  (.ghost (.kill [1, 4])))
  (.seq (.region true [
 ⟨some 5, .mv (.tmp 0), none, [], [0]⟩,
 ⟨some 6, .call true i_cut_Valid [(.tmp 5)], none, [0], [5]⟩,
 ⟨some 7, .mv (.tmp 6), none, [1, 1], [6]⟩,
 ⟨some 8, .faddr 0 (.tmp 3), (some ((some 7), true)), [2], [3]⟩,
 ⟨some 9, .load false 1 (.tmp 8), (some ((some 7), true)), [3, 2], [8]⟩,
 ⟨some 10, .bin .geq (.tmp 9) (.cst (.int .i64 0)), (some ((some 7), true)), [4, 2], [9]⟩,
 ⟨some 11, .pick (.tmp 7) (.tmp 10) (.cst (.bool false)), none, [2, 5], [7, 10]⟩,
 ⟨some 12, .mv (.tmp 11), none, [6, 2], [11]⟩,
 ⟨some 13, .faddr 0 (.tmp 3), (some ((some 12), true)), [7], [3]⟩,
 ⟨some 14, .load false 1 (.tmp 13), (some ((some 12), true)), [8, 7], [13]⟩,
 ⟨some 15, .bin .lss (.tmp 14) (.cst (.int .i64 6)), (some ((some 12), true)), [9, 7], [14]⟩,
 ⟨some 16, .pick (.tmp 12) (.tmp 15) (.cst (.bool false)), none, [7, 10], [12, 15]⟩,
 ⟨some 17, .mv (.tmp 16), none, [11, 7], [16]⟩,
 ⟨some 18, .faddr 1 (.tmp 3), (some ((some 17), true)), [12], [3]⟩,
 ⟨some 19, .load false 1 (.tmp 18), (some ((some 17), true)), [13, 12], [18]⟩,
 ⟨some 20, .bin .geq (.tmp 19) (.cst (.int .i64 1)), (some ((some 17), true)), [14, 12], [19]⟩,
 ⟨some 21, .pick (.tmp 17) (.tmp 20) (.cst (.bool false)), none, [12, 15], [17, 20]⟩,
 ⟨some 22, .mv (.tmp 21), none, [16, 12], [21]⟩,
 ⟨some 23, .faddr 1 (.tmp 3), (some ((some 22), true)), [17], [3]⟩,
 ⟨some 24, .load false 1 (.tmp 23), (some ((some 22), true)), [18, 17], [23]⟩,
 ⟨some 25, .mv (.tmp 0), (some ((some 22), true)), [17], [0]⟩,
 ⟨some 26, .faddr 0 (.tmp 3), (some ((some 22), true)), [17], [3]⟩,
 ⟨some 27, .load false 1 (.tmp 26), (some ((some 22), true)), [21, 17], [26]⟩,
 ⟨some 28, .iaddr 1 (.tmp 25) (.tmp 27), (some ((some 22), true)), [20, 22, 17], [25, 27]⟩,
 ⟨some 29, .load false 1 (.tmp 28), (some ((some 22), true)), [23, 17], [28]⟩,
 ⟨some 30, .bin .leq (.tmp 24) (.tmp 29), (some ((some 22), true)), [19, 24, 17], [24, 29]⟩,
 ⟨some 31, .pick (.tmp 22) (.tmp 30) (.cst (.bool false)), none, [17, 25], [22, 30]⟩,
 ⟨some 4, .mv (.tmp 31), none, [26, 17, 0, 1, 2, 3, 4, 5, 6, 7, 8, 9, 10, 11, 12, 13, 14, 15, 16, 17, 18, 19, 20, 21, 22, 23, 24, 25, 26], [31]⟩])
  .ret))
def cut_Has : AFunc := ⟨32, [.tmp 4], cut_Has.main⟩
/-- chapman/chapmanlaw23.causal -/
def l23_causal.c0 : ACode := (.seq (.region false [
 ⟨some 90, .mv (.tmp 5), none, [], []⟩,
 ⟨some 4, .mv (.tmp 90), none, [], []⟩])
  .ret)
def l23_causal.c1 : ACode := (.seq (.seq (.region false [
 ⟨some 73, .mv (.tmp 5), none, [], []⟩,
 ⟨some 74, .mv (.tmp 6), none, [], []⟩,
 ⟨some 75, .mv (.tmp 11), none, [], []⟩,
 ⟨some 76, .iaddr 5 (.tmp 74) (.tmp 75), none, [], []⟩,
 ⟨some 77, .load true 5 (.tmp 76), none, [], []⟩,
 ⟨some 78, .bslice 5 1 [(.int .i64 0), (.int .i64 0), .nils, (.int .i64 0), .nils] [(0, (.tmp 77))], none, [], []⟩,
 ⟨some 79, .append 5 72 (.tmp 73) (.tmp 78), none, [], []⟩,
 ⟨some 5, .mv (.tmp 79), none, [], []⟩])
  (.ghost (.kill [73, 74, 75, 76, 77, 78, 79])))
  (.seq (.seq (.regionD ⟨[80, 84], [], [([80], [85, 87])]⟩ [
 ⟨some 80, .bslice 5 0 [(.int .i64 0), (.int .i64 0), .nils, (.int .i64 0), .nils] [], none, [], []⟩,
 ⟨some 81, .mv (.tmp 6), none, [], [6]⟩,
 ⟨some 82, .mv (.tmp 11), none, [], [11]⟩,
 ⟨some 83, .slice 5 (.tmp 81) none (some (.tmp 82)) none, none, [1, 2], [81, 82]⟩,
 ⟨some 84, .append 5 72 (.tmp 80) (.tmp 83), none, [0, 3], [80, 83]⟩,
 ⟨some 85, .mv (.tmp 6), none, [], [6]⟩,
 ⟨some 86, .mv (.tmp 11), none, [], [11]⟩,
 ⟨some 87, .bin .add (.tmp 86) (.cst (.int .i64 1)), none, [6], [86]⟩,
 ⟨some 88, .slice 5 (.tmp 85) (some (.tmp 87)) none none, none, [5, 7], [85, 87]⟩,
 ⟨some 89, .append 5 72 (.tmp 84) (.tmp 88), none, [4, 8, 4], [84, 88]⟩,
 ⟨some 6, .mv (.tmp 89), none, [9, 9, 0, 1, 2, 3, 4, 5, 6, 7, 8, 9], [89]⟩])
  (.ghost (.dfreeze 6)))
  (.ghost (.kill [11, 80, 81, 82, 83, 84, 85, 86, 87, 88, 89]))))
def l23_causal.c2 : ACode := (.seq (.seq (.seq (.region false [
 ⟨some 50, .mv (.tmp 7), none, [], []⟩,
 ⟨some 51, .len .sl (.tmp 50), none, [], []⟩,
 ⟨some 52, .bin .eql (.tmp 51) (.cst (.int .i64 0)), none, [], []⟩])
  (.ghost (.kill [50, 51])))
  (.cond (.tmp 52) (.seq (.region false [
      ⟨some 4, .mv (.cst .nils), none, [], []⟩])
    .ret)
  .skip))
  (.seq (.seq (.region false [
 ⟨some 53, .mv (.tmp 7), none, [], []⟩,
 ⟨some 54, .iaddr 1 (.tmp 53) (.cst (.int .i64 0)), none, [], []⟩,
 ⟨some 55, .load false 1 (.tmp 54), none, [], []⟩,
 ⟨some 11, .mv (.tmp 55), none, [], []⟩])
  (.ghost (.kill [52, 53, 54, 55])))
  (.seq (.seq (.seq (.region false [
 ⟨some 56, .mv (.tmp 5), none, [], []⟩,
 ⟨some 57, .len .sl (.tmp 56), none, [], []⟩,
 ⟨some 58, .mv (.tmp 1), none, [], []⟩,
 ⟨some 59, .len .sl (.tmp 58), none, [], []⟩,
 ⟨some 60, .bin .lss (.tmp 57) (.tmp 59), none, [], []⟩])
  (.ghost (.kill [56, 57, 58, 59])))
  (.seq (.cond (.tmp 60) (.seq (.region false [
      ⟨some 61, .mv (.tmp 7), none, [], []⟩,
      ⟨some 62, .mv (.tmp 1), none, [], []⟩,
      ⟨some 63, .mv (.tmp 5), none, [], []⟩,
      ⟨some 64, .len .sl (.tmp 63), none, [], []⟩,
      ⟨some 65, .iaddr 1 (.tmp 62) (.tmp 64), none, [], []⟩,
      ⟨some 66, .load false 1 (.tmp 65), none, [], []⟩,
      ⟨some 67, .conv .i64 (.tmp 66), none, [], []⟩,
      ⟨some 68, .mv (.tmp 7), none, [], []⟩,
      ⟨some 69, .len .sl (.tmp 68), none, [], []⟩,
      ⟨some 70, .bin .rem (.tmp 67) (.tmp 69), none, [], []⟩,
      ⟨some 71, .iaddr 1 (.tmp 61) (.tmp 70), none, [], []⟩,
      ⟨some 72, .load false 1 (.tmp 71), none, [], []⟩,
      ⟨some 11, .mv (.tmp 72), none, [], []⟩])
    (.ghost (.kill [7, 60, 61, 62, 63, 64, 65, 66, 67, 68, 69, 70, 71, 72])))
  .skip)
  (.ghost (.kill [7, 60]))))
  l23_causal.c1)))
def l23_causal.c3 : ACode := (.seq (.region false [
 ⟨some 24, .mv (.tmp 8), none, [], []⟩,
 ⟨some 25, .bin .add (.tmp 24) (.cst (.int .i64 1)), none, [], []⟩,
 ⟨some 8, .mv (.tmp 25), none, [], []⟩])
  (.ghost (.kill [24, 25])))
def l23_causal.c4 : ACode := (.seq (.seq (.region false [
 ⟨some 45, .mv (.tmp 9), none, [], []⟩])
  (.ghost (.kill [9])))
  (.seq (.cond (.tmp 45) (.seq (.region false [
      ⟨some 46, .mv (.tmp 7), none, [], []⟩,
      ⟨some 47, .mv (.tmp 8), none, [], []⟩,
      ⟨some 48, .bslice 1 1 [(.int .i64 0)] [(0, (.tmp 47))], none, [], []⟩,
      ⟨some 49, .append 1 8 (.tmp 46) (.tmp 48), none, [], []⟩,
      ⟨some 7, .mv (.tmp 49), none, [], []⟩])
    (.ghost (.kill [45, 46, 47, 48, 49])))
  .skip)
  (.ghost (.kill [45]))))
def l23_causal.b2 : ACode := (.seq (.seq (.seq (.region false [
 ⟨some 26, .mv (.tmp 10), none, [], []⟩,
 ⟨some 27, .mv (.tmp 6), none, [], []⟩,
 ⟨some 28, .len .sl (.tmp 27), none, [], []⟩,
 ⟨some 29, .bin .lss (.tmp 26) (.tmp 28), none, [], []⟩])
  (.ghost (.kill [26, 27, 28])))
  (.cond (.tmp 29) .skip
  (.exit 4)))
  (.seq (.block 5 (.seq (.region true [
 ⟨some 32, .mv (.tmp 9), none, [], [9]⟩,
 ⟨some 33, .mv (.tmp 32), none, [0], [32]⟩,
 ⟨some 34, .mv (.tmp 6), (some ((some 33), true)), [1], [6]⟩,
 ⟨some 35, .mv (.tmp 8), (some ((some 33), true)), [1], [8]⟩,
 ⟨some 36, .iaddr 5 (.tmp 34) (.tmp 35), (some ((some 33), true)), [2, 3, 1], [34, 35]⟩,
 ⟨some 37, .load true 5 (.tmp 36), (some ((some 33), true)), [4, 1], [36]⟩,
 ⟨some 38, .mv (.tmp 6), (some ((some 33), true)), [1], [6]⟩,
 ⟨some 39, .mv (.tmp 10), (some ((some 33), true)), [1], [10]⟩,
 ⟨some 40, .iaddr 5 (.tmp 38) (.tmp 39), (some ((some 33), true)), [6, 7, 1], [38, 39]⟩,
 ⟨some 41, .load true 5 (.tmp 40), (some ((some 33), true)), [8, 1], [40]⟩,
 ⟨some 42, .call true i_r20_Sees [(.tmp 37), (.tmp 41)], (some ((some 33), true)), [5, 9, 1, 1], [37, 41]⟩,
 ⟨some 43, .un .not (.tmp 42), (some ((some 33), true)), [10, 1], [42]⟩,
 ⟨some 44, .pick (.tmp 33) (.tmp 43) (.cst (.bool false)), none, [1, 11], [33, 43]⟩,
 ⟨some 9, .mv (.tmp 44), none, [12, 10, 0, 1, 2, 3, 4, 5, 6, 7, 8, 9, 10, 11, 12], [44]⟩])
  (.ghost (.kill [29, 32, 33, 34, 35, 36, 37, 38, 39, 40, 41, 42, 43, 44]))))
  (.seq (.region false [
 ⟨some 30, .mv (.tmp 10), none, [], []⟩,
 ⟨some 31, .bin .add (.tmp 30) (.cst (.int .i64 1)), none, [], []⟩,
 ⟨some 10, .mv (.tmp 31), none, [], []⟩])
  (.ghost (.kill [30, 31])))))
def l23_causal.b1 : ACode := (.seq (.seq (.seq (.region false [
 ⟨some 20, .mv (.tmp 8), none, [], []⟩,
 ⟨some 21, .mv (.tmp 6), none, [], []⟩,
 ⟨some 22, .len .sl (.tmp 21), none, [], []⟩,
 ⟨some 23, .bin .lss (.tmp 20) (.tmp 22), none, [], []⟩])
  (.ghost (.kill [20, 21, 22])))
  (.cond (.tmp 23) .skip
  (.exit 2)))
  (.seq (.trunc (.block 3 (.seq (.seq (.region false [
 ⟨some 9, .mv (.cst (.bool true)), none, [], []⟩])
  (.ghost (.kill [23])))
  (.seq (.seq (.region false [
 ⟨some 10, .mv (.cst (.int .i64 0)), none, [], []⟩])
  (.seq (.block 4 (.loop l23_causal.b2))
  (.ghost (.kill [10, 29]))))
  l23_causal.c4))))
  l23_causal.c3))
def l23_causal.b0 : ACode := (.seq (.seq (.seq (.region false [
 ⟨some 16, .mv (.tmp 6), none, [], []⟩,
 ⟨some 17, .len .sl (.tmp 16), none, [], []⟩,
 ⟨some 18, .bin .gtr (.tmp 17) (.cst (.int .i64 0)), none, [], []⟩])
  (.ghost (.kill [16, 17])))
  (.cond (.tmp 18) .skip
  (.exit 0)))
  (.trunc (.block 1 (.seq (.seq (.region false [
 ⟨some 19, .bslice 1 0 [(.int .i64 0)] [], none, [], []⟩,
 ⟨some 7, .mv (.tmp 19), none, [], []⟩])
  (.ghost (.kill [18, 19])))
  (.seq (.seq (.region false [
 ⟨some 8, .mv (.cst (.int .i64 0)), none, [], []⟩])
  (.seq (.block 2 (.loop l23_causal.b1))
  (.ghost (.kill [8, 23]))))
  l23_causal.c2)))))
def l23_causal.main : ACode := (.seq (.seq (.region false [
 ⟨some 4, .mv (.cst .nils), none, [], []⟩])
  (.ghost (.kill [4])))
  (.seq (.seq (.seq (.region false [
 ⟨some 12, .bslice 5 0 [(.int .i64 0), (.int .i64 0), .nils, (.int .i64 0), .nils] [], none, [], []⟩,
 ⟨some 13, .bslice 5 0 [(.int .i64 0), (.int .i64 0), .nils, (.int .i64 0), .nils] [], none, [], []⟩,
 ⟨some 14, .mv (.tmp 0), none, [], []⟩,
 ⟨some 15, .append 5 72 (.tmp 13) (.tmp 14), none, [], []⟩,
 ⟨some 5, .mv (.tmp 12), none, [], []⟩,
 ⟨some 6, .mv (.tmp 15), none, [], []⟩])
  (.ghost (.dfreeze 6)))
  (.ghost (.kill [0, 12, 13, 14, 15])))
  (.seq (.seq (.block 0 (.loop l23_causal.b0))
  (.ghost (.kill [1, 6, 18])))
  l23_causal.c0)))
def l23_causal.k2 (m1 : Nat) (m0 : Nat) : List Item := [.inBlock 4, .code (.ghost (.kill [10, 29])), .code l23_causal.c4, .inBlock 3, .inTrunc m1, .code l23_causal.c3, .inLoop l23_causal.b1, .inBlock 2, .code (.ghost (.kill [8, 23])), .code l23_causal.c2, .inBlock 1, .inTrunc m0, .inLoop l23_causal.b0, .inBlock 0, .code (.ghost (.kill [1, 6, 18])), .code l23_causal.c0]
def l23_causal.k1 (m0 : Nat) : List Item := [.inBlock 2, .code (.ghost (.kill [8, 23])), .code l23_causal.c2, .inBlock 1, .inTrunc m0, .inLoop l23_causal.b0, .inBlock 0, .code (.ghost (.kill [1, 6, 18])), .code l23_causal.c0]
def l23_causal.k0 : List Item := [.inBlock 0, .code (.ghost (.kill [1, 6, 18])), .code l23_causal.c0]
def l23_causal : AFunc := ⟨91, [.tmp 4], l23_causal.main⟩
/-- chapman/chapmanlaw23.all -/
def l23_all.c0 : ACode := (.seq (.region false [
 ⟨some 19, .faddr 1 (.tmp 2), none, [], []⟩,
 ⟨some 20, .load false 1 (.tmp 19), none, [], []⟩,
 ⟨some 21, .len .sl (.tmp 20), none, [], []⟩,
 ⟨some 22, .mv (.tmp 1), none, [], []⟩,
 ⟨some 23, .bin .eql (.tmp 21) (.tmp 22), none, [], []⟩,
 ⟨some 24, .mv (.tmp 23), none, [], []⟩,
 ⟨some 25, .faddr 0 (.tmp 2), (some ((some 24), true)), [], []⟩,
 ⟨some 26, .load false 1 (.tmp 25), (some ((some 24), true)), [], []⟩,
 ⟨some 27, .call true i_r23_Valid [(.tmp 26)], (some ((some 24), true)), [], []⟩,
 ⟨some 28, .pick (.tmp 24) (.tmp 27) (.cst (.bool false)), none, [], []⟩,
 ⟨some 4, .mv (.tmp 28), none, [], []⟩])
  .ret)
def l23_all.b0 : ACode := (.seq (.seq (.seq (.region false [
 ⟨some 6, .mv (.tmp 5), none, [], []⟩,
 ⟨some 7, .faddr 1 (.tmp 2), none, [], []⟩,
 ⟨some 8, .load false 1 (.tmp 7), none, [], []⟩,
 ⟨some 9, .len .sl (.tmp 8), none, [], []⟩,
 ⟨some 10, .bin .lss (.tmp 6) (.tmp 9), none, [], []⟩])
  (.ghost (.kill [6, 7, 8, 9])))
  (.cond (.tmp 10) .skip
  (.exit 0)))
  (.seq (.seq (.block 1 (.seq (.seq (.region false [
 ⟨some 13, .faddr 1 (.tmp 2), none, [], []⟩,
 ⟨some 14, .load false 1 (.tmp 13), none, [], []⟩,
 ⟨some 15, .mv (.tmp 5), none, [], []⟩,
 ⟨some 16, .iaddr 1 (.tmp 14) (.tmp 15), none, [], []⟩,
 ⟨some 17, .load false 1 (.tmp 16), none, [], []⟩,
 ⟨some 18, .un .not (.tmp 17), none, [], []⟩])
  (.ghost (.kill [10, 13, 14, 15, 16, 17])))
  (.cond (.tmp 18) (.seq (.region false [
      ⟨some 4, .mv (.cst (.bool false)), none, [], []⟩])
    .ret)
  .skip)))
  (.ghost (.kill [18])))
  (.seq (.region false [
 ⟨some 11, .mv (.tmp 5), none, [], []⟩,
 ⟨some 12, .bin .add (.tmp 11) (.cst (.int .i64 1)), none, [], []⟩,
 ⟨some 5, .mv (.tmp 12), none, [], []⟩])
  (.ghost (.kill [11, 12])))))
def l23_all.main : ACode := (.seq (.seq (.region false [
 ⟨some 2, .box 2 (.tmp 0), none, [], []⟩,
 ⟨some 4, .mv (.cst (.bool false)), none, [], []⟩])
  (.ghost (.kill [0, 4])))
  (.seq (.seq (.region false [
 ⟨some 5, .mv (.cst (.int .i64 0)), none, [], []⟩])
  (.seq (.block 0 (.loop l23_all.b0))
  (.ghost (.kill [5, 10]))))
  l23_all.c0))
def l23_all.k0 : List Item := [.inBlock 0, .code (.ghost (.kill [5, 10])), .code l23_all.c0]
def l23_all : AFunc := ⟨29, [.tmp 4], l23_all.main⟩
/-- chapman/chapmanref20.Zero -/
def r20_Zero.main : ACode := (.seq (.seq (.region false [
 ⟨some 0, .mv (.cst .nils), none, [], []⟩])
  (.ghost (.kill [0])))
  (.seq (.region false [
 ⟨some 1, .mkslice 1 8 [(.int .i64 0)] (.cst (.int .i64 6)) (.cst (.int .i64 6)), none, [], []⟩,
 ⟨some 0, .mv (.tmp 1), none, [], []⟩])
  .ret))
def r20_Zero : AFunc := ⟨2, [.tmp 0], r20_Zero.main⟩
/-- chapman/chapmanlaw23.take -/
def l23_take.main : ACode := (.seq (.region false [
 ⟨some 4, .alloc [(.int .i64 0), (.int .i64 0), .nils, (.int .i64 0), .nils], none, [], []⟩])
  (.seq (.region false [
 ⟨some 5, .mv (.tmp 0), none, [], []⟩,
 ⟨some 6, .build [(.int .i64 0), (.int .i64 0)] [(0, 1, (.tmp 5)), (1, 1, (.cst (.int .i64 1)))], none, [], []⟩,
 ⟨some 7, .mv (.tmp 1), none, [], []⟩,
 ⟨some 8, .build [(.int .i64 0), (.int .i64 0), (.str ⟨#[]⟩)] [(0, 1, (.cst (.int .i64 2))), (1, 1, (.cst (.int .i64 2)))], none, [], []⟩,
 ⟨some 9, .build [(.int .i64 0), (.int .i64 0), (.int .i64 0), (.int .i64 0), .nils, .nils, (.int .i64 0), (.int .i64 0), (.str ⟨#[]⟩)] [(0, 1, (.cst (.int .i64 5))), (6, 3, (.tmp 8))], none, [], []⟩,
 ⟨some 10, .bslice 9 1 [(.int .i64 0), (.int .i64 0), (.int .i64 0), (.int .i64 0), .nils, .nils, (.int .i64 0), (.int .i64 0), (.str ⟨#[]⟩)] [(0, (.tmp 9))], none, [], []⟩,
 ⟨some 11, .build [(.int .i64 0), (.int .i64 0), .nils, (.int .i64 0), .nils] [(0, 2, (.tmp 6)), (2, 1, (.tmp 7)), (4, 1, (.tmp 10))], none, [], []⟩,
 ⟨none, .store 5 (.tmp 4) (.tmp 11), none, [], []⟩])
  .ret))
def l23_take : AFunc := ⟨12, [.cell 4 true 5], l23_take.main⟩
/-- chapman/chapmanref23.Op -/
def r23_Op.c0 : ACode := (.seq (.region false [
 ⟨some 21, .load true 9 (.tmp 3), none, [], []⟩,
 ⟨none, .store 9 (.tmp 2) (.tmp 21), none, [], []⟩])
  .ret)
def r23_Op.main : ACode := (.seq (.seq (.region false [
 ⟨some 1, .box 3 (.tmp 0), none, [], []⟩,
 ⟨some 2, .alloc [(.int .i64 0), (.int .i64 0), (.int .i64 0), (.int .i64 0), .nils, .nils, (.int .i64 0), (.int .i64 0), (.str ⟨#[]⟩)], none, [], []⟩])
  (.ghost (.kill [0])))
  (.seq (.seq (.region false [
 ⟨some 4, .iaddrA 3 1 (.tmp 1) (.cst (.int .i64 1)), none, [], []⟩,
 ⟨some 5, .load false 1 (.tmp 4), none, [], []⟩,
 ⟨some 6, .bin .rem (.tmp 5) (.cst (.int .u8 5)), none, [], []⟩,
 ⟨some 7, .conv .i64 (.tmp 6), none, [], []⟩,
 ⟨some 8, .bin .add (.cst (.int .i64 1)) (.tmp 7), none, [], []⟩,
 ⟨some 9, .build [(.int .i64 0), (.int .i64 0), (.str ⟨#[]⟩)] [(0, 1, (.cst (.int .i64 2))), (1, 1, (.tmp 8))], none, [], []⟩,
 ⟨some 10, .build [(.int .i64 0), (.int .i64 0), (.int .i64 0), (.int .i64 0), .nils, .nils, (.int .i64 0), (.int .i64 0), (.str ⟨#[]⟩)] [(0, 1, (.cst (.int .i64 5))), (6, 3, (.tmp 9))], none, [], []⟩,
 ⟨some 3, .alloc [(.int .i64 0), (.int .i64 0), (.int .i64 0), (.int .i64 0), .nils, .nils, (.int .i64 0), (.int .i64 0), (.str ⟨#[]⟩)], none, [], []⟩,
 ⟨none, .store 9 (.tmp 3) (.tmp 10), none, [], []⟩])
  (.ghost (.kill [4, 5, 6, 7, 8, 9, 10])))
  (.seq (.seq (.seq (.region false [
 ⟨some 11, .iaddrA 3 1 (.tmp 1) (.cst (.int .i64 0)), none, [], []⟩,
 ⟨some 12, .load false 1 (.tmp 11), none, [], []⟩,
 ⟨some 13, .bin .rem (.tmp 12) (.cst (.int .u8 2)), none, [], []⟩,
 ⟨some 14, .bin .eql (.tmp 13) (.cst (.int .u8 1)), none, [], []⟩])
  (.ghost (.kill [11, 12, 13])))
  (.seq (.cond (.tmp 14) (.seq (.seq (.region false [
      ⟨some 15, .faddr 0 (.tmp 3), none, [], []⟩,
      ⟨none, .store 1 (.tmp 15) (.cst (.int .i64 6)), none, [], []⟩])
    (.ghost (.kill [14, 15])))
    (.seq (.region false [
      ⟨some 16, .iaddrA 3 1 (.tmp 1) (.cst (.int .i64 2)), none, [], []⟩,
      ⟨some 17, .load false 1 (.tmp 16), none, [], []⟩,
      ⟨some 18, .bin .rem (.tmp 17) (.cst (.int .u8 4)), none, [], []⟩,
      ⟨some 19, .conv .i64 (.tmp 18), none, [], []⟩,
      ⟨some 20, .faddr 3 (.tmp 3), none, [], []⟩,
      ⟨none, .store 1 (.tmp 20) (.tmp 19), none, [], []⟩])
    (.ghost (.kill [1, 16, 17, 18, 19, 20]))))
  .skip)
  (.ghost (.kill [1, 14]))))
  r23_Op.c0)))
def r23_Op : AFunc := ⟨22, [.cell 2 true 9], r23_Op.main⟩
/-- chapman/chapmanref20.JoinIn -/
def r20_JoinIn.c0 : ACode := (.seq (.region false [
 ⟨some 35, .mv (.tmp 5), none, [], []⟩,
 ⟨some 36, .build [.nils, (.int .i64 0)] [(0, 1, (.tmp 35))], none, [], []⟩,
 ⟨none, .store 2 (.tmp 4) (.tmp 36), none, [], []⟩])
  .ret)
def r20_JoinIn.c1 : ACode := (.ghost (.kill [0, 1, 6, 20]))
def r20_JoinIn.b0 : ACode := (.seq (.seq (.seq (.region false [
 ⟨some 17, .mv (.tmp 6), none, [], []⟩,
 ⟨some 18, .mv (.tmp 0), none, [], []⟩,
 ⟨some 19, .len .sl (.tmp 18), none, [], []⟩,
 ⟨some 20, .bin .lss (.tmp 17) (.tmp 19), none, [], []⟩])
  (.ghost (.kill [17, 18, 19])))
  (.cond (.tmp 20) .skip
  (.exit 0)))
  (.seq (.trunc (.block 1 (.seq (.region true [
 ⟨some 23, .mv (.tmp 5), none, [], [5]⟩,
 ⟨some 24, .mv (.tmp 0), none, [], [0]⟩,
 ⟨some 25, .mv (.tmp 6), none, [], [6]⟩,
 ⟨some 26, .iaddr 1 (.tmp 24) (.tmp 25), none, [1, 2], [24, 25]⟩,
 ⟨some 27, .load false 1 (.tmp 26), none, [3], [26]⟩,
 ⟨some 28, .mv (.tmp 1), none, [], [1]⟩,
 ⟨some 29, .mv (.tmp 6), none, [], [6]⟩,
 ⟨some 30, .iaddr 1 (.tmp 28) (.tmp 29), none, [5, 6], [28, 29]⟩,
 ⟨some 31, .load false 1 (.tmp 30), none, [7], [30]⟩,
 ⟨some 32, .minmax true [(.tmp 27), (.tmp 31)], none, [4, 8], [27, 31]⟩,
 ⟨some 33, .bslice 1 1 [(.int .i64 0)] [(0, (.tmp 32))], none, [9], [32]⟩,
 ⟨some 34, .append 1 8 (.tmp 23) (.tmp 33), none, [0, 10], [23, 33]⟩,
 ⟨some 5, .mv (.tmp 34), none, [11, 11, 0, 1, 2, 3, 4, 5, 6, 7, 8, 9, 10, 11], [34]⟩])
  (.ghost (.kill [20, 23, 24, 25, 26, 27, 28, 29, 30, 31, 32, 33, 34])))))
  (.seq (.region false [
 ⟨some 21, .mv (.tmp 6), none, [], []⟩,
 ⟨some 22, .bin .add (.tmp 21) (.cst (.int .i64 1)), none, [], []⟩,
 ⟨some 6, .mv (.tmp 22), none, [], []⟩])
  (.ghost (.kill [21, 22])))))
def r20_JoinIn.main : ACode := (.seq (.region false [
 ⟨some 4, .alloc [.nils, (.int .i64 0)], none, [], []⟩])
  (.seq (.seq (.seq (.region false [
 ⟨some 7, .mv (.tmp 0), none, [], []⟩,
 ⟨some 8, .call true i_r20_Valid [(.tmp 7)], none, [], []⟩,
 ⟨some 9, .un .not (.tmp 8), none, [], []⟩,
 ⟨some 10, .mv (.tmp 9), none, [], []⟩,
 ⟨some 11, .mv (.tmp 1), (some ((some 10), false)), [], []⟩,
 ⟨some 12, .call true i_r20_Valid [(.tmp 11)], (some ((some 10), false)), [], []⟩,
 ⟨some 13, .un .not (.tmp 12), (some ((some 10), false)), [], []⟩,
 ⟨some 14, .pick (.tmp 10) (.cst (.bool true)) (.tmp 13), none, [], []⟩])
  (.ghost (.kill [7, 8, 9, 10, 11, 12, 13])))
  (.cond (.tmp 14) (.seq (.region false [
      ⟨some 15, .build [.nils, (.int .i64 0)] [(1, 1, (.cst (.int .i64 200)))], none, [], []⟩,
      ⟨none, .store 2 (.tmp 4) (.tmp 15), none, [], []⟩])
    .ret)
  .skip))
  (.seq (.seq (.region false [
 ⟨some 16, .bslice 1 0 [(.int .i64 0)] [], none, [], []⟩,
 ⟨some 5, .mv (.tmp 16), none, [], []⟩])
  (.ghost (.kill [14, 16])))
  (.seq (.seq (.region false [
 ⟨some 6, .mv (.cst (.int .i64 0)), none, [], []⟩])
  (.seq (.block 0 (.loop r20_JoinIn.b0))
  r20_JoinIn.c1))
  r20_JoinIn.c0))))
def r20_JoinIn.k0 : List Item := [.inBlock 0, .code r20_JoinIn.c1, .code r20_JoinIn.c0]
def r20_JoinIn : AFunc := ⟨37, [.cell 4 true 2], r20_JoinIn.main⟩
/-- chapman/chapmanref20.Own -/
def r20_Own.main : ACode := (.seq (.seq (.region false [
 ⟨some 1, .box 5 (.tmp 0), none, [], []⟩,
 ⟨some 2, .mv (.cst .nils), none, [], []⟩])
  (.ghost (.kill [0, 2])))
  (.seq (.seq (.region false [
 ⟨some 4, .bslice 1 0 [(.int .i64 0)] [], none, [], []⟩,
 ⟨some 5, .faddr 2 (.tmp 1), none, [], []⟩,
 ⟨some 6, .load false 1 (.tmp 5), none, [], []⟩,
 ⟨some 7, .append 1 8 (.tmp 4) (.tmp 6), none, [], []⟩,
 ⟨some 3, .mv (.tmp 7), none, [], []⟩])
  (.ghost (.kill [4, 5, 6, 7])))
  (.seq (.seq (.region false [
 ⟨some 8, .mv (.tmp 3), none, [], []⟩,
 ⟨some 9, .faddr 0 (.tmp 1), none, [], []⟩,
 ⟨some 10, .faddr 0 (.tmp 9), none, [], []⟩,
 ⟨some 11, .load false 1 (.tmp 10), none, [], []⟩,
 ⟨some 12, .faddr 0 (.tmp 1), none, [], []⟩,
 ⟨some 13, .faddr 1 (.tmp 12), none, [], []⟩,
 ⟨some 14, .load false 1 (.tmp 13), none, [], []⟩,
 ⟨some 15, .iaddr 1 (.tmp 8) (.tmp 11), none, [], []⟩,
 ⟨none, .store 1 (.tmp 15) (.tmp 14), none, [], []⟩])
  (.ghost (.kill [1, 8, 9, 10, 11, 12, 13, 14, 15])))
  (.seq (.region false [
 ⟨some 16, .mv (.tmp 3), none, [], []⟩,
 ⟨some 2, .mv (.tmp 16), none, [], []⟩])
  .ret))))
def r20_Own : AFunc := ⟨17, [.tmp 2], r20_Own.main⟩
/-- chapman/escrow.New -/
def escrow_New.main : ACode := (.seq (.seq (.region false [
 ⟨some 4, .mv (.cst .nils), none, [], []⟩,
 ⟨some 5, .mv (.cst (.int .i64 0)), none, [], []⟩])
  (.ghost (.kill [4, 5])))
  (.seq (.seq (.seq (.region false [
 ⟨some 7, .mv (.tmp 0), none, [], []⟩,
 ⟨some 8, .call true i_escrow_station [(.tmp 7)], none, [], []⟩,
 ⟨some 9, .un .not (.tmp 8), none, [], []⟩,
 ⟨some 10, .mv (.tmp 9), none, [], []⟩,
 ⟨some 11, .mv (.tmp 1), (some ((some 10), false)), [], []⟩,
 ⟨some 12, .bin .lss (.tmp 11) (.cst (.int .i64 0)), (some ((some 10), false)), [], []⟩,
 ⟨some 13, .pick (.tmp 10) (.cst (.bool true)) (.tmp 12), none, [], []⟩,
 ⟨some 14, .mv (.tmp 13), none, [], []⟩,
 ⟨some 15, .mv (.tmp 1), (some ((some 14), false)), [], []⟩,
 ⟨some 16, .bin .gtr (.tmp 15) (.cst (.int .i64 1000000000000000)), (some ((some 14), false)), [], []⟩,
 ⟨some 17, .pick (.tmp 14) (.cst (.bool true)) (.tmp 16), none, [], []⟩])
  (.ghost (.kill [7, 8, 9, 10, 11, 12, 13, 14, 15, 16])))
  (.cond (.tmp 17) (.seq (.region false [
      ⟨some 4, .mv (.cst .nils), none, [], []⟩,
      ⟨some 5, .mv (.cst (.int .i64 230)), none, [], []⟩])
    .ret)
  .skip))
  (.seq (.seq (.region false [
 ⟨some 6, .alloc [(.int .i64 0), (.int .i64 0), (.int .i64 0), (.int .i64 0), (.int .i64 0), (.int .i64 0)], none, [], []⟩])
  (.ghost (.kill [17])))
  (.seq (.seq (.region false [
 ⟨some 18, .mv (.tmp 0), none, [], []⟩,
 ⟨some 19, .mv (.tmp 1), none, [], []⟩,
 ⟨some 20, .iaddrA 6 1 (.tmp 6) (.tmp 18), none, [], []⟩,
 ⟨none, .store 1 (.tmp 20) (.tmp 19), none, [], []⟩])
  (.ghost (.kill [0, 1, 18, 19, 20])))
  (.seq (.region false [
 ⟨some 21, .slarr 6 1 (.tmp 6) none none, none, [], []⟩,
 ⟨some 4, .mv (.tmp 21), none, [], []⟩,
 ⟨some 5, .mv (.cst (.int .i64 0)), none, [], []⟩])
  .ret)))))
def escrow_New : AFunc := ⟨22, [.tmp 4, .tmp 5], escrow_New.main⟩
/-- chapman/escrow.Take -/
def escrow_Take.main : ACode := (.seq (.seq (.region false [
 ⟨some 4, .box 1 (.tmp 1), none, [], []⟩,
 ⟨some 5, .box 1 (.tmp 2), none, [], []⟩,
 ⟨some 6, .mv (.cst .nils), none, [], []⟩,
 ⟨some 7, .mv (.cst (.int .i64 0)), none, [], []⟩])
  (.ghost (.kill [1, 2, 6, 7])))
  (.seq (.region false [
 ⟨some 8, .mv (.tmp 0), none, [], []⟩,
 ⟨some 9, .mkfn (.func i_escrow_Take_1) [] [(.tmp 4), (.tmp 5)], none, [], []⟩,
 ⟨some 10, .call false i_escrow_try [(.tmp 8), (.tmp 9)], none, [], []⟩,
 ⟨some 11, .extr (.tmp 10) 0, none, [], []⟩,
 ⟨some 12, .extr (.tmp 10) 1, none, [], []⟩,
 ⟨some 6, .mv (.tmp 11), none, [], []⟩,
 ⟨some 7, .mv (.tmp 12), none, [], []⟩])
  .ret))
def escrow_Take : AFunc := ⟨13, [.tmp 6, .tmp 7], escrow_Take.main⟩
/-- chapman/escrow.Grant -/
def escrow_Grant.main : ACode := (.seq (.seq (.region false [
 ⟨some 5, .box 1 (.tmp 1), none, [], []⟩,
 ⟨some 6, .box 1 (.tmp 2), none, [], []⟩,
 ⟨some 7, .box 1 (.tmp 3), none, [], []⟩,
 ⟨some 8, .mv (.cst .nils), none, [], []⟩,
 ⟨some 9, .mv (.cst (.int .i64 0)), none, [], []⟩])
  (.ghost (.kill [1, 2, 3, 8, 9])))
  (.seq (.region false [
 ⟨some 10, .mv (.tmp 0), none, [], []⟩,
 ⟨some 11, .mkfn (.func i_escrow_Grant_1) [] [(.tmp 5), (.tmp 6), (.tmp 7)], none, [], []⟩,
 ⟨some 12, .call false i_escrow_try [(.tmp 10), (.tmp 11)], none, [], []⟩,
 ⟨some 13, .extr (.tmp 12) 0, none, [], []⟩,
 ⟨some 14, .extr (.tmp 12) 1, none, [], []⟩,
 ⟨some 8, .mv (.tmp 13), none, [], []⟩,
 ⟨some 9, .mv (.tmp 14), none, [], []⟩])
  .ret))
def escrow_Grant : AFunc := ⟨15, [.tmp 8, .tmp 9], escrow_Grant.main⟩
/-- chapman/escrow.Play -/
def escrow_Play.c0 : ACode := (.seq (.region false [
 ⟨some 39, .mv (.tmp 6), none, [], []⟩,
 ⟨some 40, .mv (.tmp 7), none, [], []⟩,
 ⟨some 4, .mv (.tmp 39), none, [], []⟩,
 ⟨some 5, .mv (.tmp 40), none, [], []⟩])
  .ret)
def escrow_Play.c1 : ACode := (.ghost (.kill [19, 20, 21, 22]))
def escrow_Play.c2 : ACode := (.seq (.region false [
 ⟨some 38, .bin .add (.tmp 21) (.cst (.int .i64 1)), none, [], []⟩,
 ⟨some 21, .mv (.tmp 38), none, [], []⟩])
  (.ghost (.kill [38])))
def escrow_Play.b0 : ACode := (.seq (.region false [
 ⟨some 22, .bin .lss (.tmp 21) (.tmp 20), none, [], []⟩])
  (.seq (.cond (.tmp 22) .skip
  (.exit 0))
  (.seq (.trunc (.block 1 (.seq (.seq (.region false [
 ⟨some 23, .mv (.tmp 21), none, [], []⟩,
 ⟨some 24, .iaddr 5 (.tmp 19) (.tmp 21), none, [], []⟩,
 ⟨some 25, .load true 5 (.tmp 24), none, [], []⟩,
 ⟨some 9, .alloc [(.int .i64 0), (.int .i64 0), .nils, (.int .i64 0), .nils], none, [], []⟩,
 ⟨some 8, .mv (.tmp 23), none, [], []⟩,
 ⟨none, .store 5 (.tmp 9) (.tmp 25), none, [], []⟩])
  (.ghost (.kill [22, 23, 24, 25])))
  (.seq (.seq (.region false [
 ⟨some 27, .mv (.tmp 6), none, [], []⟩,
 ⟨some 28, .load true 5 (.tmp 9), none, [], []⟩,
 ⟨some 29, .call true i_escrow_Do [(.tmp 27), (.tmp 28)], none, [], []⟩,
 ⟨some 26, .mv (.tmp 29), none, [], []⟩,
 ⟨some 30, .extr (.tmp 26) 0, none, [], []⟩,
 ⟨some 31, .extr (.tmp 26) 1, none, [], []⟩,
 ⟨some 10, .mv (.tmp 30), none, [], []⟩,
 ⟨some 11, .mv (.tmp 31), none, [], []⟩])
  (.ghost (.kill [9, 26, 27, 28, 29, 30, 31])))
  (.seq (.seq (.region false [
 ⟨some 32, .mv (.tmp 11), none, [], []⟩,
 ⟨some 33, .bin .eql (.tmp 32) (.cst (.int .i64 0)), none, [], []⟩])
  (.ghost (.kill [11, 32])))
  (.seq (.cond (.tmp 33) (.seq (.region false [
      ⟨some 34, .mv (.tmp 7), none, [], []⟩,
      ⟨some 35, .mv (.tmp 8), none, [], []⟩,
      ⟨some 36, .mv (.tmp 10), none, [], []⟩,
      ⟨some 6, .mv (.tmp 36), none, [], []⟩,
      ⟨some 37, .iaddr 1 (.tmp 34) (.tmp 35), none, [], []⟩,
      ⟨none, .store 1 (.tmp 37) (.cst (.bool true)), none, [], []⟩])
    (.ghost (.kill [8, 10, 33, 34, 35, 36, 37])))
  .skip)
  (.ghost (.kill [8, 10, 33]))))))))
  escrow_Play.c2)))
def escrow_Play.c3 : ACode := (.seq (.seq (.region false [
 ⟨some 16, .mv (.tmp 1), none, [], []⟩,
 ⟨some 17, .len .sl (.tmp 16), none, [], []⟩,
 ⟨some 18, .mkslice 1 1 [(.bool false)] (.tmp 17) (.tmp 17), none, [], []⟩,
 ⟨some 7, .mv (.tmp 18), none, [], []⟩])
  (.ghost (.kill [16, 17, 18])))
  (.seq (.seq (.seq (.region false [
 ⟨some 19, .mv (.tmp 1), none, [], []⟩,
 ⟨some 20, .len .sl (.tmp 19), none, [], []⟩,
 ⟨some 21, .mv (.cst (.int .i64 0)), none, [], []⟩])
  (.ghost (.kill [1])))
  (.seq (.block 0 (.loop escrow_Play.b0))
  escrow_Play.c1))
  escrow_Play.c0))
def escrow_Play.main : ACode := (.seq (.seq (.region false [
 ⟨some 4, .mv (.cst .nils), none, [], []⟩,
 ⟨some 5, .mv (.cst .nils), none, [], []⟩])
  (.ghost (.kill [4, 5])))
  (.seq (.region false [
 ⟨some 6, .mv (.cst .nils), none, [], []⟩])
  (.seq (.seq (.seq (.region false [
 ⟨some 12, .mv (.tmp 0), none, [], []⟩,
 ⟨some 13, .call true i_escrow_Valid [(.tmp 12)], none, [], []⟩])
  (.ghost (.kill [12])))
  (.seq (.cond (.tmp 13) (.seq (.region false [
      ⟨some 14, .mv (.tmp 0), none, [], []⟩,
      ⟨some 15, .call true i_slices_Clone_int [(.tmp 14)], none, [], []⟩,
      ⟨some 6, .mv (.tmp 15), none, [], []⟩])
    (.ghost (.kill [0, 13, 14, 15])))
  .skip)
  (.ghost (.kill [0, 13]))))
  escrow_Play.c3)))
def escrow_Play.k0 : List Item := [.inBlock 0, .code escrow_Play.c1, .code escrow_Play.c0]
def escrow_Play : AFunc := ⟨41, [.tmp 4, .tmp 5], escrow_Play.main⟩
/-- chapman/escrow.Do -/
def escrow_Do.main : ACode := (.seq (.seq (.region false [
 ⟨some 3, .box 5 (.tmp 1), none, [], []⟩,
 ⟨some 4, .mv (.cst .nils), none, [], []⟩,
 ⟨some 5, .mv (.cst (.int .i64 0)), none, [], []⟩])
  (.ghost (.kill [1, 4, 5])))
  (.seq (.region false [
 ⟨some 6, .mv (.tmp 0), none, [], []⟩,
 ⟨some 7, .mkfn (.func i_escrow_Do_1) [] [(.tmp 3)], none, [], []⟩,
 ⟨some 8, .call false i_escrow_try [(.tmp 6), (.tmp 7)], none, [], []⟩,
 ⟨some 9, .extr (.tmp 8) 0, none, [], []⟩,
 ⟨some 10, .extr (.tmp 8) 1, none, [], []⟩,
 ⟨some 4, .mv (.tmp 9), none, [], []⟩,
 ⟨some 5, .mv (.tmp 10), none, [], []⟩])
  .ret))
def escrow_Do : AFunc := ⟨11, [.tmp 4, .tmp 5], escrow_Do.main⟩
/-- slices.DeleteFunc[[]chapman/api.Commit,chapman/api.Commit] -/
def slices_DeleteFunc_Commit.c0 : ACode := (.seq (.seq (.region false [
 ⟨some 36, .mv (.tmp 0), none, [], []⟩,
 ⟨some 37, .mv (.tmp 5), none, [], []⟩,
 ⟨some 38, .slice 5 (.tmp 36) (some (.tmp 37)) none none, none, [], []⟩,
 ⟨none, .clear [(.int .i64 0), (.int .i64 0), .nils, (.int .i64 0), .nils] (.tmp 38), none, [], []⟩])
  (.ghost (.kill [36, 37, 38])))
  (.seq (.region false [
 ⟨some 39, .mv (.tmp 0), none, [], []⟩,
 ⟨some 40, .mv (.tmp 5), none, [], []⟩,
 ⟨some 41, .slice 5 (.tmp 39) none (some (.tmp 40)) none, none, [], []⟩,
 ⟨some 4, .mv (.tmp 41), none, [], []⟩])
  .ret))
def slices_DeleteFunc_Commit.c1 : ACode := (.seq (.region false [
 ⟨some 20, .mv (.tmp 6), none, [], []⟩,
 ⟨some 21, .bin .add (.tmp 20) (.cst (.int .i64 1)), none, [], []⟩,
 ⟨some 6, .mv (.tmp 21), none, [], []⟩])
  (.ghost (.kill [20, 21])))
def slices_DeleteFunc_Commit.b0 : ACode := (.seq (.seq (.seq (.region false [
 ⟨some 16, .mv (.tmp 6), none, [], []⟩,
 ⟨some 17, .mv (.tmp 0), none, [], []⟩,
 ⟨some 18, .len .sl (.tmp 17), none, [], []⟩,
 ⟨some 19, .bin .lss (.tmp 16) (.tmp 18), none, [], []⟩])
  (.ghost (.kill [16, 17, 18])))
  (.cond (.tmp 19) .skip
  (.exit 0)))
  (.seq (.trunc (.block 1 (.seq (.seq (.region false [
 ⟨some 22, .mv (.tmp 0), none, [], []⟩,
 ⟨some 23, .mv (.tmp 6), none, [], []⟩,
 ⟨some 24, .iaddr 5 (.tmp 22) (.tmp 23), none, [], []⟩,
 ⟨some 25, .load true 5 (.tmp 24), none, [], []⟩,
 ⟨some 7, .alloc [(.int .i64 0), (.int .i64 0), .nils, (.int .i64 0), .nils], none, [], []⟩,
 ⟨none, .store 5 (.tmp 7) (.tmp 25), none, [], []⟩])
  (.ghost (.kill [19, 22, 23, 24, 25])))
  (.seq (.seq (.region false [
 ⟨some 26, .mv (.tmp 1), none, [], []⟩,
 ⟨some 27, .load true 5 (.tmp 7), none, [], []⟩,
 ⟨some 28, .callv true (.tmp 26) [(.tmp 27)], none, [], []⟩,
 ⟨some 29, .un .not (.tmp 28), none, [], []⟩])
  (.ghost (.kill [26, 27, 28])))
  (.seq (.cond (.tmp 29) (.seq (.seq (.region false [
      ⟨some 30, .mv (.tmp 0), none, [], []⟩,
      ⟨some 31, .mv (.tmp 5), none, [], []⟩,
      ⟨some 32, .load true 5 (.tmp 7), none, [], []⟩,
      ⟨some 33, .iaddr 5 (.tmp 30) (.tmp 31), none, [], []⟩,
      ⟨none, .store 5 (.tmp 33) (.tmp 32), none, [], []⟩])
    (.ghost (.kill [7, 29, 30, 31, 32, 33])))
    (.seq (.region false [
      ⟨some 34, .mv (.tmp 5), none, [], []⟩,
      ⟨some 35, .bin .add (.tmp 34) (.cst (.int .i64 1)), none, [], []⟩,
      ⟨some 5, .mv (.tmp 35), none, [], []⟩])
    (.ghost (.kill [34, 35]))))
  .skip)
  (.ghost (.kill [7, 29])))))))
  slices_DeleteFunc_Commit.c1))
def slices_DeleteFunc_Commit.main : ACode := (.seq (.seq (.region false [
 ⟨some 4, .mv (.cst .nils), none, [], []⟩])
  (.ghost (.kill [4])))
  (.seq (.seq (.region false [
 ⟨some 8, .mv (.tmp 0), none, [], []⟩,
 ⟨some 9, .mv (.tmp 1), none, [], []⟩,
 ⟨some 10, .call true i_slices_IndexFunc_Commit [(.tmp 8), (.tmp 9)], none, [], []⟩,
 ⟨some 5, .mv (.tmp 10), none, [], []⟩])
  (.ghost (.kill [8, 9, 10])))
  (.seq (.seq (.seq (.region false [
 ⟨some 11, .mv (.tmp 5), none, [], []⟩,
 ⟨some 12, .bin .eql (.tmp 11) (.cst (.int .i64 (-1))), none, [], []⟩])
  (.ghost (.kill [11])))
  (.cond (.tmp 12) (.seq (.region false [
      ⟨some 13, .mv (.tmp 0), none, [], []⟩,
      ⟨some 4, .mv (.tmp 13), none, [], []⟩])
    .ret)
  .skip))
  (.seq (.seq (.seq (.region false [
 ⟨some 14, .mv (.tmp 5), none, [], []⟩,
 ⟨some 15, .bin .add (.tmp 14) (.cst (.int .i64 1)), none, [], []⟩,
 ⟨some 6, .mv (.tmp 15), none, [], []⟩])
  (.ghost (.kill [12, 14, 15])))
  (.seq (.block 0 (.loop slices_DeleteFunc_Commit.b0))
  (.ghost (.kill [1, 6, 19]))))
  slices_DeleteFunc_Commit.c0))))
def slices_DeleteFunc_Commit.k0 : List Item := [.inBlock 0, .code (.ghost (.kill [1, 6, 19])), .code slices_DeleteFunc_Commit.c0]
def slices_DeleteFunc_Commit : AFunc := ⟨42, [.tmp 4], slices_DeleteFunc_Commit.main⟩
/-- slices.Clone[[]chapman/api.Commit,chapman/api.Commit] -/
def slices_Clone_Commit.main : ACode := (.seq (.seq (.region false [
 ⟨some 2, .mv (.cst .nils), none, [], []⟩])
  (.ghost (.kill [2])))
  (.seq (.seq (.seq (.region false [
 ⟨some 3, .mv (.tmp 0), none, [], []⟩,
 ⟨some 4, .eqnil false .sl (.tmp 3), none, [], []⟩])
  (.ghost (.kill [3])))
  (.cond (.tmp 4) (.seq (.region false [
      ⟨some 2, .mv (.cst .nils), none, [], []⟩])
    .ret)
  .skip))
  (.seq (.region false [
 ⟨some 5, .bslice 5 0 [(.int .i64 0), (.int .i64 0), .nils, (.int .i64 0), .nils] [], none, [], []⟩,
 ⟨some 6, .mv (.tmp 0), none, [], []⟩,
 ⟨some 7, .append 5 72 (.tmp 5) (.tmp 6), none, [], []⟩,
 ⟨some 2, .mv (.tmp 7), none, [], []⟩])
  .ret)))
def slices_Clone_Commit : AFunc := ⟨8, [.tmp 2], slices_Clone_Commit.main⟩
/-- chapman/escrow.Covered$1 -/
def escrow_Covered_1.main : ACode := (.seq (.seq (.region false [
 ⟨some 2, .box 5 (.tmp 0), none, [], []⟩,
 ⟨some 3, .mv (.cst (.bool false)), none, [], []⟩])
  (.ghost (.kill [0, 3])))
  (.seq (.region false [
 ⟨some 4, .load true 5 (.tmp 1), none, [], []⟩,
 ⟨some 5, .load true 5 (.tmp 2), none, [], []⟩,
 ⟨some 6, .call true i_cut_Sees [(.tmp 4), (.tmp 5)], none, [], []⟩,
 ⟨some 7, .un .not (.tmp 6), none, [], []⟩,
 ⟨some 3, .mv (.tmp 7), none, [], []⟩])
  .ret))
def escrow_Covered_1 : AFunc := ⟨8, [.tmp 3], escrow_Covered_1.main⟩
/-- chapman/cut.Sees -/
def cut_Sees.main : ACode := (.seq (.seq (.region false [
 ⟨some 2, .box 5 (.tmp 0), none, [], []⟩,
 ⟨some 3, .box 5 (.tmp 1), none, [], []⟩,
 ⟨some 4, .mv (.cst (.bool false)), none, [], []⟩])
  (.ghost (.kill [0, 1, 4])))
  (.seq (.region true [
 ⟨some 5, .load true 5 (.tmp 2), none, [], [2]⟩,
 ⟨some 6, .call true i_cut_WellFormed [(.tmp 5)], none, [0], [5]⟩,
 ⟨some 7, .mv (.tmp 6), none, [1, 1], [6]⟩,
 ⟨some 8, .load true 5 (.tmp 3), (some ((some 7), true)), [2], [3]⟩,
 ⟨some 9, .call true i_cut_WellFormed [(.tmp 8)], (some ((some 7), true)), [3, 2, 2], [8]⟩,
 ⟨some 10, .pick (.tmp 7) (.tmp 9) (.cst (.bool false)), none, [2, 4], [7, 9]⟩,
 ⟨some 11, .mv (.tmp 10), none, [5, 4], [10]⟩,
 ⟨some 12, .faddr 0 (.tmp 3), (some ((some 11), true)), [6], [3]⟩,
 ⟨some 13, .faddr 1 (.tmp 12), (some ((some 11), true)), [7, 6], [12]⟩,
 ⟨some 14, .load false 1 (.tmp 13), (some ((some 11), true)), [8, 6], [13]⟩,
 ⟨some 15, .faddr 2 (.tmp 2), (some ((some 11), true)), [6], [2]⟩,
 ⟨some 16, .load false 1 (.tmp 15), (some ((some 11), true)), [10, 6], [15]⟩,
 ⟨some 17, .faddr 0 (.tmp 3), (some ((some 11), true)), [6], [3]⟩,
 ⟨some 18, .faddr 0 (.tmp 17), (some ((some 11), true)), [12, 6], [17]⟩,
 ⟨some 19, .load false 1 (.tmp 18), (some ((some 11), true)), [13, 6], [18]⟩,
 ⟨some 20, .iaddr 1 (.tmp 16) (.tmp 19), (some ((some 11), true)), [11, 14, 6], [16, 19]⟩,
 ⟨some 21, .load false 1 (.tmp 20), (some ((some 11), true)), [15, 6], [20]⟩,
 ⟨some 22, .bin .leq (.tmp 14) (.tmp 21), (some ((some 11), true)), [9, 16, 6], [14, 21]⟩,
 ⟨some 23, .pick (.tmp 11) (.tmp 22) (.cst (.bool false)), none, [6, 17], [11, 22]⟩,
 ⟨some 4, .mv (.tmp 23), none, [18, 6, 0, 1, 2, 3, 4, 5, 6, 7, 8, 9, 10, 11, 12, 13, 14, 15, 16, 17, 18], [23]⟩])
  .ret))
def cut_Sees : AFunc := ⟨24, [.tmp 4], cut_Sees.main⟩
/-- slices.SortStableFunc[[]chapman/api.Commit,chapman/api.Commit] -/
def slices_SortStableFunc_Commit.main : ACode := (.seq (.region false [
 ⟨some 4, .mv (.tmp 0), none, [], []⟩,
 ⟨some 5, .mv (.tmp 0), none, [], []⟩,
 ⟨some 6, .len .sl (.tmp 5), none, [], []⟩,
 ⟨some 7, .mv (.tmp 1), none, [], []⟩,
 ⟨some 8, .call false i_slices_stableCmpFunc_Commit [(.tmp 4), (.tmp 6), (.tmp 7)], none, [], []⟩])
  (.ghost (.kill [0, 1, 4, 5, 6, 7, 8])))
def slices_SortStableFunc_Commit : AFunc := ⟨9, [], slices_SortStableFunc_Commit.main⟩
/-- chapman/escrow.Covered$2 -/
def escrow_Covered_2.main : ACode := (.seq (.seq (.region false [
 ⟨some 2, .box 5 (.tmp 0), none, [], []⟩,
 ⟨some 3, .box 5 (.tmp 1), none, [], []⟩,
 ⟨some 4, .mv (.cst (.int .i64 0)), none, [], []⟩])
  (.ghost (.kill [0, 1, 4])))
  (.seq (.seq (.block 0 (.seq (.seq (.region false [
 ⟨some 6, .load true 5 (.tmp 2), none, [], []⟩,
 ⟨some 7, .load true 5 (.tmp 3), none, [], []⟩,
 ⟨some 8, .call true i_cut_Before [(.tmp 6), (.tmp 7)], none, [], []⟩,
 ⟨some 5, .mv (.tmp 8), none, [], []⟩])
  (.ghost (.kill [6, 7, 8])))
  (.cond (.tmp 5) (.seq (.region false [
      ⟨some 4, .mv (.cst (.int .i64 (-1))), none, [], []⟩])
    .ret)
  (.seq (.seq (.region false [
      ⟨some 10, .load true 5 (.tmp 3), none, [], []⟩,
      ⟨some 11, .load true 5 (.tmp 2), none, [], []⟩,
      ⟨some 12, .call true i_cut_Before [(.tmp 10), (.tmp 11)], none, [], []⟩,
      ⟨some 9, .mv (.tmp 12), none, [], []⟩])
    (.ghost (.kill [2, 3, 5, 10, 11, 12])))
    (.cond (.tmp 9) (.seq (.region false [
        ⟨some 4, .mv (.cst (.int .i64 1)), none, [], []⟩])
      .ret)
    .skip)))))
  (.ghost (.kill [9])))
  (.seq (.region false [
 ⟨some 4, .mv (.cst (.int .i64 0)), none, [], []⟩])
  .ret)))
def escrow_Covered_2 : AFunc := ⟨13, [.tmp 4], escrow_Covered_2.main⟩
/-- chapman/cut.Before -/
def cut_Before.main : ACode := (.seq (.seq (.region false [
 ⟨some 2, .box 5 (.tmp 0), none, [], []⟩,
 ⟨some 3, .box 5 (.tmp 1), none, [], []⟩,
 ⟨some 4, .mv (.cst (.bool false)), none, [], []⟩])
  (.ghost (.kill [0, 1, 4])))
  (.seq (.region false [
 ⟨some 5, .load true 5 (.tmp 2), none, [], []⟩,
 ⟨some 6, .call true i_cut_WellFormed [(.tmp 5)], none, [], []⟩,
 ⟨some 7, .mv (.tmp 6), none, [], []⟩,
 ⟨some 8, .load true 5 (.tmp 3), (some ((some 7), true)), [], []⟩,
 ⟨some 9, .call true i_cut_WellFormed [(.tmp 8)], (some ((some 7), true)), [], []⟩,
 ⟨some 10, .pick (.tmp 7) (.tmp 9) (.cst (.bool false)), none, [], []⟩,
 ⟨some 11, .mv (.tmp 10), none, [], []⟩,
 ⟨some 12, .load true 5 (.tmp 2), (some ((some 11), true)), [], []⟩,
 ⟨some 13, .load true 5 (.tmp 3), (some ((some 11), true)), [], []⟩,
 ⟨some 14, .call true i_cut_compare [(.tmp 12), (.tmp 13)], (some ((some 11), true)), [], []⟩,
 ⟨some 15, .bin .lss (.tmp 14) (.cst (.int .i64 0)), (some ((some 11), true)), [], []⟩,
 ⟨some 16, .pick (.tmp 11) (.tmp 15) (.cst (.bool false)), none, [], []⟩,
 ⟨some 4, .mv (.tmp 16), none, [], []⟩])
  .ret))
def cut_Before : AFunc := ⟨17, [.tmp 4], cut_Before.main⟩
/-- chapman/chapmanref20.GreatestIn -/
def r20_GreatestIn.c0 : ACode := (.seq (.region false [
 ⟨some 31, .mv (.tmp 5), none, [], []⟩,
 ⟨some 32, .build [.nils, (.int .i64 0)] [(0, 1, (.tmp 31))], none, [], []⟩,
 ⟨none, .store 2 (.tmp 4) (.tmp 32), none, [], []⟩])
  .ret)
def r20_GreatestIn.b1 : ACode := (.seq (.seq (.seq (.region false [
 ⟨some 18, .mv (.tmp 6), none, [], []⟩,
 ⟨some 19, .mv (.tmp 5), none, [], []⟩,
 ⟨some 20, .len .sl (.tmp 19), none, [], []⟩,
 ⟨some 21, .bin .lss (.tmp 18) (.tmp 20), none, [], []⟩])
  (.ghost (.kill [18, 19, 20])))
  (.cond (.tmp 21) .skip
  (.exit 2)))
  (.seq (.block 3 (.seq (.region false [
 ⟨some 24, .mv (.tmp 5), none, [], []⟩,
 ⟨some 25, .mv (.tmp 6), none, [], []⟩,
 ⟨some 26, .mv (.tmp 0), none, [], []⟩,
 ⟨some 27, .mv (.tmp 5), none, [], []⟩,
 ⟨some 28, .mv (.tmp 6), none, [], []⟩,
 ⟨some 29, .call true i_r20_fits [(.tmp 26), (.tmp 27), (.tmp 28)], none, [], []⟩,
 ⟨some 30, .iaddr 1 (.tmp 24) (.tmp 25), none, [], []⟩,
 ⟨none, .store 1 (.tmp 30) (.tmp 29), none, [], []⟩])
  (.ghost (.kill [21, 24, 25, 26, 27, 28, 29, 30]))))
  (.seq (.region false [
 ⟨some 22, .mv (.tmp 6), none, [], []⟩,
 ⟨some 23, .bin .add (.tmp 22) (.cst (.int .i64 1)), none, [], []⟩,
 ⟨some 6, .mv (.tmp 23), none, [], []⟩])
  (.ghost (.kill [22, 23])))))
def r20_GreatestIn.b0 : ACode := (.seq (.seq (.seq (.region false [
 ⟨some 14, .mv (.tmp 0), none, [], []⟩,
 ⟨some 15, .mv (.tmp 5), none, [], []⟩,
 ⟨some 16, .call true i_r20_Closed [(.tmp 14), (.tmp 15)], none, [], []⟩,
 ⟨some 17, .un .not (.tmp 16), none, [], []⟩])
  (.ghost (.kill [14, 15, 16])))
  (.cond (.tmp 17) .skip
  (.exit 0)))
  (.block 1 (.seq (.seq (.region false [
 ⟨some 6, .mv (.cst (.int .i64 0)), none, [], []⟩])
  (.ghost (.kill [17])))
  (.seq (.block 2 (.loop r20_GreatestIn.b1))
  (.ghost (.kill [6, 21]))))))
def r20_GreatestIn.main : ACode := (.seq (.region false [
 ⟨some 4, .alloc [.nils, (.int .i64 0)], none, [], []⟩])
  (.seq (.seq (.seq (.region false [
 ⟨some 7, .mv (.tmp 1), none, [], []⟩,
 ⟨some 8, .call true i_r20_Valid [(.tmp 7)], none, [], []⟩,
 ⟨some 9, .un .not (.tmp 8), none, [], []⟩])
  (.ghost (.kill [7, 8])))
  (.cond (.tmp 9) (.seq (.region false [
      ⟨some 10, .build [.nils, (.int .i64 0)] [(1, 1, (.cst (.int .i64 200)))], none, [], []⟩,
      ⟨none, .store 2 (.tmp 4) (.tmp 10), none, [], []⟩])
    .ret)
  .skip))
  (.seq (.seq (.region false [
 ⟨some 11, .bslice 1 0 [(.int .i64 0)] [], none, [], []⟩,
 ⟨some 12, .mv (.tmp 1), none, [], []⟩,
 ⟨some 13, .append 1 8 (.tmp 11) (.tmp 12), none, [], []⟩,
 ⟨some 5, .mv (.tmp 13), none, [], []⟩])
  (.ghost (.kill [1, 9, 11, 12, 13])))
  (.seq (.seq (.block 0 (.loop r20_GreatestIn.b0))
  (.ghost (.kill [0, 17])))
  r20_GreatestIn.c0))))
def r20_GreatestIn.k1 : List Item := [.inBlock 2, .code (.ghost (.kill [6, 21])), .inBlock 1, .inLoop r20_GreatestIn.b0, .inBlock 0, .code (.ghost (.kill [0, 17])), .code r20_GreatestIn.c0]
def r20_GreatestIn.k0 : List Item := [.inBlock 0, .code (.ghost (.kill [0, 17])), .code r20_GreatestIn.c0]
def r20_GreatestIn : AFunc := ⟨33, [.cell 4 true 2], r20_GreatestIn.main⟩
/-- chapman/chapmanref20.All -/
def r20_All.c0 : ACode := (.seq (.region false [
 ⟨some 11, .mv (.tmp 1), none, [], []⟩,
 ⟨some 0, .mv (.tmp 11), none, [], []⟩])
  .ret)
def r20_All.b0 : ACode := (.seq (.seq (.seq (.region false [
 ⟨some 4, .mv (.tmp 2), none, [], []⟩,
 ⟨some 5, .bin .lss (.tmp 4) (.cst (.int .i64 6)), none, [], []⟩])
  (.ghost (.kill [4])))
  (.cond (.tmp 5) .skip
  (.exit 0)))
  (.seq (.trunc (.block 1 (.seq (.region false [
 ⟨some 8, .mv (.tmp 1), none, [], []⟩,
 ⟨some 9, .bslice 1 1 [(.int .i64 0)] [(0, (.cst (.int .i64 999)))], none, [], []⟩,
 ⟨some 10, .append 1 8 (.tmp 8) (.tmp 9), none, [], []⟩,
 ⟨some 1, .mv (.tmp 10), none, [], []⟩])
  (.ghost (.kill [5, 8, 9, 10])))))
  (.seq (.region false [
 ⟨some 6, .mv (.tmp 2), none, [], []⟩,
 ⟨some 7, .bin .add (.tmp 6) (.cst (.int .i64 1)), none, [], []⟩,
 ⟨some 2, .mv (.tmp 7), none, [], []⟩])
  (.ghost (.kill [6, 7])))))
def r20_All.main : ACode := (.seq (.seq (.region false [
 ⟨some 0, .mv (.cst .nils), none, [], []⟩])
  (.ghost (.kill [0])))
  (.seq (.seq (.region false [
 ⟨some 3, .bslice 1 0 [(.int .i64 0)] [], none, [], []⟩,
 ⟨some 1, .mv (.tmp 3), none, [], []⟩])
  (.ghost (.kill [3])))
  (.seq (.seq (.region false [
 ⟨some 2, .mv (.cst (.int .i64 0)), none, [], []⟩])
  (.seq (.block 0 (.loop r20_All.b0))
  (.ghost (.kill [2, 5]))))
  r20_All.c0)))
def r20_All.k0 : List Item := [.inBlock 0, .code (.ghost (.kill [2, 5])), .code r20_All.c0]
def r20_All : AFunc := ⟨12, [.tmp 0], r20_All.main⟩
/-- chapman/chapmanref20.Limit -/
def r20_Limit.c0 : ACode := (.seq (.region false [
 ⟨some 27, .mv (.tmp 3), none, [], []⟩,
 ⟨some 2, .mv (.tmp 27), none, [], []⟩])
  .ret)
def r20_Limit.b0 : ACode := (.seq (.seq (.seq (.region false [
 ⟨some 6, .mv (.tmp 4), none, [], []⟩,
 ⟨some 7, .mv (.tmp 3), none, [], []⟩,
 ⟨some 8, .len .sl (.tmp 7), none, [], []⟩,
 ⟨some 9, .bin .lss (.tmp 6) (.tmp 8), none, [], []⟩,
 ⟨some 10, .mv (.tmp 9), none, [], []⟩,
 ⟨some 11, .mv (.tmp 4), (some ((some 10), true)), [], []⟩,
 ⟨some 12, .mv (.tmp 0), (some ((some 10), true)), [], []⟩,
 ⟨some 13, .len .sl (.tmp 12), (some ((some 10), true)), [], []⟩,
 ⟨some 14, .bin .lss (.tmp 11) (.tmp 13), (some ((some 10), true)), [], []⟩,
 ⟨some 15, .pick (.tmp 10) (.tmp 14) (.cst (.bool false)), none, [], []⟩])
  (.ghost (.kill [6, 7, 8, 9, 10, 11, 12, 13, 14])))
  (.cond (.tmp 15) .skip
  (.exit 0)))
  (.seq (.block 1 (.seq (.region false [
 ⟨some 18, .mv (.tmp 3), none, [], []⟩,
 ⟨some 19, .mv (.tmp 4), none, [], []⟩,
 ⟨some 20, .mv (.tmp 0), none, [], []⟩,
 ⟨some 21, .mv (.tmp 4), none, [], []⟩,
 ⟨some 22, .iaddr 1 (.tmp 20) (.tmp 21), none, [], []⟩,
 ⟨some 23, .load false 1 (.tmp 22), none, [], []⟩,
 ⟨some 24, .bin .rem (.tmp 23) (.cst (.int .u8 6)), none, [], []⟩,
 ⟨some 25, .conv .i64 (.tmp 24), none, [], []⟩,
 ⟨some 26, .iaddr 1 (.tmp 18) (.tmp 19), none, [], []⟩,
 ⟨none, .store 1 (.tmp 26) (.tmp 25), none, [], []⟩])
  (.ghost (.kill [15, 18, 19, 20, 21, 22, 23, 24, 25, 26]))))
  (.seq (.region false [
 ⟨some 16, .mv (.tmp 4), none, [], []⟩,
 ⟨some 17, .bin .add (.tmp 16) (.cst (.int .i64 1)), none, [], []⟩,
 ⟨some 4, .mv (.tmp 17), none, [], []⟩])
  (.ghost (.kill [16, 17])))))
def r20_Limit.main : ACode := (.seq (.seq (.region false [
 ⟨some 2, .mv (.cst .nils), none, [], []⟩])
  (.ghost (.kill [2])))
  (.seq (.seq (.region false [
 ⟨some 5, .call false i_r20_Zero [], none, [], []⟩,
 ⟨some 3, .mv (.tmp 5), none, [], []⟩])
  (.ghost (.kill [5])))
  (.seq (.seq (.region false [
 ⟨some 4, .mv (.cst (.int .i64 0)), none, [], []⟩])
  (.seq (.block 0 (.loop r20_Limit.b0))
  (.ghost (.kill [0, 4, 15]))))
  r20_Limit.c0)))
def r20_Limit.k0 : List Item := [.inBlock 0, .code (.ghost (.kill [0, 4, 15])), .code r20_Limit.c0]
def r20_Limit : AFunc := ⟨28, [.tmp 2], r20_Limit.main⟩
/-- chapman/cut.Closed -/
def cut_Closed.main : ACode := (.seq (.seq (.region false [
 ⟨some 4, .mv (.cst (.bool false)), none, [], []⟩])
  (.ghost (.kill [4])))
  (.seq (.seq (.seq (.region false [
 ⟨some 6, .mv (.tmp 1), none, [], []⟩,
 ⟨some 7, .call true i_cut_Valid [(.tmp 6)], none, [], []⟩,
 ⟨some 8, .un .not (.tmp 7), none, [], []⟩])
  (.ghost (.kill [6, 7])))
  (.cond (.tmp 8) (.seq (.region false [
      ⟨some 4, .mv (.cst (.bool false)), none, [], []⟩])
    .ret)
  .skip))
  (.seq (.seq (.region false [
 ⟨some 9, .mv (.tmp 1), none, [], []⟩,
 ⟨some 10, .call false i_slices_Clone_int [(.tmp 9)], none, [], []⟩,
 ⟨some 5, .mv (.tmp 10), none, [], []⟩])
  (.ghost (.kill [8, 9, 10])))
  (.seq (.seq (.region false [
 ⟨some 11, .mv (.tmp 0), none, [], []⟩,
 ⟨some 12, .mv (.tmp 5), none, [], []⟩,
 ⟨some 13, .call false i_cut_reach [(.tmp 11), (.tmp 12)], none, [], []⟩])
  (.ghost (.kill [0, 11, 12, 13])))
  (.seq (.region false [
 ⟨some 14, .mv (.tmp 5), none, [], []⟩,
 ⟨some 15, .mv (.tmp 1), none, [], []⟩,
 ⟨some 16, .call true i_slices_Equal_int [(.tmp 14), (.tmp 15)], none, [], []⟩,
 ⟨some 4, .mv (.tmp 16), none, [], []⟩])
  .ret)))))
def cut_Closed : AFunc := ⟨17, [.tmp 4], cut_Closed.main⟩
/-- chapman/cut.indices -/
def cut_indices.c0 : ACode := (.seq (.region false [
 ⟨some 30, .mv (.tmp 3), none, [], []⟩,
 ⟨some 2, .mv (.tmp 30), none, [], []⟩])
  .ret)
def cut_indices.c1 : ACode := (.ghost (.kill [9, 10, 11, 12]))
def cut_indices.c2 : ACode := (.seq (.region false [
 ⟨some 29, .bin .add (.tmp 11) (.cst (.int .i64 1)), none, [], []⟩,
 ⟨some 11, .mv (.tmp 29), none, [], []⟩])
  (.ghost (.kill [29])))
def cut_indices.b0 : ACode := (.seq (.region false [
 ⟨some 12, .bin .lss (.tmp 11) (.tmp 10), none, [], []⟩])
  (.seq (.cond (.tmp 12) .skip
  (.exit 0))
  (.seq (.trunc (.block 1 (.seq (.seq (.region false [
 ⟨some 13, .mv (.tmp 11), none, [], []⟩,
 ⟨some 14, .iaddr 5 (.tmp 9) (.tmp 11), none, [], []⟩,
 ⟨some 15, .load true 5 (.tmp 14), none, [], []⟩,
 ⟨some 5, .alloc [(.int .i64 0), (.int .i64 0), .nils, (.int .i64 0), .nils], none, [], []⟩,
 ⟨some 4, .mv (.tmp 13), none, [], []⟩,
 ⟨none, .store 5 (.tmp 5) (.tmp 15), none, [], []⟩])
  (.ghost (.kill [12, 13, 14, 15])))
  (.seq (.seq (.region false [
 ⟨some 17, .mv (.tmp 3), none, [], []⟩,
 ⟨some 18, .faddr 0 (.tmp 5), none, [], []⟩,
 ⟨some 19, .load true 2 (.tmp 18), none, [], []⟩,
 ⟨some 20, .lookup (.row [(0, 1, false, (.int .i64)), (1, 1, false, (.int .i64))]) (.int .i64 0) true (.tmp 17) (.tmp 19), none, [], []⟩,
 ⟨some 16, .mv (.tmp 20), none, [], []⟩,
 ⟨some 21, .extr (.tmp 16) 0, none, [], []⟩,
 ⟨some 22, .extr (.tmp 16) 1, none, [], []⟩,
 ⟨some 6, .mv (.tmp 21), none, [], []⟩,
 ⟨some 7, .mv (.tmp 22), none, [], []⟩])
  (.ghost (.kill [6, 16, 17, 18, 19, 20, 21, 22])))
  (.seq (.seq (.region false [
 ⟨some 23, .mv (.tmp 7), none, [], []⟩,
 ⟨some 24, .un .not (.tmp 23), none, [], []⟩])
  (.ghost (.kill [7, 23])))
  (.seq (.cond (.tmp 24) (.seq (.region false [
      ⟨some 25, .mv (.tmp 3), none, [], []⟩,
      ⟨some 26, .faddr 0 (.tmp 5), none, [], []⟩,
      ⟨some 27, .load true 2 (.tmp 26), none, [], []⟩,
      ⟨some 28, .mv (.tmp 4), none, [], []⟩,
      ⟨none, .mapup (.row [(0, 1, false, (.int .i64)), (1, 1, false, (.int .i64))]) (.tmp 25) (.tmp 27) (.tmp 28), none, [], []⟩])
    (.ghost (.kill [4, 5, 24, 25, 26, 27, 28])))
  .skip)
  (.ghost (.kill [4, 5, 24]))))))))
  cut_indices.c2)))
def cut_indices.main : ACode := (.seq (.seq (.region false [
 ⟨some 2, .mv (.cst .nilm), none, [], []⟩])
  (.ghost (.kill [2])))
  (.seq (.seq (.region false [
 ⟨some 8, .mkmap, none, [], []⟩,
 ⟨some 3, .mv (.tmp 8), none, [], []⟩])
  (.ghost (.kill [8])))
  (.seq (.seq (.seq (.region false [
 ⟨some 9, .mv (.tmp 0), none, [], []⟩,
 ⟨some 10, .len .sl (.tmp 9), none, [], []⟩,
 ⟨some 11, .mv (.cst (.int .i64 0)), none, [], []⟩])
  (.ghost (.kill [0])))
  (.seq (.block 0 (.loop cut_indices.b0))
  cut_indices.c1))
  cut_indices.c0)))
def cut_indices.k0 : List Item := [.inBlock 0, .code cut_indices.c1, .code cut_indices.c0]
def cut_indices : AFunc := ⟨31, [.tmp 2], cut_indices.main⟩
/-- slices.SortFunc[[]int,int] -/
def slices_SortFunc_int.main : ACode := (.seq (.seq (.region false [
 ⟨some 5, .mv (.tmp 0), none, [], []⟩,
 ⟨some 6, .len .sl (.tmp 5), none, [], []⟩,
 ⟨some 4, .mv (.tmp 6), none, [], []⟩])
  (.ghost (.kill [5, 6])))
  (.seq (.region false [
 ⟨some 7, .mv (.tmp 0), none, [], []⟩,
 ⟨some 8, .mv (.tmp 4), none, [], []⟩,
 ⟨some 9, .mv (.tmp 4), none, [], []⟩,
 ⟨some 10, .conv .u64 (.tmp 9), none, [], []⟩,
 ⟨some 11, .call true i_bits_Len [(.tmp 10)], none, [], []⟩,
 ⟨some 12, .mv (.tmp 1), none, [], []⟩,
 ⟨some 13, .call false i_slices_pdqsortCmpFunc_int [(.tmp 7), (.cst (.int .i64 0)), (.tmp 8), (.tmp 11), (.tmp 12)], none, [], []⟩])
  (.ghost (.kill [0, 1, 4, 7, 8, 9, 10, 11, 12, 13]))))
def slices_SortFunc_int : AFunc := ⟨14, [], slices_SortFunc_int.main⟩
/-- chapman/cut.Order$1 -/
def cut_Order_1.main : ACode := (.seq (.seq (.region false [
 ⟨some 5, .mv (.cst (.int .i64 0)), none, [], []⟩])
  (.ghost (.kill [5])))
  (.seq (.region true [
 ⟨some 6, .load false 1 (.tmp 2), none, [], [2]⟩,
 ⟨some 7, .mv (.tmp 0), none, [], [0]⟩,
 ⟨some 8, .iaddr 5 (.tmp 6) (.tmp 7), none, [0, 1], [6, 7]⟩,
 ⟨some 9, .load true 5 (.tmp 8), none, [2], [8]⟩,
 ⟨some 10, .load false 1 (.tmp 2), none, [], [2]⟩,
 ⟨some 11, .mv (.tmp 1), none, [], [1]⟩,
 ⟨some 12, .iaddr 5 (.tmp 10) (.tmp 11), none, [4, 5], [10, 11]⟩,
 ⟨some 13, .load true 5 (.tmp 12), none, [6], [12]⟩,
 ⟨some 14, .call true i_cut_compare [(.tmp 9), (.tmp 13)], none, [3, 7], [9, 13]⟩,
 ⟨some 5, .mv (.tmp 14), none, [8, 8, 0, 1, 2, 3, 4, 5, 6, 7, 8], [14]⟩])
  .ret))
def cut_Order_1 : AFunc := ⟨15, [.tmp 5], cut_Order_1.main⟩
/-- chapman/cut.compare -/
def cut_compare.main : ACode := (.seq (.seq (.region false [
 ⟨some 2, .box 5 (.tmp 0), none, [], []⟩,
 ⟨some 3, .box 5 (.tmp 1), none, [], []⟩,
 ⟨some 4, .mv (.cst (.int .i64 0)), none, [], []⟩])
  (.ghost (.kill [0, 1, 4])))
  (.seq (.region true [
 ⟨some 5, .load true 5 (.tmp 2), none, [], [2]⟩,
 ⟨some 6, .call true i_cut_weight [(.tmp 5)], none, [0], [5]⟩,
 ⟨some 7, .load true 5 (.tmp 3), none, [], [3]⟩,
 ⟨some 8, .call true i_cut_weight [(.tmp 7)], none, [2, 1], [7]⟩,
 ⟨some 9, .call true i_cmp_Compare_int [(.tmp 6), (.tmp 8)], none, [1, 3, 3], [6, 8]⟩,
 ⟨some 10, .faddr 0 (.tmp 2), none, [], [2]⟩,
 ⟨some 11, .faddr 0 (.tmp 10), none, [5], [10]⟩,
 ⟨some 12, .load false 1 (.tmp 11), none, [6], [11]⟩,
 ⟨some 13, .faddr 0 (.tmp 3), none, [], [3]⟩,
 ⟨some 14, .faddr 0 (.tmp 13), none, [8], [13]⟩,
 ⟨some 15, .load false 1 (.tmp 14), none, [9], [14]⟩,
 ⟨some 16, .call true i_cmp_Compare_int [(.tmp 12), (.tmp 15)], none, [7, 10, 4], [12, 15]⟩,
 ⟨some 17, .faddr 0 (.tmp 2), none, [], [2]⟩,
 ⟨some 18, .faddr 1 (.tmp 17), none, [12], [17]⟩,
 ⟨some 19, .load false 1 (.tmp 18), none, [13], [18]⟩,
 ⟨some 20, .faddr 0 (.tmp 3), none, [], [3]⟩,
 ⟨some 21, .faddr 1 (.tmp 20), none, [15], [20]⟩,
 ⟨some 22, .load false 1 (.tmp 21), none, [16], [21]⟩,
 ⟨some 23, .call true i_cmp_Compare_int [(.tmp 19), (.tmp 22)], none, [14, 17, 11], [19, 22]⟩,
 ⟨some 24, .bslice 1 3 [(.int .i64 0)] [(0, (.tmp 9)), (1, (.tmp 16)), (2, (.tmp 23))], none, [4, 11, 18], [9, 16, 23]⟩,
 ⟨some 25, .call true i_cmp_Or_int [(.tmp 24)], none, [19, 18], [24]⟩,
 ⟨some 4, .mv (.tmp 25), none, [20, 20, 0, 1, 2, 3, 4, 5, 6, 7, 8, 9, 10, 11, 12, 13, 14, 15, 16, 17, 18, 19, 20], [25]⟩])
  .ret))
def cut_compare : AFunc := ⟨26, [.tmp 4], cut_compare.main⟩
/-- chapman/cut.Valid -/
def cut_Valid.main : ACode := (.seq (.seq (.region false [
 ⟨some 2, .mv (.cst (.bool false)), none, [], []⟩])
  (.ghost (.kill [2])))
  (.seq (.region false [
 ⟨some 3, .mv (.tmp 0), none, [], []⟩,
 ⟨some 4, .len .sl (.tmp 3), none, [], []⟩,
 ⟨some 5, .bin .eql (.tmp 4) (.cst (.int .i64 6)), none, [], []⟩,
 ⟨some 6, .mv (.tmp 5), none, [], []⟩,
 ⟨some 7, .mv (.tmp 0), (some ((some 6), true)), [], []⟩,
 ⟨some 8, .call true i_slices_ContainsFunc_int [(.tmp 7), (.cst (.clo (.func i_cut_Valid_1) [] []))], (some ((some 6), true)), [], []⟩,
 ⟨some 9, .un .not (.tmp 8), (some ((some 6), true)), [], []⟩,
 ⟨some 10, .pick (.tmp 6) (.tmp 9) (.cst (.bool false)), none, [], []⟩,
 ⟨some 2, .mv (.tmp 10), none, [], []⟩])
  .ret))
def cut_Valid : AFunc := ⟨11, [.tmp 2], cut_Valid.main⟩
/-- chapman/chapmanref20.Sees -/
def r20_Sees.main : ACode := (.seq (.seq (.region false [
 ⟨some 2, .box 5 (.tmp 0), none, [], []⟩,
 ⟨some 3, .box 5 (.tmp 1), none, [], []⟩,
 ⟨some 4, .mv (.cst (.bool false)), none, [], []⟩])
  (.ghost (.kill [0, 1, 4])))
  (.seq (.region true [
 ⟨some 5, .load true 5 (.tmp 2), none, [], [2]⟩,
 ⟨some 6, .call true i_r20_WellFormed [(.tmp 5)], none, [0], [5]⟩,
 ⟨some 7, .mv (.tmp 6), none, [1, 1], [6]⟩,
 ⟨some 8, .load true 5 (.tmp 3), (some ((some 7), true)), [2], [3]⟩,
 ⟨some 9, .call true i_r20_WellFormed [(.tmp 8)], (some ((some 7), true)), [3, 2, 2], [8]⟩,
 ⟨some 10, .pick (.tmp 7) (.tmp 9) (.cst (.bool false)), none, [2, 4], [7, 9]⟩,
 ⟨some 11, .mv (.tmp 10), none, [5, 4], [10]⟩,
 ⟨some 12, .faddr 0 (.tmp 3), (some ((some 11), true)), [6], [3]⟩,
 ⟨some 13, .faddr 1 (.tmp 12), (some ((some 11), true)), [7, 6], [12]⟩,
 ⟨some 14, .load false 1 (.tmp 13), (some ((some 11), true)), [8, 6], [13]⟩,
 ⟨some 15, .faddr 2 (.tmp 2), (some ((some 11), true)), [6], [2]⟩,
 ⟨some 16, .load false 1 (.tmp 15), (some ((some 11), true)), [10, 6], [15]⟩,
 ⟨some 17, .faddr 0 (.tmp 3), (some ((some 11), true)), [6], [3]⟩,
 ⟨some 18, .faddr 0 (.tmp 17), (some ((some 11), true)), [12, 6], [17]⟩,
 ⟨some 19, .load false 1 (.tmp 18), (some ((some 11), true)), [13, 6], [18]⟩,
 ⟨some 20, .iaddr 1 (.tmp 16) (.tmp 19), (some ((some 11), true)), [11, 14, 6], [16, 19]⟩,
 ⟨some 21, .load false 1 (.tmp 20), (some ((some 11), true)), [15, 6], [20]⟩,
 ⟨some 22, .bin .leq (.tmp 14) (.tmp 21), (some ((some 11), true)), [9, 16, 6], [14, 21]⟩,
 ⟨some 23, .pick (.tmp 11) (.tmp 22) (.cst (.bool false)), none, [6, 17], [11, 22]⟩,
 ⟨some 4, .mv (.tmp 23), none, [18, 6, 0, 1, 2, 3, 4, 5, 6, 7, 8, 9, 10, 11, 12, 13, 14, 15, 16, 17, 18], [23]⟩])
  .ret))
def r20_Sees : AFunc := ⟨24, [.tmp 4], r20_Sees.main⟩
/-- chapman/chapmanref20.Valid -/
def r20_Valid.c0 : ACode := (.seq (.region false [
 ⟨some 2, .mv (.cst (.bool true)), none, [], []⟩])
  .ret)
def r20_Valid.b0 : ACode := (.seq (.seq (.seq (.region false [
 ⟨some 7, .mv (.tmp 3), none, [], []⟩,
 ⟨some 8, .mv (.tmp 0), none, [], []⟩,
 ⟨some 9, .len .sl (.tmp 8), none, [], []⟩,
 ⟨some 10, .bin .lss (.tmp 7) (.tmp 9), none, [], []⟩])
  (.ghost (.kill [7, 8, 9])))
  (.cond (.tmp 10) .skip
  (.exit 0)))
  (.seq (.seq (.block 1 (.seq (.seq (.region false [
 ⟨some 13, .mv (.tmp 0), none, [], []⟩,
 ⟨some 14, .mv (.tmp 3), none, [], []⟩,
 ⟨some 15, .iaddr 1 (.tmp 13) (.tmp 14), none, [], []⟩,
 ⟨some 16, .load false 1 (.tmp 15), none, [], []⟩,
 ⟨some 17, .bin .lss (.tmp 16) (.cst (.int .i64 0)), none, [], []⟩,
 ⟨some 18, .mv (.tmp 17), none, [], []⟩,
 ⟨some 19, .mv (.tmp 0), (some ((some 18), false)), [], []⟩,
 ⟨some 20, .mv (.tmp 3), (some ((some 18), false)), [], []⟩,
 ⟨some 21, .iaddr 1 (.tmp 19) (.tmp 20), (some ((some 18), false)), [], []⟩,
 ⟨some 22, .load false 1 (.tmp 21), (some ((some 18), false)), [], []⟩,
 ⟨some 23, .bin .gtr (.tmp 22) (.cst (.int .i64 999)), (some ((some 18), false)), [], []⟩,
 ⟨some 24, .pick (.tmp 18) (.cst (.bool true)) (.tmp 23), none, [], []⟩])
  (.ghost (.kill [10, 13, 14, 15, 16, 17, 18, 19, 20, 21, 22, 23])))
  (.cond (.tmp 24) (.seq (.region false [
      ⟨some 2, .mv (.cst (.bool false)), none, [], []⟩])
    .ret)
  .skip)))
  (.ghost (.kill [24])))
  (.seq (.region false [
 ⟨some 11, .mv (.tmp 3), none, [], []⟩,
 ⟨some 12, .bin .add (.tmp 11) (.cst (.int .i64 1)), none, [], []⟩,
 ⟨some 3, .mv (.tmp 12), none, [], []⟩])
  (.ghost (.kill [11, 12])))))
def r20_Valid.main : ACode := (.seq (.seq (.region false [
 ⟨some 2, .mv (.cst (.bool false)), none, [], []⟩])
  (.ghost (.kill [2])))
  (.seq (.seq (.seq (.region false [
 ⟨some 4, .mv (.tmp 0), none, [], []⟩,
 ⟨some 5, .len .sl (.tmp 4), none, [], []⟩,
 ⟨some 6, .bin .neq (.tmp 5) (.cst (.int .i64 6)), none, [], []⟩])
  (.ghost (.kill [4, 5])))
  (.cond (.tmp 6) (.seq (.region false [
      ⟨some 2, .mv (.cst (.bool false)), none, [], []⟩])
    .ret)
  .skip))
  (.seq (.seq (.seq (.region false [
 ⟨some 3, .mv (.cst (.int .i64 0)), none, [], []⟩])
  (.ghost (.kill [6])))
  (.seq (.block 0 (.loop r20_Valid.b0))
  (.ghost (.kill [0, 3, 10]))))
  r20_Valid.c0)))
def r20_Valid.k0 : List Item := [.inBlock 0, .code (.ghost (.kill [0, 3, 10])), .code r20_Valid.c0]
def r20_Valid : AFunc := ⟨25, [.tmp 2], r20_Valid.main⟩
/-- chapman/escrow.station -/
def escrow_station.main : ACode := (.seq (.seq (.region false [
 ⟨some 2, .mv (.cst (.bool false)), none, [], []⟩])
  (.ghost (.kill [2])))
  (.seq (.region false [
 ⟨some 3, .mv (.tmp 0), none, [], []⟩,
 ⟨some 4, .bin .geq (.tmp 3) (.cst (.int .i64 0)), none, [], []⟩,
 ⟨some 5, .mv (.tmp 4), none, [], []⟩,
 ⟨some 6, .mv (.tmp 0), (some ((some 5), true)), [], []⟩,
 ⟨some 7, .bin .lss (.tmp 6) (.cst (.int .i64 6)), (some ((some 5), true)), [], []⟩,
 ⟨some 8, .pick (.tmp 5) (.tmp 7) (.cst (.bool false)), none, [], []⟩,
 ⟨some 2, .mv (.tmp 8), none, [], []⟩])
  .ret))
def escrow_station : AFunc := ⟨9, [.tmp 2], escrow_station.main⟩
/-- chapman/escrow.try -/
def escrow_try.main : ACode := (.seq (.seq (.region false [
 ⟨some 4, .mv (.cst .nils), none, [], []⟩,
 ⟨some 5, .mv (.cst (.int .i64 0)), none, [], []⟩])
  (.ghost (.kill [4, 5])))
  (.seq (.seq (.seq (.region false [
 ⟨some 7, .mv (.tmp 0), none, [], []⟩,
 ⟨some 8, .call true i_escrow_Valid [(.tmp 7)], none, [], []⟩,
 ⟨some 9, .un .not (.tmp 8), none, [], []⟩])
  (.ghost (.kill [7, 8])))
  (.cond (.tmp 9) (.seq (.region false [
      ⟨some 4, .mv (.cst .nils), none, [], []⟩,
      ⟨some 5, .mv (.cst (.int .i64 230)), none, [], []⟩])
    .ret)
  .skip))
  (.seq (.seq (.region false [
 ⟨some 10, .mv (.tmp 0), none, [], []⟩,
 ⟨some 11, .arrp 6 1 (.tmp 10), none, [], []⟩,
 ⟨some 12, .load true 6 (.tmp 11), none, [], []⟩,
 ⟨some 6, .alloc [(.int .i64 0), (.int .i64 0), (.int .i64 0), (.int .i64 0), (.int .i64 0), (.int .i64 0)], none, [], []⟩,
 ⟨none, .store 6 (.tmp 6) (.tmp 12), none, [], []⟩])
  (.ghost (.kill [0, 9, 10, 11, 12])))
  (.seq (.seq (.seq (.region false [
 ⟨some 13, .mv (.tmp 1), none, [], []⟩,
 ⟨some 14, .callv false (.tmp 13) [(.tmp 6)], none, [], []⟩,
 ⟨some 15, .un .not (.tmp 14), none, [], []⟩])
  (.ghost (.kill [1, 13, 14])))
  (.cond (.tmp 15) (.seq (.region false [
      ⟨some 4, .mv (.cst .nils), none, [], []⟩,
      ⟨some 5, .mv (.cst (.int .i64 230)), none, [], []⟩])
    .ret)
  .skip))
  (.seq (.region false [
 ⟨some 16, .slarr 6 1 (.tmp 6) none none, none, [], []⟩,
 ⟨some 4, .mv (.tmp 16), none, [], []⟩,
 ⟨some 5, .mv (.cst (.int .i64 0)), none, [], []⟩])
  .ret)))))
def escrow_try : AFunc := ⟨17, [.tmp 4, .tmp 5], escrow_try.main⟩
/-- chapman/escrow.Take$1 -/
def escrow_Take_1.main : ACode := (.seq (.seq (.region false [
 ⟨some 4, .mv (.cst (.bool false)), none, [], []⟩])
  (.ghost (.kill [4])))
  (.seq (.region false [
 ⟨some 5, .mv (.tmp 0), none, [], []⟩,
 ⟨some 6, .load false 1 (.tmp 1), none, [], []⟩,
 ⟨some 7, .load false 1 (.tmp 2), none, [], []⟩,
 ⟨some 8, .call false i_escrow_stock_take [(.tmp 5), (.tmp 6), (.cst (.int .i64 0)), (.tmp 7)], none, [], []⟩,
 ⟨some 4, .mv (.tmp 8), none, [], []⟩])
  .ret))
def escrow_Take_1 : AFunc := ⟨9, [.tmp 4], escrow_Take_1.main⟩
/-- (*chapman/escrow.stock).take -/
def escrow_stock_take.main : ACode := (.seq (.seq (.region false [
 ⟨some 8, .mv (.cst (.bool false)), none, [], []⟩])
  (.ghost (.kill [2, 8])))
  (.seq (.seq (.seq (.region false [
 ⟨some 9, .mv (.tmp 1), none, [], []⟩,
 ⟨some 10, .call true i_escrow_station [(.tmp 9)], none, [], []⟩,
 ⟨some 11, .un .not (.tmp 10), none, [], []⟩,
 ⟨some 12, .mv (.tmp 11), none, [], []⟩,
 ⟨some 13, .mv (.tmp 3), (some ((some 12), false)), [], []⟩,
 ⟨some 14, .bin .lss (.tmp 13) (.cst (.int .i64 1)), (some ((some 12), false)), [], []⟩,
 ⟨some 15, .pick (.tmp 12) (.cst (.bool true)) (.tmp 14), none, [], []⟩,
 ⟨some 16, .mv (.tmp 15), none, [], []⟩,
 ⟨some 17, .mv (.tmp 3), (some ((some 16), false)), [], []⟩,
 ⟨some 18, .mv (.tmp 0), (some ((some 16), false)), [], []⟩,
 ⟨some 19, .mv (.tmp 1), (some ((some 16), false)), [], []⟩,
 ⟨some 20, .nilck (.tmp 18), (some ((some 16), false)), [], []⟩,
 ⟨some 21, .iaddrA 6 1 (.tmp 20) (.tmp 19), (some ((some 16), false)), [], []⟩,
 ⟨some 22, .load false 1 (.tmp 21), (some ((some 16), false)), [], []⟩,
 ⟨some 23, .bin .gtr (.tmp 17) (.tmp 22), (some ((some 16), false)), [], []⟩,
 ⟨some 24, .pick (.tmp 16) (.cst (.bool true)) (.tmp 23), none, [], []⟩])
  (.ghost (.kill [9, 10, 11, 12, 13, 14, 15, 16, 17, 18, 19, 20, 21, 22, 23])))
  (.cond (.tmp 24) (.seq (.region false [
      ⟨some 8, .mv (.cst (.bool false)), none, [], []⟩])
    .ret)
  .skip))
  (.seq (.seq (.region true [
 ⟨some 25, .mv (.tmp 0), none, [], [0]⟩,
 ⟨some 26, .mv (.tmp 1), none, [], [1]⟩,
 ⟨some 27, .nilck (.tmp 25), none, [0], [25]⟩,
 ⟨some 28, .iaddrA 6 1 (.tmp 27) (.tmp 26), none, [2, 1], [27, 26]⟩,
 ⟨some 29, .load false 1 (.tmp 28), none, [3], [28]⟩,
 ⟨some 30, .mv (.tmp 3), none, [], [3]⟩,
 ⟨some 31, .bin .sub (.tmp 29) (.tmp 30), none, [4, 5], [29, 30]⟩,
 ⟨some 32, .nilck (.tmp 25), none, [0], [25]⟩,
 ⟨some 33, .iaddrA 6 1 (.tmp 32) (.tmp 26), none, [7, 1, 0, 1, 2, 3, 4, 5, 6], [32, 26]⟩,
 ⟨none, .store 1 (.tmp 33) (.tmp 31), none, [8, 6, 0, 1, 2, 3, 4, 5, 6], [33, 31]⟩])
  (.ghost (.kill [0, 1, 3, 24, 25, 26, 27, 28, 29, 30, 31, 32, 33])))
  (.seq (.region false [
 ⟨some 8, .mv (.cst (.bool true)), none, [], []⟩])
  .ret))))
def escrow_stock_take : AFunc := ⟨34, [.tmp 8], escrow_stock_take.main⟩
/-- chapman/escrow.Grant$1 -/
def escrow_Grant_1.main : ACode := (.seq (.seq (.region false [
 ⟨some 5, .mv (.cst (.bool false)), none, [], []⟩])
  (.ghost (.kill [5])))
  (.seq (.region false [
 ⟨some 6, .mv (.tmp 0), none, [], []⟩,
 ⟨some 7, .load false 1 (.tmp 1), none, [], []⟩,
 ⟨some 8, .load false 1 (.tmp 2), none, [], []⟩,
 ⟨some 9, .load false 1 (.tmp 3), none, [], []⟩,
 ⟨some 10, .call false i_escrow_stock_grant [(.tmp 6), (.tmp 7), (.tmp 8), (.tmp 9)], none, [], []⟩,
 ⟨some 5, .mv (.tmp 10), none, [], []⟩])
  .ret))
def escrow_Grant_1 : AFunc := ⟨11, [.tmp 5], escrow_Grant_1.main⟩
/-- (*chapman/escrow.stock).grant -/
def escrow_stock_grant.main : ACode := (.seq (.seq (.region false [
 ⟨some 8, .mv (.cst (.bool false)), none, [], []⟩])
  (.ghost (.kill [8])))
  (.seq (.seq (.seq (.region false [
 ⟨some 9, .mv (.tmp 2), none, [], []⟩,
 ⟨some 10, .call true i_escrow_station [(.tmp 9)], none, [], []⟩,
 ⟨some 11, .un .not (.tmp 10), none, [], []⟩,
 ⟨some 12, .mv (.tmp 11), none, [], []⟩,
 ⟨some 13, .mv (.tmp 2), (some ((some 12), false)), [], []⟩,
 ⟨some 14, .mv (.tmp 1), (some ((some 12), false)), [], []⟩,
 ⟨some 15, .bin .eql (.tmp 13) (.tmp 14), (some ((some 12), false)), [], []⟩,
 ⟨some 16, .pick (.tmp 12) (.cst (.bool true)) (.tmp 15), none, [], []⟩,
 ⟨some 17, .mv (.tmp 16), none, [], []⟩,
 ⟨some 18, .mv (.tmp 0), (some ((some 17), false)), [], []⟩,
 ⟨some 19, .mv (.tmp 1), (some ((some 17), false)), [], []⟩,
 ⟨some 20, .mv (.tmp 2), (some ((some 17), false)), [], []⟩,
 ⟨some 21, .mv (.tmp 3), (some ((some 17), false)), [], []⟩,
 ⟨some 22, .call false i_escrow_stock_take [(.tmp 18), (.tmp 19), (.tmp 20), (.tmp 21)], (some ((some 17), false)), [], []⟩,
 ⟨some 23, .un .not (.tmp 22), (some ((some 17), false)), [], []⟩,
 ⟨some 24, .pick (.tmp 17) (.cst (.bool true)) (.tmp 23), none, [], []⟩])
  (.ghost (.kill [1, 9, 10, 11, 12, 13, 14, 15, 16, 17, 18, 19, 20, 21, 22, 23])))
  (.cond (.tmp 24) (.seq (.region false [
      ⟨some 8, .mv (.cst (.bool false)), none, [], []⟩])
    .ret)
  .skip))
  (.seq (.seq (.region true [
 ⟨some 25, .mv (.tmp 0), none, [], [0]⟩,
 ⟨some 26, .mv (.tmp 2), none, [], [2]⟩,
 ⟨some 27, .nilck (.tmp 25), none, [0], [25]⟩,
 ⟨some 28, .iaddrA 6 1 (.tmp 27) (.tmp 26), none, [2, 1], [27, 26]⟩,
 ⟨some 29, .load false 1 (.tmp 28), none, [3], [28]⟩,
 ⟨some 30, .mv (.tmp 3), none, [], [3]⟩,
 ⟨some 31, .bin .add (.tmp 29) (.tmp 30), none, [4, 5], [29, 30]⟩,
 ⟨some 32, .nilck (.tmp 25), none, [0], [25]⟩,
 ⟨some 33, .iaddrA 6 1 (.tmp 32) (.tmp 26), none, [7, 1, 0, 1, 2, 3, 4, 5, 6], [32, 26]⟩,
 ⟨none, .store 1 (.tmp 33) (.tmp 31), none, [8, 6, 0, 1, 2, 3, 4, 5, 6], [33, 31]⟩])
  (.ghost (.kill [0, 2, 3, 24, 25, 26, 27, 28, 29, 30, 31, 32, 33])))
  (.seq (.region false [
 ⟨some 8, .mv (.cst (.bool true)), none, [], []⟩])
  .ret))))
def escrow_stock_grant : AFunc := ⟨34, [.tmp 8], escrow_stock_grant.main⟩
/-- slices.Clone[[]int,int] -/
def slices_Clone_int.main : ACode := (.seq (.seq (.region false [
 ⟨some 2, .mv (.cst .nils), none, [], []⟩])
  (.ghost (.kill [2])))
  (.seq (.seq (.seq (.region false [
 ⟨some 3, .mv (.tmp 0), none, [], []⟩,
 ⟨some 4, .eqnil false .sl (.tmp 3), none, [], []⟩])
  (.ghost (.kill [3])))
  (.cond (.tmp 4) (.seq (.region false [
      ⟨some 2, .mv (.cst .nils), none, [], []⟩])
    .ret)
  .skip))
  (.seq (.region false [
 ⟨some 5, .bslice 1 0 [(.int .i64 0)] [], none, [], []⟩,
 ⟨some 6, .mv (.tmp 0), none, [], []⟩,
 ⟨some 7, .append 1 8 (.tmp 5) (.tmp 6), none, [], []⟩,
 ⟨some 2, .mv (.tmp 7), none, [], []⟩])
  .ret)))
def slices_Clone_int : AFunc := ⟨8, [.tmp 2], slices_Clone_int.main⟩
/-- chapman/escrow.Do$1 -/
def escrow_Do_1.c0 : ACode := (.seq (.region false [
 ⟨some 45, .faddr 0 (.tmp 1), none, [], []⟩,
 ⟨some 46, .faddr 0 (.tmp 45), none, [], []⟩,
 ⟨some 47, .load false 1 (.tmp 46), none, [], []⟩,
 ⟨some 48, .call true i_escrow_station [(.tmp 47)], none, [], []⟩,
 ⟨some 3, .mv (.tmp 48), none, [], []⟩])
  .ret)
def escrow_Do_1.c1 : ACode := (.ghost (.kill [0, 9, 10, 11, 12]))
def escrow_Do_1.b0 : ACode := (.seq (.region false [
 ⟨some 12, .bin .lss (.tmp 11) (.tmp 10), none, [], []⟩])
  (.seq (.cond (.tmp 12) .skip
  (.exit 0))
  (.seq (.trunc (.seq (.block 1 (.seq (.seq (.region false [
 ⟨some 13, .iaddr 9 (.tmp 9) (.tmp 11), none, [], []⟩,
 ⟨some 14, .load true 9 (.tmp 13), none, [], []⟩,
 ⟨some 5, .alloc [(.int .i64 0), (.int .i64 0), (.int .i64 0), (.int .i64 0), .nils, .nils, (.int .i64 0), (.int .i64 0), (.str ⟨#[]⟩)], none, [], []⟩,
 ⟨none, .store 9 (.tmp 5) (.tmp 14), none, [], []⟩])
  (.ghost (.kill [12, 13, 14])))
  (.seq (.seq (.region false [
 ⟨some 16, .load false 1 (.cst (.fptr [(.fmap [.int .i64 5, .int .i64 6] [.clo (.func i_escrow_stock_take) [] [], .clo (.func i_escrow_stock_grant) [] []])])), none, [], []⟩,
 ⟨some 17, .faddr 0 (.tmp 5), none, [], []⟩,
 ⟨some 18, .load false 1 (.tmp 17), none, [], []⟩,
 ⟨some 19, .lookup (.int .i64) .nilf true (.tmp 16) (.tmp 18), none, [], []⟩,
 ⟨some 15, .mv (.tmp 19), none, [], []⟩,
 ⟨some 20, .extr (.tmp 15) 0, none, [], []⟩,
 ⟨some 21, .extr (.tmp 15) 1, none, [], []⟩,
 ⟨some 6, .mv (.tmp 20), none, [], []⟩,
 ⟨some 7, .mv (.tmp 21), none, [], []⟩])
  (.ghost (.kill [15, 16, 17, 18, 19, 20, 21])))
  (.seq (.seq (.region false [
 ⟨some 22, .mv (.tmp 7), none, [], []⟩,
 ⟨some 23, .un .not (.tmp 22), none, [], []⟩,
 ⟨some 24, .mv (.tmp 23), none, [], []⟩,
 ⟨some 25, .faddr 6 (.tmp 5), (some ((some 24), false)), [], []⟩,
 ⟨some 26, .faddr 0 (.tmp 25), (some ((some 24), false)), [], []⟩,
 ⟨some 27, .load false 1 (.tmp 26), (some ((some 24), false)), [], []⟩,
 ⟨some 28, .bin .neq (.tmp 27) (.cst (.int .i64 2)), (some ((some 24), false)), [], []⟩,
 ⟨some 29, .pick (.tmp 24) (.cst (.bool true)) (.tmp 28), none, [], []⟩,
 ⟨some 30, .mv (.tmp 29), none, [], []⟩,
 ⟨some 31, .mv (.tmp 6), (some ((some 30), false)), [], []⟩,
 ⟨some 32, .mv (.tmp 0), (some ((some 30), false)), [], []⟩,
 ⟨some 33, .faddr 0 (.tmp 1), (some ((some 30), false)), [], []⟩,
 ⟨some 34, .faddr 0 (.tmp 33), (some ((some 30), false)), [], []⟩,
 ⟨some 35, .load false 1 (.tmp 34), (some ((some 30), false)), [], []⟩,
 ⟨some 36, .faddr 3 (.tmp 5), (some ((some 30), false)), [], []⟩,
 ⟨some 37, .load false 1 (.tmp 36), (some ((some 30), false)), [], []⟩,
 ⟨some 38, .faddr 6 (.tmp 5), (some ((some 30), false)), [], []⟩,
 ⟨some 39, .faddr 1 (.tmp 38), (some ((some 30), false)), [], []⟩,
 ⟨some 40, .load false 1 (.tmp 39), (some ((some 30), false)), [], []⟩,
 ⟨some 41, .callv false (.tmp 31) [(.tmp 32), (.tmp 35), (.tmp 37), (.tmp 40)], (some ((some 30), false)), [], []⟩,
 ⟨some 42, .un .not (.tmp 41), (some ((some 30), false)), [], []⟩,
 ⟨some 43, .pick (.tmp 30) (.cst (.bool true)) (.tmp 42), none, [], []⟩])
  (.ghost (.kill [5, 6, 7, 22, 23, 24, 25, 26, 27, 28, 29, 30, 31, 32, 33, 34, 35, 36, 37, 38, 39, 40, 41, 42])))
  (.cond (.tmp 43) (.seq (.region false [
      ⟨some 3, .mv (.cst (.bool false)), none, [], []⟩])
    .ret)
  .skip)))))
  (.ghost (.kill [43]))))
  (.seq (.region false [
 ⟨some 44, .bin .add (.tmp 11) (.cst (.int .i64 1)), none, [], []⟩,
 ⟨some 11, .mv (.tmp 44), none, [], []⟩])
  (.ghost (.kill [44]))))))
def escrow_Do_1.main : ACode := (.seq (.seq (.region false [
 ⟨some 3, .mv (.cst (.bool false)), none, [], []⟩])
  (.ghost (.kill [3])))
  (.seq (.seq (.seq (.region false [
 ⟨some 8, .faddr 4 (.tmp 1), none, [], []⟩,
 ⟨some 9, .load false 1 (.tmp 8), none, [], []⟩,
 ⟨some 10, .len .sl (.tmp 9), none, [], []⟩,
 ⟨some 11, .mv (.cst (.int .i64 0)), none, [], []⟩])
  (.ghost (.kill [8])))
  (.seq (.block 0 (.loop escrow_Do_1.b0))
  escrow_Do_1.c1))
  escrow_Do_1.c0))
def escrow_Do_1.k0 : List Item := [.inBlock 0, .code escrow_Do_1.c1, .code escrow_Do_1.c0]
def escrow_Do_1 : AFunc := ⟨49, [.tmp 3], escrow_Do_1.main⟩
/-- slices.IndexFunc[[]chapman/api.Commit,chapman/api.Commit] -/
def slices_IndexFunc_Commit.c0 : ACode := (.seq (.region false [
 ⟨some 4, .mv (.cst (.int .i64 (-1))), none, [], []⟩])
  .ret)
def slices_IndexFunc_Commit.c1 : ACode := (.ghost (.kill [0, 1, 7, 8, 9]))
def slices_IndexFunc_Commit.b0 : ACode := (.seq (.region false [
 ⟨some 9, .bin .lss (.tmp 8) (.tmp 7), none, [], []⟩])
  (.seq (.cond (.tmp 9) .skip
  (.exit 0))
  (.seq (.seq (.block 1 (.seq (.seq (.region false [
 ⟨some 10, .mv (.tmp 8), none, [], []⟩,
 ⟨some 5, .mv (.tmp 10), none, [], []⟩])
  (.ghost (.kill [9, 10])))
  (.seq (.seq (.region false [
 ⟨some 11, .mv (.tmp 1), none, [], []⟩,
 ⟨some 12, .mv (.tmp 0), none, [], []⟩,
 ⟨some 13, .mv (.tmp 5), none, [], []⟩,
 ⟨some 14, .iaddr 5 (.tmp 12) (.tmp 13), none, [], []⟩,
 ⟨some 15, .load true 5 (.tmp 14), none, [], []⟩,
 ⟨some 16, .callv true (.tmp 11) [(.tmp 15)], none, [], []⟩])
  (.ghost (.kill [11, 12, 13, 14, 15])))
  (.cond (.tmp 16) (.seq (.region false [
      ⟨some 17, .mv (.tmp 5), none, [], []⟩,
      ⟨some 4, .mv (.tmp 17), none, [], []⟩])
    .ret)
  .skip))))
  (.ghost (.kill [5, 16])))
  (.seq (.region false [
 ⟨some 18, .bin .add (.tmp 8) (.cst (.int .i64 1)), none, [], []⟩,
 ⟨some 8, .mv (.tmp 18), none, [], []⟩])
  (.ghost (.kill [18]))))))
def slices_IndexFunc_Commit.main : ACode := (.seq (.seq (.region false [
 ⟨some 4, .mv (.cst (.int .i64 0)), none, [], []⟩])
  (.ghost (.kill [4])))
  (.seq (.seq (.seq (.region false [
 ⟨some 6, .mv (.tmp 0), none, [], []⟩,
 ⟨some 7, .len .sl (.tmp 6), none, [], []⟩,
 ⟨some 8, .mv (.cst (.int .i64 0)), none, [], []⟩])
  (.ghost (.kill [6])))
  (.seq (.block 0 (.loop slices_IndexFunc_Commit.b0))
  slices_IndexFunc_Commit.c1))
  slices_IndexFunc_Commit.c0))
def slices_IndexFunc_Commit.k0 : List Item := [.inBlock 0, .code slices_IndexFunc_Commit.c1, .code slices_IndexFunc_Commit.c0]
def slices_IndexFunc_Commit : AFunc := ⟨19, [.tmp 4], slices_IndexFunc_Commit.main⟩
/-- chapman/cut.WellFormed -/
def cut_WellFormed.main : ACode := (.seq (.seq (.region false [
 ⟨some 1, .box 5 (.tmp 0), none, [], []⟩,
 ⟨some 2, .mv (.cst (.bool false)), none, [], []⟩])
  (.ghost (.kill [0, 2])))
  (.seq (.seq (.region false [
 ⟨some 4, .faddr 0 (.tmp 1), none, [], []⟩,
 ⟨some 5, .load true 2 (.tmp 4), none, [], []⟩,
 ⟨some 3, .alloc [(.int .i64 0), (.int .i64 0)], none, [], []⟩,
 ⟨none, .store 2 (.tmp 3) (.tmp 5), none, [], []⟩])
  (.ghost (.kill [4, 5])))
  (.seq (.region true [
 ⟨some 6, .faddr 0 (.tmp 3), none, [], [3]⟩,
 ⟨some 7, .load false 1 (.tmp 6), none, [0], [6]⟩,
 ⟨some 8, .bin .geq (.tmp 7) (.cst (.int .i64 0)), none, [1], [7]⟩,
 ⟨some 9, .mv (.tmp 8), none, [2], [8]⟩,
 ⟨some 10, .faddr 0 (.tmp 3), (some ((some 9), true)), [3], [3]⟩,
 ⟨some 11, .load false 1 (.tmp 10), (some ((some 9), true)), [4, 3], [10]⟩,
 ⟨some 12, .bin .lss (.tmp 11) (.cst (.int .i64 6)), (some ((some 9), true)), [5, 3], [11]⟩,
 ⟨some 13, .pick (.tmp 9) (.tmp 12) (.cst (.bool false)), none, [3, 6], [9, 12]⟩,
 ⟨some 14, .mv (.tmp 13), none, [7, 3], [13]⟩,
 ⟨some 15, .faddr 1 (.tmp 3), (some ((some 14), true)), [8], [3]⟩,
 ⟨some 16, .load false 1 (.tmp 15), (some ((some 14), true)), [9, 8], [15]⟩,
 ⟨some 17, .bin .geq (.tmp 16) (.cst (.int .i64 1)), (some ((some 14), true)), [10, 8], [16]⟩,
 ⟨some 18, .pick (.tmp 14) (.tmp 17) (.cst (.bool false)), none, [8, 11], [14, 17]⟩,
 ⟨some 19, .mv (.tmp 18), none, [12, 8], [18]⟩,
 ⟨some 20, .faddr 1 (.tmp 3), (some ((some 19), true)), [13], [3]⟩,
 ⟨some 21, .load false 1 (.tmp 20), (some ((some 19), true)), [14, 13], [20]⟩,
 ⟨some 22, .bin .leq (.tmp 21) (.cst (.int .i64 999)), (some ((some 19), true)), [15, 13], [21]⟩,
 ⟨some 23, .pick (.tmp 19) (.tmp 22) (.cst (.bool false)), none, [13, 16], [19, 22]⟩,
 ⟨some 24, .mv (.tmp 23), none, [17, 13], [23]⟩,
 ⟨some 25, .faddr 2 (.tmp 1), (some ((some 24), true)), [18], [1]⟩,
 ⟨some 26, .load false 1 (.tmp 25), (some ((some 24), true)), [19, 18], [25]⟩,
 ⟨some 27, .call true i_cut_Valid [(.tmp 26)], (some ((some 24), true)), [20, 18, 18], [26]⟩,
 ⟨some 28, .pick (.tmp 24) (.tmp 27) (.cst (.bool false)), none, [18, 21], [24, 27]⟩,
 ⟨some 29, .mv (.tmp 28), none, [22, 21], [28]⟩,
 ⟨some 30, .faddr 2 (.tmp 1), (some ((some 29), true)), [23], [1]⟩,
 ⟨some 31, .load false 1 (.tmp 30), (some ((some 29), true)), [24, 23], [30]⟩,
 ⟨some 32, .faddr 0 (.tmp 3), (some ((some 29), true)), [23], [3]⟩,
 ⟨some 33, .load false 1 (.tmp 32), (some ((some 29), true)), [26, 23], [32]⟩,
 ⟨some 34, .iaddr 1 (.tmp 31) (.tmp 33), (some ((some 29), true)), [25, 27, 23], [31, 33]⟩,
 ⟨some 35, .load false 1 (.tmp 34), (some ((some 29), true)), [28, 23], [34]⟩,
 ⟨some 36, .faddr 1 (.tmp 3), (some ((some 29), true)), [23], [3]⟩,
 ⟨some 37, .load false 1 (.tmp 36), (some ((some 29), true)), [30, 23], [36]⟩,
 ⟨some 38, .bin .sub (.tmp 37) (.cst (.int .i64 1)), (some ((some 29), true)), [31, 23], [37]⟩,
 ⟨some 39, .bin .eql (.tmp 35) (.tmp 38), (some ((some 29), true)), [29, 32, 23], [35, 38]⟩,
 ⟨some 40, .pick (.tmp 29) (.tmp 39) (.cst (.bool false)), none, [23, 33], [29, 39]⟩,
 ⟨some 2, .mv (.tmp 40), none, [34, 23, 0, 1, 2, 3, 4, 5, 6, 7, 8, 9, 10, 11, 12, 13, 14, 15, 16, 17, 18, 19, 20, 21, 22, 23, 24, 25, 26, 27, 28, 29, 30, 31, 32, 33, 34], [40]⟩])
  .ret)))
def cut_WellFormed : AFunc := ⟨41, [.tmp 2], cut_WellFormed.main⟩
/-- slices.stableCmpFunc[chapman/api.Commit] -/
def slices_stableCmpFunc_Commit.c0 : ACode := (.ghost (.kill [0, 1, 2, 6, 30]))
def slices_stableCmpFunc_Commit.c1 : ACode := (.seq (.region false [
 ⟨some 61, .mv (.tmp 6), none, [], []⟩,
 ⟨some 62, .bin .mul (.tmp 61) (.cst (.int .i64 2)), none, [], []⟩,
 ⟨some 6, .mv (.tmp 62), none, [], []⟩])
  (.ghost (.kill [61, 62])))
def slices_stableCmpFunc_Commit.c2 : ACode := (.seq (.seq (.seq (.region false [
 ⟨some 49, .mv (.tmp 7), none, [], []⟩,
 ⟨some 50, .mv (.tmp 6), none, [], []⟩,
 ⟨some 51, .bin .add (.tmp 49) (.tmp 50), none, [], []⟩,
 ⟨some 9, .mv (.tmp 51), none, [], []⟩])
  (.ghost (.kill [49, 50, 51])))
  (.seq (.seq (.region false [
 ⟨some 52, .mv (.tmp 9), none, [], []⟩,
 ⟨some 53, .mv (.tmp 1), none, [], []⟩,
 ⟨some 54, .bin .lss (.tmp 52) (.tmp 53), none, [], []⟩])
  (.ghost (.kill [52, 53])))
  (.seq (.cond (.tmp 54) (.seq (.region false [
      ⟨some 55, .mv (.tmp 0), none, [], []⟩,
      ⟨some 56, .mv (.tmp 7), none, [], []⟩,
      ⟨some 57, .mv (.tmp 9), none, [], []⟩,
      ⟨some 58, .mv (.tmp 1), none, [], []⟩,
      ⟨some 59, .mv (.tmp 2), none, [], []⟩,
      ⟨some 60, .call false i_slices_symMergeCmpFunc_Commit [(.tmp 55), (.tmp 56), (.tmp 57), (.tmp 58), (.tmp 59)], none, [], []⟩])
    (.ghost (.kill [7, 9, 54, 55, 56, 57, 58, 59, 60])))
  .skip)
  (.ghost (.kill [7, 9, 54])))))
  slices_stableCmpFunc_Commit.c1)
def slices_stableCmpFunc_Commit.b2 : ACode := (.seq (.seq (.seq (.region false [
 ⟨some 33, .mv (.tmp 8), none, [], []⟩,
 ⟨some 34, .mv (.tmp 1), none, [], []⟩,
 ⟨some 35, .bin .leq (.tmp 33) (.tmp 34), none, [], []⟩])
  (.ghost (.kill [33, 34])))
  (.cond (.tmp 35) .skip
  (.exit 4)))
  (.trunc (.block 5 (.seq (.seq (.region false [
 ⟨some 36, .mv (.tmp 0), none, [], []⟩,
 ⟨some 37, .mv (.tmp 7), none, [], []⟩,
 ⟨some 38, .mv (.tmp 7), none, [], []⟩,
 ⟨some 39, .mv (.tmp 6), none, [], []⟩,
 ⟨some 40, .bin .add (.tmp 38) (.tmp 39), none, [], []⟩,
 ⟨some 41, .mv (.tmp 8), none, [], []⟩,
 ⟨some 42, .mv (.tmp 2), none, [], []⟩,
 ⟨some 43, .call false i_slices_symMergeCmpFunc_Commit [(.tmp 36), (.tmp 37), (.tmp 40), (.tmp 41), (.tmp 42)], none, [], []⟩])
  (.ghost (.kill [7, 35, 36, 37, 38, 39, 40, 41, 42, 43])))
  (.seq (.seq (.region false [
 ⟨some 44, .mv (.tmp 8), none, [], []⟩,
 ⟨some 7, .mv (.tmp 44), none, [], []⟩])
  (.ghost (.kill [44])))
  (.seq (.region false [
 ⟨some 45, .mv (.tmp 8), none, [], []⟩,
 ⟨some 46, .mv (.tmp 6), none, [], []⟩,
 ⟨some 47, .bin .mul (.cst (.int .i64 2)) (.tmp 46), none, [], []⟩,
 ⟨some 48, .bin .add (.tmp 45) (.tmp 47), none, [], []⟩,
 ⟨some 8, .mv (.tmp 48), none, [], []⟩])
  (.ghost (.kill [45, 46, 47, 48]))))))))
def slices_stableCmpFunc_Commit.b1 : ACode := (.seq (.seq (.seq (.region false [
 ⟨some 28, .mv (.tmp 6), none, [], []⟩,
 ⟨some 29, .mv (.tmp 1), none, [], []⟩,
 ⟨some 30, .bin .lss (.tmp 28) (.tmp 29), none, [], []⟩])
  (.ghost (.kill [28, 29])))
  (.cond (.tmp 30) .skip
  (.exit 2)))
  (.trunc (.block 3 (.seq (.seq (.region false [
 ⟨some 31, .mv (.tmp 6), none, [], []⟩,
 ⟨some 32, .bin .mul (.cst (.int .i64 2)) (.tmp 31), none, [], []⟩,
 ⟨some 7, .mv (.cst (.int .i64 0)), none, [], []⟩,
 ⟨some 8, .mv (.tmp 32), none, [], []⟩])
  (.ghost (.kill [30, 31, 32])))
  (.seq (.seq (.block 4 (.loop slices_stableCmpFunc_Commit.b2))
  (.ghost (.kill [8, 35])))
  slices_stableCmpFunc_Commit.c2)))))
def slices_stableCmpFunc_Commit.c3 : ACode := (.seq (.seq (.region false [
 ⟨some 23, .mv (.tmp 0), none, [], []⟩,
 ⟨some 24, .mv (.tmp 7), none, [], []⟩,
 ⟨some 25, .mv (.tmp 1), none, [], []⟩,
 ⟨some 26, .mv (.tmp 2), none, [], []⟩,
 ⟨some 27, .call false i_slices_insertionSortCmpFunc_Commit [(.tmp 23), (.tmp 24), (.tmp 25), (.tmp 26)], none, [], []⟩])
  (.ghost (.kill [7, 23, 24, 25, 26, 27])))
  (.seq (.block 2 (.loop slices_stableCmpFunc_Commit.b1))
  slices_stableCmpFunc_Commit.c0))
def slices_stableCmpFunc_Commit.b0 : ACode := (.seq (.seq (.seq (.region false [
 ⟨some 11, .mv (.tmp 8), none, [], []⟩,
 ⟨some 12, .mv (.tmp 1), none, [], []⟩,
 ⟨some 13, .bin .leq (.tmp 11) (.tmp 12), none, [], []⟩])
  (.ghost (.kill [11, 12])))
  (.cond (.tmp 13) .skip
  (.exit 0)))
  (.trunc (.block 1 (.seq (.seq (.region false [
 ⟨some 14, .mv (.tmp 0), none, [], []⟩,
 ⟨some 15, .mv (.tmp 7), none, [], []⟩,
 ⟨some 16, .mv (.tmp 8), none, [], []⟩,
 ⟨some 17, .mv (.tmp 2), none, [], []⟩,
 ⟨some 18, .call false i_slices_insertionSortCmpFunc_Commit [(.tmp 14), (.tmp 15), (.tmp 16), (.tmp 17)], none, [], []⟩])
  (.ghost (.kill [7, 13, 14, 15, 16, 17, 18])))
  (.seq (.seq (.region false [
 ⟨some 19, .mv (.tmp 8), none, [], []⟩,
 ⟨some 7, .mv (.tmp 19), none, [], []⟩])
  (.ghost (.kill [19])))
  (.seq (.region false [
 ⟨some 20, .mv (.tmp 8), none, [], []⟩,
 ⟨some 21, .mv (.tmp 6), none, [], []⟩,
 ⟨some 22, .bin .add (.tmp 20) (.tmp 21), none, [], []⟩,
 ⟨some 8, .mv (.tmp 22), none, [], []⟩])
  (.ghost (.kill [20, 21, 22]))))))))
def slices_stableCmpFunc_Commit.main : ACode := (.seq (.region false [
 ⟨some 6, .mv (.cst (.int .i64 20)), none, [], []⟩])
  (.seq (.seq (.region false [
 ⟨some 10, .mv (.tmp 6), none, [], []⟩,
 ⟨some 7, .mv (.cst (.int .i64 0)), none, [], []⟩,
 ⟨some 8, .mv (.tmp 10), none, [], []⟩])
  (.ghost (.kill [10])))
  (.seq (.seq (.block 0 (.loop slices_stableCmpFunc_Commit.b0))
  (.ghost (.kill [8, 13])))
  slices_stableCmpFunc_Commit.c3)))
def slices_stableCmpFunc_Commit.k2 (m0 : Nat) : List Item := [.inBlock 4, .code (.ghost (.kill [8, 35])), .code slices_stableCmpFunc_Commit.c2, .inBlock 3, .inTrunc m0, .inLoop slices_stableCmpFunc_Commit.b1, .inBlock 2, .code slices_stableCmpFunc_Commit.c0]
def slices_stableCmpFunc_Commit.k1 : List Item := [.inBlock 2, .code slices_stableCmpFunc_Commit.c0]
def slices_stableCmpFunc_Commit.k0 : List Item := [.inBlock 0, .code (.ghost (.kill [8, 13])), .code slices_stableCmpFunc_Commit.c3]
def slices_stableCmpFunc_Commit : AFunc := ⟨63, [], slices_stableCmpFunc_Commit.main⟩
/-- chapman/chapmanref20.Before -/
def r20_Before.main : ACode := (.seq (.seq (.region false [
 ⟨some 2, .box 5 (.tmp 0), none, [], []⟩,
 ⟨some 3, .box 5 (.tmp 1), none, [], []⟩,
 ⟨some 4, .mv (.cst (.bool false)), none, [], []⟩])
  (.ghost (.kill [0, 1, 4])))
  (.seq (.seq (.seq (.region false [
 ⟨some 7, .load true 5 (.tmp 2), none, [], []⟩,
 ⟨some 8, .call true i_r20_WellFormed [(.tmp 7)], none, [], []⟩,
 ⟨some 9, .un .not (.tmp 8), none, [], []⟩,
 ⟨some 10, .mv (.tmp 9), none, [], []⟩,
 ⟨some 11, .load true 5 (.tmp 3), (some ((some 10), false)), [], []⟩,
 ⟨some 12, .call true i_r20_WellFormed [(.tmp 11)], (some ((some 10), false)), [], []⟩,
 ⟨some 13, .un .not (.tmp 12), (some ((some 10), false)), [], []⟩,
 ⟨some 14, .pick (.tmp 10) (.cst (.bool true)) (.tmp 13), none, [], []⟩])
  (.ghost (.kill [7, 8, 9, 10, 11, 12, 13])))
  (.cond (.tmp 14) (.seq (.region false [
      ⟨some 4, .mv (.cst (.bool false)), none, [], []⟩])
    .ret)
  .skip))
  (.seq (.seq (.region true [
 ⟨some 15, .load true 5 (.tmp 2), none, [], [2]⟩,
 ⟨some 16, .call true i_r20_Weight [(.tmp 15)], none, [0], [15]⟩,
 ⟨some 17, .load true 5 (.tmp 3), none, [], [3]⟩,
 ⟨some 18, .call true i_r20_Weight [(.tmp 17)], none, [2, 1], [17]⟩,
 ⟨some 5, .mv (.tmp 16), none, [1, 3, 0, 1], [16]⟩,
 ⟨some 6, .mv (.tmp 18), none, [3, 4, 0, 1, 2, 3, 4], [18]⟩])
  (.ghost (.kill [14, 15, 16, 17, 18])))
  (.seq (.seq (.seq (.region false [
 ⟨some 19, .mv (.tmp 5), none, [], []⟩,
 ⟨some 20, .mv (.tmp 6), none, [], []⟩,
 ⟨some 21, .bin .neq (.tmp 19) (.tmp 20), none, [], []⟩])
  (.ghost (.kill [19, 20])))
  (.cond (.tmp 21) (.seq (.region false [
      ⟨some 22, .mv (.tmp 5), none, [], []⟩,
      ⟨some 23, .mv (.tmp 6), none, [], []⟩,
      ⟨some 24, .bin .lss (.tmp 22) (.tmp 23), none, [], []⟩,
      ⟨some 4, .mv (.tmp 24), none, [], []⟩])
    .ret)
  .skip))
  (.seq (.seq (.seq (.region false [
 ⟨some 25, .faddr 0 (.tmp 2), none, [], []⟩,
 ⟨some 26, .faddr 0 (.tmp 25), none, [], []⟩,
 ⟨some 27, .load false 1 (.tmp 26), none, [], []⟩,
 ⟨some 28, .faddr 0 (.tmp 3), none, [], []⟩,
 ⟨some 29, .faddr 0 (.tmp 28), none, [], []⟩,
 ⟨some 30, .load false 1 (.tmp 29), none, [], []⟩,
 ⟨some 31, .bin .neq (.tmp 27) (.tmp 30), none, [], []⟩])
  (.ghost (.kill [5, 6, 21, 25, 26, 27, 28, 29, 30])))
  (.cond (.tmp 31) (.seq (.region false [
      ⟨some 32, .faddr 0 (.tmp 2), none, [], []⟩,
      ⟨some 33, .faddr 0 (.tmp 32), none, [], []⟩,
      ⟨some 34, .load false 1 (.tmp 33), none, [], []⟩,
      ⟨some 35, .faddr 0 (.tmp 3), none, [], []⟩,
      ⟨some 36, .faddr 0 (.tmp 35), none, [], []⟩,
      ⟨some 37, .load false 1 (.tmp 36), none, [], []⟩,
      ⟨some 38, .bin .lss (.tmp 34) (.tmp 37), none, [], []⟩,
      ⟨some 4, .mv (.tmp 38), none, [], []⟩])
    .ret)
  .skip))
  (.seq (.region false [
 ⟨some 39, .faddr 0 (.tmp 2), none, [], []⟩,
 ⟨some 40, .faddr 1 (.tmp 39), none, [], []⟩,
 ⟨some 41, .load false 1 (.tmp 40), none, [], []⟩,
 ⟨some 42, .faddr 0 (.tmp 3), none, [], []⟩,
 ⟨some 43, .faddr 1 (.tmp 42), none, [], []⟩,
 ⟨some 44, .load false 1 (.tmp 43), none, [], []⟩,
 ⟨some 45, .bin .lss (.tmp 41) (.tmp 44), none, [], []⟩,
 ⟨some 4, .mv (.tmp 45), none, [], []⟩])
  .ret))))))
def r20_Before : AFunc := ⟨46, [.tmp 4], r20_Before.main⟩
/-- chapman/chapmanref20.Closed -/
def r20_Closed.c0 : ACode := (.seq (.region false [
 ⟨some 4, .mv (.cst (.bool true)), none, [], []⟩])
  .ret)
def r20_Closed.c1 : ACode := (.ghost (.kill [0, 1, 5, 12]))
def r20_Closed.b0 : ACode := (.seq (.seq (.seq (.region false [
 ⟨some 9, .mv (.tmp 5), none, [], []⟩,
 ⟨some 10, .mv (.tmp 1), none, [], []⟩,
 ⟨some 11, .len .sl (.tmp 10), none, [], []⟩,
 ⟨some 12, .bin .lss (.tmp 9) (.tmp 11), none, [], []⟩])
  (.ghost (.kill [9, 10, 11])))
  (.cond (.tmp 12) .skip
  (.exit 0)))
  (.seq (.seq (.block 1 (.seq (.seq (.region true [
 ⟨some 15, .mv (.tmp 0), none, [], [0]⟩,
 ⟨some 16, .mv (.tmp 1), none, [], [1]⟩,
 ⟨some 17, .mv (.tmp 5), none, [], [5]⟩,
 ⟨some 18, .call true i_r20_fits [(.tmp 15), (.tmp 16), (.tmp 17)], none, [0, 1, 2], [15, 16, 17]⟩,
 ⟨some 19, .mv (.tmp 1), none, [], [1]⟩,
 ⟨some 20, .mv (.tmp 5), none, [], [5]⟩,
 ⟨some 21, .iaddr 1 (.tmp 19) (.tmp 20), none, [4, 5], [19, 20]⟩,
 ⟨some 22, .load false 1 (.tmp 21), none, [6], [21]⟩,
 ⟨some 23, .bin .lss (.tmp 18) (.tmp 22), none, [3, 7], [18, 22]⟩])
  (.ghost (.kill [12, 15, 16, 17, 18, 19, 20, 21, 22])))
  (.cond (.tmp 23) (.seq (.region false [
      ⟨some 4, .mv (.cst (.bool false)), none, [], []⟩])
    .ret)
  .skip)))
  (.ghost (.kill [23])))
  (.seq (.region false [
 ⟨some 13, .mv (.tmp 5), none, [], []⟩,
 ⟨some 14, .bin .add (.tmp 13) (.cst (.int .i64 1)), none, [], []⟩,
 ⟨some 5, .mv (.tmp 14), none, [], []⟩])
  (.ghost (.kill [13, 14])))))
def r20_Closed.main : ACode := (.seq (.seq (.region false [
 ⟨some 4, .mv (.cst (.bool false)), none, [], []⟩])
  (.ghost (.kill [4])))
  (.seq (.seq (.seq (.region false [
 ⟨some 6, .mv (.tmp 1), none, [], []⟩,
 ⟨some 7, .call true i_r20_Valid [(.tmp 6)], none, [], []⟩,
 ⟨some 8, .un .not (.tmp 7), none, [], []⟩])
  (.ghost (.kill [6, 7])))
  (.cond (.tmp 8) (.seq (.region false [
      ⟨some 4, .mv (.cst (.bool false)), none, [], []⟩])
    .ret)
  .skip))
  (.seq (.seq (.seq (.region false [
 ⟨some 5, .mv (.cst (.int .i64 0)), none, [], []⟩])
  (.ghost (.kill [8])))
  (.seq (.block 0 (.loop r20_Closed.b0))
  r20_Closed.c1))
  r20_Closed.c0)))
def r20_Closed.k0 : List Item := [.inBlock 0, .code r20_Closed.c1, .code r20_Closed.c0]
def r20_Closed : AFunc := ⟨24, [.tmp 4], r20_Closed.main⟩
/-- chapman/chapmanref20.fits -/
def r20_fits.c0 : ACode := (.seq (.region false [
 ⟨some 44, .mv (.tmp 1), none, [], []⟩,
 ⟨some 45, .mv (.tmp 2), none, [], []⟩,
 ⟨some 46, .iaddr 1 (.tmp 44) (.tmp 45), none, [], []⟩,
 ⟨some 47, .load false 1 (.tmp 46), none, [], []⟩,
 ⟨some 6, .mv (.tmp 47), none, [], []⟩])
  .ret)
def r20_fits.b0 : ACode := (.seq (.seq (.seq (.region false [
 ⟨some 9, .mv (.tmp 7), none, [], []⟩,
 ⟨some 10, .mv (.tmp 1), none, [], []⟩,
 ⟨some 11, .mv (.tmp 2), none, [], []⟩,
 ⟨some 12, .iaddr 1 (.tmp 10) (.tmp 11), none, [], []⟩,
 ⟨some 13, .load false 1 (.tmp 12), none, [], []⟩,
 ⟨some 14, .bin .leq (.tmp 9) (.tmp 13), none, [], []⟩])
  (.ghost (.kill [9, 10, 11, 12, 13])))
  (.cond (.tmp 14) .skip
  (.exit 0)))
  (.seq (.seq (.block 1 (.seq (.seq (.region false [
 ⟨some 17, .mv (.tmp 0), none, [], []⟩,
 ⟨some 18, .mv (.tmp 2), none, [], []⟩,
 ⟨some 19, .mv (.tmp 7), none, [], []⟩,
 ⟨some 20, .build [(.int .i64 0), (.int .i64 0)] [(0, 1, (.tmp 18)), (1, 1, (.tmp 19))], none, [], []⟩,
 ⟨some 21, .call true i_r20_Find [(.tmp 17), (.tmp 20)], none, [], []⟩,
 ⟨some 8, .mv (.tmp 21), none, [], []⟩])
  (.ghost (.kill [14, 17, 18, 19, 20, 21])))
  (.seq (.seq (.region false [
 ⟨some 22, .mv (.tmp 8), none, [], []⟩,
 ⟨some 23, .bin .lss (.tmp 22) (.cst (.int .i64 0)), none, [], []⟩,
 ⟨some 24, .mv (.tmp 23), none, [], []⟩,
 ⟨some 25, .mv (.tmp 0), (some ((some 24), false)), [], []⟩,
 ⟨some 26, .mv (.tmp 8), (some ((some 24), false)), [], []⟩,
 ⟨some 27, .iaddr 5 (.tmp 25) (.tmp 26), (some ((some 24), false)), [], []⟩,
 ⟨some 28, .load true 5 (.tmp 27), (some ((some 24), false)), [], []⟩,
 ⟨some 29, .call true i_r20_WellFormed [(.tmp 28)], (some ((some 24), false)), [], []⟩,
 ⟨some 30, .un .not (.tmp 29), (some ((some 24), false)), [], []⟩,
 ⟨some 31, .pick (.tmp 24) (.cst (.bool true)) (.tmp 30), none, [], []⟩,
 ⟨some 32, .mv (.tmp 31), none, [], []⟩,
 ⟨some 33, .mv (.tmp 0), (some ((some 32), false)), [], []⟩,
 ⟨some 34, .mv (.tmp 8), (some ((some 32), false)), [], []⟩,
 ⟨some 35, .iaddr 5 (.tmp 33) (.tmp 34), (some ((some 32), false)), [], []⟩,
 ⟨some 36, .faddr 2 (.tmp 35), (some ((some 32), false)), [], []⟩,
 ⟨some 37, .load false 1 (.tmp 36), (some ((some 32), false)), [], []⟩,
 ⟨some 38, .mv (.tmp 1), (some ((some 32), false)), [], []⟩,
 ⟨some 39, .call true i_r20_Leq [(.tmp 37), (.tmp 38)], (some ((some 32), false)), [], []⟩,
 ⟨some 40, .un .not (.tmp 39), (some ((some 32), false)), [], []⟩,
 ⟨some 41, .pick (.tmp 32) (.cst (.bool true)) (.tmp 40), none, [], []⟩])
  (.ghost (.kill [8, 22, 23, 24, 25, 26, 27, 28, 29, 30, 31, 32, 33, 34, 35, 36, 37, 38, 39, 40])))
  (.cond (.tmp 41) (.seq (.region false [
      ⟨some 42, .mv (.tmp 7), none, [], []⟩,
      ⟨some 43, .bin .sub (.tmp 42) (.cst (.int .i64 1)), none, [], []⟩,
      ⟨some 6, .mv (.tmp 43), none, [], []⟩])
    .ret)
  .skip))))
  (.ghost (.kill [41])))
  (.seq (.region false [
 ⟨some 15, .mv (.tmp 7), none, [], []⟩,
 ⟨some 16, .bin .add (.tmp 15) (.cst (.int .i64 1)), none, [], []⟩,
 ⟨some 7, .mv (.tmp 16), none, [], []⟩])
  (.ghost (.kill [15, 16])))))
def r20_fits.main : ACode := (.seq (.seq (.region false [
 ⟨some 6, .mv (.cst (.int .i64 0)), none, [], []⟩])
  (.ghost (.kill [6])))
  (.seq (.seq (.region false [
 ⟨some 7, .mv (.cst (.int .i64 1)), none, [], []⟩])
  (.seq (.block 0 (.loop r20_fits.b0))
  (.ghost (.kill [0, 7, 14]))))
  r20_fits.c0))
def r20_fits.k0 : List Item := [.inBlock 0, .code (.ghost (.kill [0, 7, 14])), .code r20_fits.c0]
def r20_fits : AFunc := ⟨48, [.tmp 6], r20_fits.main⟩
/-- chapman/cut.reach -/
def cut_reach.c0 : ACode := (.ghost (.kill [0, 1, 4, 12]))
def cut_reach.c1 : ACode := (.seq (.region false [
 ⟨some 57, .bin .add (.tmp 13) (.cst (.int .i64 1)), none, [], []⟩,
 ⟨some 13, .mv (.tmp 57), none, [], []⟩])
  (.ghost (.kill [57])))
def cut_reach.c2 : ACode := (.ghost (.kill [6, 19, 20, 21]))
def cut_reach.b2 : ACode := (.seq (.region false [
 ⟨some 21, .bin .lss (.tmp 20) (.tmp 19), none, [], []⟩])
  (.seq (.cond (.tmp 21) .skip
  (.exit 4))
  (.seq (.seq (.block 5 (.seq (.seq (.region false [
 ⟨some 22, .mv (.tmp 20), none, [], []⟩,
 ⟨some 7, .mv (.tmp 22), none, [], []⟩])
  (.ghost (.kill [21, 22])))
  (.seq (.seq (.region false [
 ⟨some 24, .mv (.tmp 4), none, [], []⟩,
 ⟨some 25, .mv (.tmp 6), none, [], []⟩,
 ⟨some 26, .mv (.tmp 7), none, [], []⟩,
 ⟨some 27, .bin .add (.tmp 26) (.cst (.int .i64 1)), none, [], []⟩,
 ⟨some 28, .build [(.int .i64 0), (.int .i64 0)] [(0, 1, (.tmp 25)), (1, 1, (.tmp 27))], none, [], []⟩,
 ⟨some 29, .lookup (.row [(0, 1, false, (.int .i64)), (1, 1, false, (.int .i64))]) (.int .i64 0) true (.tmp 24) (.tmp 28), none, [], []⟩,
 ⟨some 23, .mv (.tmp 29), none, [], []⟩,
 ⟨some 30, .extr (.tmp 23) 0, none, [], []⟩,
 ⟨some 31, .extr (.tmp 23) 1, none, [], []⟩,
 ⟨some 8, .mv (.tmp 30), none, [], []⟩,
 ⟨some 9, .mv (.tmp 31), none, [], []⟩])
  (.ghost (.kill [23, 24, 25, 26, 27, 28, 29, 30, 31])))
  (.seq (.seq (.region false [
 ⟨some 32, .mv (.tmp 9), none, [], []⟩,
 ⟨some 33, .un .not (.tmp 32), none, [], []⟩,
 ⟨some 34, .mv (.tmp 33), none, [], []⟩,
 ⟨some 35, .mv (.tmp 0), (some ((some 34), false)), [], []⟩,
 ⟨some 36, .mv (.tmp 8), (some ((some 34), false)), [], []⟩,
 ⟨some 37, .iaddr 5 (.tmp 35) (.tmp 36), (some ((some 34), false)), [], []⟩,
 ⟨some 38, .load true 5 (.tmp 37), (some ((some 34), false)), [], []⟩,
 ⟨some 39, .call true i_cut_WellFormed [(.tmp 38)], (some ((some 34), false)), [], []⟩,
 ⟨some 40, .un .not (.tmp 39), (some ((some 34), false)), [], []⟩,
 ⟨some 41, .pick (.tmp 34) (.cst (.bool true)) (.tmp 40), none, [], []⟩,
 ⟨some 42, .mv (.tmp 41), none, [], []⟩,
 ⟨some 43, .mv (.tmp 0), (some ((some 42), false)), [], []⟩,
 ⟨some 44, .mv (.tmp 8), (some ((some 42), false)), [], []⟩,
 ⟨some 45, .iaddr 5 (.tmp 43) (.tmp 44), (some ((some 42), false)), [], []⟩,
 ⟨some 46, .faddr 2 (.tmp 45), (some ((some 42), false)), [], []⟩,
 ⟨some 47, .load false 1 (.tmp 46), (some ((some 42), false)), [], []⟩,
 ⟨some 48, .mv (.tmp 1), (some ((some 42), false)), [], []⟩,
 ⟨some 49, .call true i_cut_Leq [(.tmp 47), (.tmp 48)], (some ((some 42), false)), [], []⟩,
 ⟨some 50, .un .not (.tmp 49), (some ((some 42), false)), [], []⟩,
 ⟨some 51, .pick (.tmp 42) (.cst (.bool true)) (.tmp 50), none, [], []⟩])
  (.ghost (.kill [8, 9, 32, 33, 34, 35, 36, 37, 38, 39, 40, 41, 42, 43, 44, 45, 46, 47, 48, 49, 50])))
  (.cond (.tmp 51) (.seq (.seq (.region false [
      ⟨some 52, .mv (.tmp 1), none, [], []⟩,
      ⟨some 53, .mv (.tmp 6), none, [], []⟩,
      ⟨some 54, .mv (.tmp 7), none, [], []⟩,
      ⟨some 55, .iaddr 1 (.tmp 52) (.tmp 53), none, [], []⟩,
      ⟨none, .store 1 (.tmp 55) (.tmp 54), none, [], []⟩,
      ⟨some 5, .mv (.cst (.bool true)), none, [], []⟩])
    (.ghost (.kill [6, 7, 13, 19, 20, 51, 52, 53, 54, 55])))
    (.exit 1))
  .skip)))))
  (.ghost (.kill [7, 51])))
  (.seq (.region false [
 ⟨some 56, .bin .add (.tmp 20) (.cst (.int .i64 1)), none, [], []⟩,
 ⟨some 20, .mv (.tmp 56), none, [], []⟩])
  (.ghost (.kill [56]))))))
def cut_reach.b1 : ACode := (.seq (.region false [
 ⟨some 14, .bin .lss (.tmp 13) (.cst (.int .i64 6)), none, [], []⟩])
  (.seq (.cond (.tmp 14) .skip
  (.exit 2))
  (.seq (.block 3 (.seq (.seq (.region false [
 ⟨some 15, .mv (.tmp 13), none, [], []⟩,
 ⟨some 6, .mv (.tmp 15), none, [], []⟩])
  (.ghost (.kill [14, 15])))
  (.seq (.seq (.region false [
 ⟨some 16, .mv (.tmp 1), none, [], []⟩,
 ⟨some 17, .mv (.tmp 6), none, [], []⟩,
 ⟨some 18, .iaddr 1 (.tmp 16) (.tmp 17), none, [], []⟩,
 ⟨some 19, .load false 1 (.tmp 18), none, [], []⟩,
 ⟨some 20, .mv (.cst (.int .i64 0)), none, [], []⟩])
  (.ghost (.kill [16, 17, 18])))
  (.seq (.block 4 (.loop cut_reach.b2))
  cut_reach.c2))))
  cut_reach.c1)))
def cut_reach.b0 : ACode := (.seq (.seq (.seq (.region false [
 ⟨some 12, .mv (.tmp 5), none, [], []⟩])
  (.ghost (.kill [5])))
  (.cond (.tmp 12) .skip
  (.exit 0)))
  (.block 1 (.seq (.seq (.region false [
 ⟨some 5, .mv (.cst (.bool false)), none, [], []⟩])
  (.ghost (.kill [12])))
  (.seq (.region false [
 ⟨some 13, .mv (.cst (.int .i64 0)), none, [], []⟩])
  (.seq (.block 2 (.loop cut_reach.b1))
  (.ghost (.kill [13, 14])))))))
def cut_reach.main : ACode := (.scope (.seq (.seq (.region false [
 ⟨some 10, .mv (.tmp 0), none, [], []⟩,
 ⟨some 11, .call true i_cut_indices [(.tmp 10)], none, [], []⟩,
 ⟨some 4, .mv (.tmp 11), none, [], []⟩])
  (.ghost (.kill [10, 11])))
  (.seq (.region false [
 ⟨some 5, .mv (.cst (.bool true)), none, [], []⟩])
  (.seq .skip
  (.seq (.block 0 (.loop cut_reach.b0))
  cut_reach.c0)))))
def cut_reach.k2 : List Item := [.inBlock 4, .code cut_reach.c2, .inBlock 3, .code cut_reach.c1, .inLoop cut_reach.b1, .inBlock 2, .code (.ghost (.kill [13, 14])), .inBlock 1, .inLoop cut_reach.b0, .inBlock 0, .code cut_reach.c0]
def cut_reach.k1 : List Item := [.inBlock 2, .code (.ghost (.kill [13, 14])), .inBlock 1, .inLoop cut_reach.b0, .inBlock 0, .code cut_reach.c0]
def cut_reach.k0 : List Item := [.inBlock 0, .code cut_reach.c0]
def cut_reach : AFunc := ⟨58, [], cut_reach.main⟩
/-- slices.Equal[[]int,int] -/
def slices_Equal_int.c0 : ACode := (.seq (.region false [
 ⟨some 4, .mv (.cst (.bool true)), none, [], []⟩])
  .ret)
def slices_Equal_int.c1 : ACode := (.ghost (.kill [0, 1, 12, 13, 14]))
def slices_Equal_int.b0 : ACode := (.seq (.region false [
 ⟨some 14, .bin .lss (.tmp 13) (.tmp 12), none, [], []⟩])
  (.seq (.cond (.tmp 14) .skip
  (.exit 0))
  (.seq (.seq (.block 1 (.seq (.seq (.region false [
 ⟨some 15, .mv (.tmp 13), none, [], []⟩,
 ⟨some 5, .mv (.tmp 15), none, [], []⟩])
  (.ghost (.kill [14, 15])))
  (.seq (.seq (.region true [
 ⟨some 16, .mv (.tmp 0), none, [], [0]⟩,
 ⟨some 17, .mv (.tmp 5), none, [], [5]⟩,
 ⟨some 18, .iaddr 1 (.tmp 16) (.tmp 17), none, [0, 1], [16, 17]⟩,
 ⟨some 19, .load false 1 (.tmp 18), none, [2], [18]⟩,
 ⟨some 20, .mv (.tmp 1), none, [], [1]⟩,
 ⟨some 21, .mv (.tmp 5), none, [], [5]⟩,
 ⟨some 22, .iaddr 1 (.tmp 20) (.tmp 21), none, [4, 5], [20, 21]⟩,
 ⟨some 23, .load false 1 (.tmp 22), none, [6], [22]⟩,
 ⟨some 24, .bin .neq (.tmp 19) (.tmp 23), none, [3, 7], [19, 23]⟩])
  (.ghost (.kill [5, 16, 17, 18, 19, 20, 21, 22, 23])))
  (.cond (.tmp 24) (.seq (.region false [
      ⟨some 4, .mv (.cst (.bool false)), none, [], []⟩])
    .ret)
  .skip))))
  (.ghost (.kill [24])))
  (.seq (.region false [
 ⟨some 25, .bin .add (.tmp 13) (.cst (.int .i64 1)), none, [], []⟩,
 ⟨some 13, .mv (.tmp 25), none, [], []⟩])
  (.ghost (.kill [25]))))))
def slices_Equal_int.main : ACode := (.seq (.seq (.region false [
 ⟨some 4, .mv (.cst (.bool false)), none, [], []⟩])
  (.ghost (.kill [4])))
  (.seq (.seq (.seq (.region false [
 ⟨some 6, .mv (.tmp 0), none, [], []⟩,
 ⟨some 7, .len .sl (.tmp 6), none, [], []⟩,
 ⟨some 8, .mv (.tmp 1), none, [], []⟩,
 ⟨some 9, .len .sl (.tmp 8), none, [], []⟩,
 ⟨some 10, .bin .neq (.tmp 7) (.tmp 9), none, [], []⟩])
  (.ghost (.kill [6, 7, 8, 9])))
  (.cond (.tmp 10) (.seq (.region false [
      ⟨some 4, .mv (.cst (.bool false)), none, [], []⟩])
    .ret)
  .skip))
  (.seq (.seq (.seq (.region false [
 ⟨some 11, .mv (.tmp 0), none, [], []⟩,
 ⟨some 12, .len .sl (.tmp 11), none, [], []⟩,
 ⟨some 13, .mv (.cst (.int .i64 0)), none, [], []⟩])
  (.ghost (.kill [10, 11])))
  (.seq (.block 0 (.loop slices_Equal_int.b0))
  slices_Equal_int.c1))
  slices_Equal_int.c0)))
def slices_Equal_int.k0 : List Item := [.inBlock 0, .code slices_Equal_int.c1, .code slices_Equal_int.c0]
def slices_Equal_int : AFunc := ⟨26, [.tmp 4], slices_Equal_int.main⟩
/-- slices.pdqsortCmpFunc[int] -/
def slices_pdqsortCmpFunc_int.c0 : ACode := (.seq (.seq (.seq (.region true [
 ⟨some 81, .mv (.tmp 1), none, [], [1]⟩,
 ⟨some 82, .bin .gtr (.tmp 81) (.cst (.int .i64 0)), none, [0], [81]⟩,
 ⟨some 83, .mv (.tmp 82), none, [1], [82]⟩,
 ⟨some 84, .mv (.tmp 4), (some ((some 83), true)), [2], [4]⟩,
 ⟨some 85, .mv (.tmp 0), (some ((some 83), true)), [2], [0]⟩,
 ⟨some 86, .mv (.tmp 1), (some ((some 83), true)), [2], [1]⟩,
 ⟨some 87, .bin .sub (.tmp 86) (.cst (.int .i64 1)), (some ((some 83), true)), [5, 2], [86]⟩,
 ⟨some 88, .iaddr 1 (.tmp 85) (.tmp 87), (some ((some 83), true)), [4, 6, 2], [85, 87]⟩,
 ⟨some 89, .load false 1 (.tmp 88), (some ((some 83), true)), [7, 2], [88]⟩,
 ⟨some 90, .mv (.tmp 0), (some ((some 83), true)), [2], [0]⟩,
 ⟨some 91, .mv (.tmp 13), (some ((some 83), true)), [2], [13]⟩,
 ⟨some 92, .iaddr 1 (.tmp 90) (.tmp 91), (some ((some 83), true)), [9, 10, 2], [90, 91]⟩,
 ⟨some 93, .load false 1 (.tmp 92), (some ((some 83), true)), [11, 2], [92]⟩,
 ⟨some 94, .callv true (.tmp 84) [(.tmp 89), (.tmp 93)], (some ((some 83), true)), [3, 8, 12, 2, 2], [84, 89, 93]⟩,
 ⟨some 95, .bin .lss (.tmp 94) (.cst (.int .i64 0)), (some ((some 83), true)), [13, 2], [94]⟩,
 ⟨some 96, .un .not (.tmp 95), (some ((some 83), true)), [14, 2], [95]⟩,
 ⟨some 97, .pick (.tmp 83) (.tmp 96) (.cst (.bool false)), none, [2, 15], [83, 96]⟩])
  (.ghost (.kill [81, 82, 83, 84, 85, 86, 87, 88, 89, 90, 91, 92, 93, 94, 95, 96])))
  (.cond (.tmp 97) (.seq (.seq (.region false [
      ⟨some 98, .mv (.tmp 0), none, [], []⟩,
      ⟨some 99, .mv (.tmp 1), none, [], []⟩,
      ⟨some 100, .mv (.tmp 2), none, [], []⟩,
      ⟨some 101, .mv (.tmp 13), none, [], []⟩,
      ⟨some 102, .mv (.tmp 4), none, [], []⟩,
      ⟨some 103, .call false i_slices_partitionEqualCmpFunc_int [(.tmp 98), (.tmp 99), (.tmp 100), (.tmp 101), (.tmp 102)], none, [], []⟩,
      ⟨some 15, .mv (.tmp 103), none, [], []⟩])
    (.ghost (.kill [1, 12, 13, 97, 98, 99, 100, 101, 102, 103])))
    (.seq (.seq (.region false [
      ⟨some 104, .mv (.tmp 15), none, [], []⟩,
      ⟨some 1, .mv (.tmp 104), none, [], []⟩])
    (.ghost (.kill [15, 104])))
    (.exit 1)))
  .skip))
  (.seq (.seq (.region false [
 ⟨some 106, .mv (.tmp 0), none, [], []⟩,
 ⟨some 107, .mv (.tmp 1), none, [], []⟩,
 ⟨some 108, .mv (.tmp 2), none, [], []⟩,
 ⟨some 109, .mv (.tmp 13), none, [], []⟩,
 ⟨some 110, .mv (.tmp 4), none, [], []⟩,
 ⟨some 111, .call false i_slices_partitionCmpFunc_int [(.tmp 106), (.tmp 107), (.tmp 108), (.tmp 109), (.tmp 110)], none, [], []⟩,
 ⟨some 105, .mv (.tmp 111), none, [], []⟩,
 ⟨some 112, .extr (.tmp 105) 0, none, [], []⟩,
 ⟨some 113, .extr (.tmp 105) 1, none, [], []⟩,
 ⟨some 16, .mv (.tmp 112), none, [], []⟩,
 ⟨some 17, .mv (.tmp 113), none, [], []⟩])
  (.ghost (.kill [10, 11, 13, 97, 105, 106, 107, 108, 109, 110, 111, 112, 113])))
  (.seq (.seq (.region false [
 ⟨some 114, .mv (.tmp 17), none, [], []⟩,
 ⟨some 11, .mv (.tmp 114), none, [], []⟩])
  (.ghost (.kill [17, 114])))
  (.seq (.seq (.region false [
 ⟨some 115, .mv (.tmp 16), none, [], []⟩,
 ⟨some 116, .mv (.tmp 1), none, [], []⟩,
 ⟨some 117, .bin .sub (.tmp 115) (.tmp 116), none, [], []⟩,
 ⟨some 118, .mv (.tmp 2), none, [], []⟩,
 ⟨some 119, .mv (.tmp 16), none, [], []⟩,
 ⟨some 120, .bin .sub (.tmp 118) (.tmp 119), none, [], []⟩,
 ⟨some 18, .mv (.tmp 117), none, [], []⟩,
 ⟨some 19, .mv (.tmp 120), none, [], []⟩])
  (.ghost (.kill [115, 116, 117, 118, 119, 120])))
  (.seq (.seq (.region false [
 ⟨some 121, .mv (.tmp 12), none, [], []⟩,
 ⟨some 122, .bin .quo (.tmp 121) (.cst (.int .i64 8)), none, [], []⟩,
 ⟨some 20, .mv (.tmp 122), none, [], []⟩])
  (.ghost (.kill [12, 121, 122])))
  (.seq (.seq (.region false [
 ⟨some 123, .mv (.tmp 18), none, [], []⟩,
 ⟨some 124, .mv (.tmp 19), none, [], []⟩,
 ⟨some 125, .bin .lss (.tmp 123) (.tmp 124), none, [], []⟩])
  (.ghost (.kill [123, 124])))
  (.cond (.tmp 125) (.seq (.seq (.region false [
      ⟨some 126, .mv (.tmp 18), none, [], []⟩,
      ⟨some 127, .mv (.tmp 20), none, [], []⟩,
      ⟨some 128, .bin .geq (.tmp 126) (.tmp 127), none, [], []⟩,
      ⟨some 10, .mv (.tmp 128), none, [], []⟩])
    (.ghost (.kill [18, 19, 20, 125, 126, 127, 128])))
    (.seq (.seq (.region false [
      ⟨some 129, .mv (.tmp 0), none, [], []⟩,
      ⟨some 130, .mv (.tmp 1), none, [], []⟩,
      ⟨some 131, .mv (.tmp 16), none, [], []⟩,
      ⟨some 132, .mv (.tmp 3), none, [], []⟩,
      ⟨some 133, .mv (.tmp 4), none, [], []⟩,
      ⟨some 134, .call false i_slices_pdqsortCmpFunc_int [(.tmp 129), (.tmp 130), (.tmp 131), (.tmp 132), (.tmp 133)], none, [], []⟩])
    (.ghost (.kill [1, 129, 130, 131, 132, 133, 134])))
    (.seq (.region false [
      ⟨some 135, .mv (.tmp 16), none, [], []⟩,
      ⟨some 136, .bin .add (.tmp 135) (.cst (.int .i64 1)), none, [], []⟩,
      ⟨some 1, .mv (.tmp 136), none, [], []⟩])
    (.ghost (.kill [16, 135, 136])))))
  (.seq (.seq (.region false [
      ⟨some 137, .mv (.tmp 19), none, [], []⟩,
      ⟨some 138, .mv (.tmp 20), none, [], []⟩,
      ⟨some 139, .bin .geq (.tmp 137) (.tmp 138), none, [], []⟩,
      ⟨some 10, .mv (.tmp 139), none, [], []⟩])
    (.ghost (.kill [18, 19, 20, 125, 137, 138, 139])))
    (.seq (.seq (.region false [
      ⟨some 140, .mv (.tmp 0), none, [], []⟩,
      ⟨some 141, .mv (.tmp 16), none, [], []⟩,
      ⟨some 142, .bin .add (.tmp 141) (.cst (.int .i64 1)), none, [], []⟩,
      ⟨some 143, .mv (.tmp 2), none, [], []⟩,
      ⟨some 144, .mv (.tmp 3), none, [], []⟩,
      ⟨some 145, .mv (.tmp 4), none, [], []⟩,
      ⟨some 146, .call false i_slices_pdqsortCmpFunc_int [(.tmp 140), (.tmp 142), (.tmp 143), (.tmp 144), (.tmp 145)], none, [], []⟩])
    (.ghost (.kill [2, 140, 141, 142, 143, 144, 145, 146])))
    (.seq (.region false [
      ⟨some 147, .mv (.tmp 16), none, [], []⟩,
      ⟨some 2, .mv (.tmp 147), none, [], []⟩])
    (.ghost (.kill [16, 147]))))))))))))
def slices_pdqsortCmpFunc_int.c1 : ACode := (.seq (.seq (.seq (.region false [
 ⟨some 68, .mv (.tmp 10), none, [], []⟩,
 ⟨some 69, .mv (.tmp 68), none, [], []⟩,
 ⟨some 70, .mv (.tmp 11), (some ((some 69), true)), [], []⟩,
 ⟨some 71, .pick (.tmp 69) (.tmp 70) (.cst (.bool false)), none, [], []⟩,
 ⟨some 72, .mv (.tmp 71), none, [], []⟩,
 ⟨some 73, .mv (.tmp 14), (some ((some 72), true)), [], []⟩,
 ⟨some 74, .bin .eql (.tmp 73) (.cst (.int .i64 1)), (some ((some 72), true)), [], []⟩,
 ⟨some 75, .pick (.tmp 72) (.tmp 74) (.cst (.bool false)), none, [], []⟩])
  (.ghost (.kill [14, 68, 69, 70, 71, 72, 73, 74])))
  (.seq (.cond (.tmp 75) (.seq (.seq (.region false [
      ⟨some 76, .mv (.tmp 0), none, [], []⟩,
      ⟨some 77, .mv (.tmp 1), none, [], []⟩,
      ⟨some 78, .mv (.tmp 2), none, [], []⟩,
      ⟨some 79, .mv (.tmp 4), none, [], []⟩,
      ⟨some 80, .call false i_slices_partialInsertionSortCmpFunc_int [(.tmp 76), (.tmp 77), (.tmp 78), (.tmp 79)], none, [], []⟩])
    (.ghost (.kill [75, 76, 77, 78, 79])))
    (.cond (.tmp 80) .ret
    .skip))
  .skip)
  (.ghost (.kill [75, 80]))))
  slices_pdqsortCmpFunc_int.c0)
def slices_pdqsortCmpFunc_int.c2 : ACode := (.seq (.seq (.region false [
 ⟨some 48, .mv (.tmp 0), none, [], []⟩,
 ⟨some 49, .mv (.tmp 1), none, [], []⟩,
 ⟨some 50, .mv (.tmp 2), none, [], []⟩,
 ⟨some 51, .mv (.tmp 4), none, [], []⟩,
 ⟨some 52, .call false i_slices_choosePivotCmpFunc_int [(.tmp 48), (.tmp 49), (.tmp 50), (.tmp 51)], none, [], []⟩,
 ⟨some 47, .mv (.tmp 52), none, [], []⟩,
 ⟨some 53, .extr (.tmp 47) 0, none, [], []⟩,
 ⟨some 54, .extr (.tmp 47) 1, none, [], []⟩,
 ⟨some 13, .mv (.tmp 53), none, [], []⟩,
 ⟨some 14, .mv (.tmp 54), none, [], []⟩])
  (.ghost (.kill [47, 48, 49, 50, 51, 52, 53, 54])))
  (.seq (.seq (.seq (.region false [
 ⟨some 55, .mv (.tmp 14), none, [], []⟩,
 ⟨some 56, .bin .eql (.tmp 55) (.cst (.int .i64 2)), none, [], []⟩])
  (.ghost (.kill [55])))
  (.seq (.cond (.tmp 56) (.seq (.seq (.region false [
      ⟨some 57, .mv (.tmp 0), none, [], []⟩,
      ⟨some 58, .mv (.tmp 1), none, [], []⟩,
      ⟨some 59, .mv (.tmp 2), none, [], []⟩,
      ⟨some 60, .mv (.tmp 4), none, [], []⟩,
      ⟨some 61, .call false i_slices_reverseRangeCmpFunc_int [(.tmp 57), (.tmp 58), (.tmp 59), (.tmp 60)], none, [], []⟩])
    (.ghost (.kill [14, 56, 57, 58, 59, 60, 61])))
    (.seq (.seq (.region false [
      ⟨some 62, .mv (.tmp 2), none, [], []⟩,
      ⟨some 63, .bin .sub (.tmp 62) (.cst (.int .i64 1)), none, [], []⟩,
      ⟨some 64, .mv (.tmp 13), none, [], []⟩,
      ⟨some 65, .mv (.tmp 1), none, [], []⟩,
      ⟨some 66, .bin .sub (.tmp 64) (.tmp 65), none, [], []⟩,
      ⟨some 67, .bin .sub (.tmp 63) (.tmp 66), none, [], []⟩,
      ⟨some 13, .mv (.tmp 67), none, [], []⟩])
    (.ghost (.kill [62, 63, 64, 65, 66, 67])))
    (.region false [
      ⟨some 14, .mv (.cst (.int .i64 1)), none, [], []⟩])))
  .skip)
  (.ghost (.kill [56]))))
  slices_pdqsortCmpFunc_int.c1))
def slices_pdqsortCmpFunc_int.b0 : ACode := (.trunc (.block 1 (.seq (.seq (.region false [
 ⟨some 21, .mv (.tmp 2), none, [], []⟩,
 ⟨some 22, .mv (.tmp 1), none, [], []⟩,
 ⟨some 23, .bin .sub (.tmp 21) (.tmp 22), none, [], []⟩,
 ⟨some 12, .mv (.tmp 23), none, [], []⟩])
  (.ghost (.kill [21, 22, 23])))
  (.seq (.seq (.seq (.region false [
 ⟨some 24, .mv (.tmp 12), none, [], []⟩,
 ⟨some 25, .bin .leq (.tmp 24) (.cst (.int .i64 12)), none, [], []⟩])
  (.ghost (.kill [24])))
  (.cond (.tmp 25) (.seq (.region false [
      ⟨some 26, .mv (.tmp 0), none, [], []⟩,
      ⟨some 27, .mv (.tmp 1), none, [], []⟩,
      ⟨some 28, .mv (.tmp 2), none, [], []⟩,
      ⟨some 29, .mv (.tmp 4), none, [], []⟩,
      ⟨some 30, .call false i_slices_insertionSortCmpFunc_int [(.tmp 26), (.tmp 27), (.tmp 28), (.tmp 29)], none, [], []⟩])
    .ret)
  .skip))
  (.seq (.seq (.seq (.region false [
 ⟨some 31, .mv (.tmp 3), none, [], []⟩,
 ⟨some 32, .bin .eql (.tmp 31) (.cst (.int .i64 0)), none, [], []⟩])
  (.ghost (.kill [25, 31])))
  (.cond (.tmp 32) (.seq (.region false [
      ⟨some 33, .mv (.tmp 0), none, [], []⟩,
      ⟨some 34, .mv (.tmp 1), none, [], []⟩,
      ⟨some 35, .mv (.tmp 2), none, [], []⟩,
      ⟨some 36, .mv (.tmp 4), none, [], []⟩,
      ⟨some 37, .call false i_slices_heapSortCmpFunc_int [(.tmp 33), (.tmp 34), (.tmp 35), (.tmp 36)], none, [], []⟩])
    .ret)
  .skip))
  (.seq (.seq (.seq (.region false [
 ⟨some 38, .mv (.tmp 10), none, [], []⟩,
 ⟨some 39, .un .not (.tmp 38), none, [], []⟩])
  (.ghost (.kill [32, 38])))
  (.seq (.cond (.tmp 39) (.seq (.seq (.region false [
      ⟨some 40, .mv (.tmp 0), none, [], []⟩,
      ⟨some 41, .mv (.tmp 1), none, [], []⟩,
      ⟨some 42, .mv (.tmp 2), none, [], []⟩,
      ⟨some 43, .mv (.tmp 4), none, [], []⟩,
      ⟨some 44, .call false i_slices_breakPatternsCmpFunc_int [(.tmp 40), (.tmp 41), (.tmp 42), (.tmp 43)], none, [], []⟩])
    (.ghost (.kill [39, 40, 41, 42, 43, 44])))
    (.seq (.region false [
      ⟨some 45, .mv (.tmp 3), none, [], []⟩,
      ⟨some 46, .bin .sub (.tmp 45) (.cst (.int .i64 1)), none, [], []⟩,
      ⟨some 3, .mv (.tmp 46), none, [], []⟩])
    (.ghost (.kill [45, 46]))))
  .skip)
  (.ghost (.kill [39]))))
  slices_pdqsortCmpFunc_int.c2))))))
def slices_pdqsortCmpFunc_int.main : ACode := (.seq (.region false [
 ⟨some 10, .mv (.cst (.bool true)), none, [], []⟩])
  (.seq (.region false [
 ⟨some 11, .mv (.cst (.bool true)), none, [], []⟩])
  (.block 0 (.loop slices_pdqsortCmpFunc_int.b0))))
def slices_pdqsortCmpFunc_int.k0 : List Item := [.inBlock 0]
def slices_pdqsortCmpFunc_int : AFunc := ⟨148, [], slices_pdqsortCmpFunc_int.main⟩
/-- math/bits.Len -/
def bits_Len.main : ACode := (.seq (.seq (.region false [
 ⟨some 2, .mv (.cst (.int .i64 0)), none, [], []⟩])
  (.ghost (.kill [2])))
  (.seq (.cond (.cst (.bool false)) (.seq (.region false [
      ⟨some 3, .mv (.tmp 0), none, [], []⟩,
      ⟨some 4, .conv .u32 (.tmp 3), none, [], []⟩,
      ⟨some 5, .call true i_bits_Len32 [(.tmp 4)], none, [], []⟩,
      ⟨some 2, .mv (.tmp 5), none, [], []⟩])
    .ret)
  .skip)
  (.seq (.region false [
 ⟨some 6, .mv (.tmp 0), none, [], []⟩,
 ⟨some 7, .call true i_bits_Len64 [(.tmp 6)], none, [], []⟩,
 ⟨some 2, .mv (.tmp 7), none, [], []⟩])
  .ret)))
def bits_Len : AFunc := ⟨8, [.tmp 2], bits_Len.main⟩
/-- cmp.Or[int] -/
def cmp_Or_int.c0 : ACode := (.seq (.region false [
 ⟨some 17, .mv (.tmp 3), none, [], []⟩,
 ⟨some 2, .mv (.tmp 17), none, [], []⟩])
  .ret)
def cmp_Or_int.b0 : ACode := (.seq (.region false [
 ⟨some 9, .bin .lss (.tmp 8) (.tmp 7), none, [], []⟩])
  (.seq (.cond (.tmp 9) .skip
  (.exit 0))
  (.seq (.seq (.block 1 (.seq (.seq (.region false [
 ⟨some 10, .iaddr 1 (.tmp 6) (.tmp 8), none, [], []⟩,
 ⟨some 11, .load false 1 (.tmp 10), none, [], []⟩,
 ⟨some 5, .mv (.tmp 11), none, [], []⟩])
  (.ghost (.kill [9, 10, 11])))
  (.seq (.seq (.region false [
 ⟨some 12, .mv (.tmp 5), none, [], []⟩,
 ⟨some 13, .mv (.tmp 3), none, [], []⟩,
 ⟨some 14, .bin .neq (.tmp 12) (.tmp 13), none, [], []⟩])
  (.ghost (.kill [12, 13])))
  (.cond (.tmp 14) (.seq (.region false [
      ⟨some 15, .mv (.tmp 5), none, [], []⟩,
      ⟨some 2, .mv (.tmp 15), none, [], []⟩])
    .ret)
  .skip))))
  (.ghost (.kill [5, 14])))
  (.seq (.region false [
 ⟨some 16, .bin .add (.tmp 8) (.cst (.int .i64 1)), none, [], []⟩,
 ⟨some 8, .mv (.tmp 16), none, [], []⟩])
  (.ghost (.kill [16]))))))
def cmp_Or_int.main : ACode := (.seq (.seq (.region false [
 ⟨some 2, .mv (.cst (.int .i64 0)), none, [], []⟩])
  (.ghost (.kill [2])))
  (.seq (.region false [
 ⟨some 3, .mv (.cst (.int .i64 0)), none, [], []⟩])
  (.seq (.seq (.seq (.region false [
 ⟨some 6, .mv (.tmp 0), none, [], []⟩,
 ⟨some 7, .len .sl (.tmp 6), none, [], []⟩,
 ⟨some 8, .mv (.cst (.int .i64 0)), none, [], []⟩])
  (.ghost (.kill [0])))
  (.seq (.block 0 (.loop cmp_Or_int.b0))
  (.ghost (.kill [6, 7, 8, 9]))))
  cmp_Or_int.c0)))
def cmp_Or_int.k0 : List Item := [.inBlock 0, .code (.ghost (.kill [6, 7, 8, 9])), .code cmp_Or_int.c0]
def cmp_Or_int : AFunc := ⟨18, [.tmp 2], cmp_Or_int.main⟩
/-- cmp.Compare[int] -/
def cmp_Compare_int.main : ACode := (.seq (.seq (.region false [
 ⟨some 4, .mv (.cst (.int .i64 0)), none, [], []⟩])
  (.ghost (.kill [4])))
  (.seq (.seq (.region false [
 ⟨some 7, .mv (.tmp 0), none, [], []⟩,
 ⟨some 8, .call true i_cmp_isNaN_int [(.tmp 7)], none, [], []⟩,
 ⟨some 5, .mv (.tmp 8), none, [], []⟩])
  (.ghost (.kill [7, 8])))
  (.seq (.seq (.region false [
 ⟨some 9, .mv (.tmp 1), none, [], []⟩,
 ⟨some 10, .call true i_cmp_isNaN_int [(.tmp 9)], none, [], []⟩,
 ⟨some 6, .mv (.tmp 10), none, [], []⟩])
  (.ghost (.kill [9, 10])))
  (.seq (.seq (.seq (.region false [
 ⟨some 11, .mv (.tmp 5), none, [], []⟩])
  (.ghost (.kill [5])))
  (.cond (.tmp 11) (.seq (.seq (.seq (.region false [
      ⟨some 12, .mv (.tmp 6), none, [], []⟩])
    (.ghost (.kill [0, 1, 6, 11])))
    (.cond (.tmp 12) (.seq (.region false [
        ⟨some 4, .mv (.cst (.int .i64 0)), none, [], []⟩])
      .ret)
    .skip))
    (.seq (.region false [
      ⟨some 4, .mv (.cst (.int .i64 (-1))), none, [], []⟩])
    .ret))
  .skip))
  (.seq (.seq (.seq (.region false [
 ⟨some 13, .mv (.tmp 6), none, [], []⟩])
  (.ghost (.kill [6, 11])))
  (.cond (.tmp 13) (.seq (.region false [
      ⟨some 4, .mv (.cst (.int .i64 1)), none, [], []⟩])
    .ret)
  .skip))
  (.seq (.seq (.seq (.region false [
 ⟨some 14, .mv (.tmp 0), none, [], []⟩,
 ⟨some 15, .mv (.tmp 1), none, [], []⟩,
 ⟨some 16, .bin .lss (.tmp 14) (.tmp 15), none, [], []⟩])
  (.ghost (.kill [13, 14, 15])))
  (.cond (.tmp 16) (.seq (.region false [
      ⟨some 4, .mv (.cst (.int .i64 (-1))), none, [], []⟩])
    .ret)
  .skip))
  (.seq (.seq (.seq (.region false [
 ⟨some 17, .mv (.tmp 0), none, [], []⟩,
 ⟨some 18, .mv (.tmp 1), none, [], []⟩,
 ⟨some 19, .bin .gtr (.tmp 17) (.tmp 18), none, [], []⟩])
  (.ghost (.kill [0, 1, 16, 17, 18])))
  (.cond (.tmp 19) (.seq (.region false [
      ⟨some 4, .mv (.cst (.int .i64 1)), none, [], []⟩])
    .ret)
  .skip))
  (.seq (.region false [
 ⟨some 4, .mv (.cst (.int .i64 0)), none, [], []⟩])
  .ret))))))))
def cmp_Compare_int : AFunc := ⟨20, [.tmp 4], cmp_Compare_int.main⟩
/-- chapman/cut.weight -/
def cut_weight.c0 : ACode := (.seq (.region false [
 ⟨some 17, .mv (.tmp 3), none, [], []⟩,
 ⟨some 2, .mv (.tmp 17), none, [], []⟩])
  .ret)
def cut_weight.c1 : ACode := (.ghost (.kill [7, 8, 9, 10]))
def cut_weight.b0 : ACode := (.seq (.region false [
 ⟨some 10, .bin .lss (.tmp 9) (.tmp 8), none, [], []⟩])
  (.seq (.cond (.tmp 10) .skip
  (.exit 0))
  (.seq (.block 1 (.seq (.seq (.region false [
 ⟨some 11, .iaddr 1 (.tmp 7) (.tmp 9), none, [], []⟩,
 ⟨some 12, .load false 1 (.tmp 11), none, [], []⟩,
 ⟨some 5, .mv (.tmp 12), none, [], []⟩])
  (.ghost (.kill [10, 11, 12])))
  (.seq (.region false [
 ⟨some 13, .mv (.tmp 3), none, [], []⟩,
 ⟨some 14, .mv (.tmp 5), none, [], []⟩,
 ⟨some 15, .bin .add (.tmp 13) (.tmp 14), none, [], []⟩,
 ⟨some 3, .mv (.tmp 15), none, [], []⟩])
  (.ghost (.kill [5, 13, 14, 15])))))
  (.seq (.region false [
 ⟨some 16, .bin .add (.tmp 9) (.cst (.int .i64 1)), none, [], []⟩,
 ⟨some 9, .mv (.tmp 16), none, [], []⟩])
  (.ghost (.kill [16]))))))
def cut_weight.main : ACode := (.seq (.seq (.region false [
 ⟨some 1, .box 5 (.tmp 0), none, [], []⟩,
 ⟨some 2, .mv (.cst (.int .i64 0)), none, [], []⟩])
  (.ghost (.kill [0, 2])))
  (.seq (.region false [
 ⟨some 3, .mv (.cst (.int .i64 0)), none, [], []⟩])
  (.seq (.seq (.seq (.region false [
 ⟨some 6, .faddr 2 (.tmp 1), none, [], []⟩,
 ⟨some 7, .load false 1 (.tmp 6), none, [], []⟩,
 ⟨some 8, .len .sl (.tmp 7), none, [], []⟩,
 ⟨some 9, .mv (.cst (.int .i64 0)), none, [], []⟩])
  (.ghost (.kill [1, 6])))
  (.seq (.block 0 (.loop cut_weight.b0))
  cut_weight.c1))
  cut_weight.c0)))
def cut_weight.k0 : List Item := [.inBlock 0, .code cut_weight.c1, .code cut_weight.c0]
def cut_weight : AFunc := ⟨18, [.tmp 2], cut_weight.main⟩
/-- slices.ContainsFunc[[]int,int] -/
def slices_ContainsFunc_int.main : ACode := (.seq (.seq (.region false [
 ⟨some 4, .mv (.cst (.bool false)), none, [], []⟩])
  (.ghost (.kill [4])))
  (.seq (.region false [
 ⟨some 5, .mv (.tmp 0), none, [], []⟩,
 ⟨some 6, .mv (.tmp 1), none, [], []⟩,
 ⟨some 7, .call true i_slices_IndexFunc_int [(.tmp 5), (.tmp 6)], none, [], []⟩,
 ⟨some 8, .bin .geq (.tmp 7) (.cst (.int .i64 0)), none, [], []⟩,
 ⟨some 4, .mv (.tmp 8), none, [], []⟩])
  .ret))
def slices_ContainsFunc_int : AFunc := ⟨9, [.tmp 4], slices_ContainsFunc_int.main⟩
/-- chapman/cut.Valid$1 -/
def cut_Valid_1.main : ACode := (.seq (.seq (.region false [
 ⟨some 2, .mv (.cst (.bool false)), none, [], []⟩])
  (.ghost (.kill [2])))
  (.seq (.region false [
 ⟨some 3, .mv (.tmp 0), none, [], []⟩,
 ⟨some 4, .bin .lss (.tmp 3) (.cst (.int .i64 0)), none, [], []⟩,
 ⟨some 5, .mv (.tmp 4), none, [], []⟩,
 ⟨some 6, .mv (.tmp 0), (some ((some 5), false)), [], []⟩,
 ⟨some 7, .bin .gtr (.tmp 6) (.cst (.int .i64 999)), (some ((some 5), false)), [], []⟩,
 ⟨some 8, .pick (.tmp 5) (.cst (.bool true)) (.tmp 7), none, [], []⟩,
 ⟨some 2, .mv (.tmp 8), none, [], []⟩])
  .ret))
def cut_Valid_1 : AFunc := ⟨9, [.tmp 2], cut_Valid_1.main⟩
/-- chapman/chapmanref20.WellFormed -/
def r20_WellFormed.main : ACode := (.seq (.seq (.region false [
 ⟨some 1, .box 5 (.tmp 0), none, [], []⟩,
 ⟨some 2, .mv (.cst (.bool false)), none, [], []⟩])
  (.ghost (.kill [0, 2])))
  (.seq (.seq (.region false [
 ⟨some 4, .faddr 0 (.tmp 1), none, [], []⟩,
 ⟨some 5, .load true 2 (.tmp 4), none, [], []⟩,
 ⟨some 3, .alloc [(.int .i64 0), (.int .i64 0)], none, [], []⟩,
 ⟨none, .store 2 (.tmp 3) (.tmp 5), none, [], []⟩])
  (.ghost (.kill [4, 5])))
  (.seq (.region true [
 ⟨some 6, .faddr 0 (.tmp 3), none, [], [3]⟩,
 ⟨some 7, .load false 1 (.tmp 6), none, [0], [6]⟩,
 ⟨some 8, .bin .geq (.tmp 7) (.cst (.int .i64 0)), none, [1], [7]⟩,
 ⟨some 9, .mv (.tmp 8), none, [2], [8]⟩,
 ⟨some 10, .faddr 0 (.tmp 3), (some ((some 9), true)), [3], [3]⟩,
 ⟨some 11, .load false 1 (.tmp 10), (some ((some 9), true)), [4, 3], [10]⟩,
 ⟨some 12, .bin .lss (.tmp 11) (.cst (.int .i64 6)), (some ((some 9), true)), [5, 3], [11]⟩,
 ⟨some 13, .pick (.tmp 9) (.tmp 12) (.cst (.bool false)), none, [3, 6], [9, 12]⟩,
 ⟨some 14, .mv (.tmp 13), none, [7, 3], [13]⟩,
 ⟨some 15, .faddr 1 (.tmp 3), (some ((some 14), true)), [8], [3]⟩,
 ⟨some 16, .load false 1 (.tmp 15), (some ((some 14), true)), [9, 8], [15]⟩,
 ⟨some 17, .bin .geq (.tmp 16) (.cst (.int .i64 1)), (some ((some 14), true)), [10, 8], [16]⟩,
 ⟨some 18, .pick (.tmp 14) (.tmp 17) (.cst (.bool false)), none, [8, 11], [14, 17]⟩,
 ⟨some 19, .mv (.tmp 18), none, [12, 8], [18]⟩,
 ⟨some 20, .faddr 1 (.tmp 3), (some ((some 19), true)), [13], [3]⟩,
 ⟨some 21, .load false 1 (.tmp 20), (some ((some 19), true)), [14, 13], [20]⟩,
 ⟨some 22, .bin .leq (.tmp 21) (.cst (.int .i64 999)), (some ((some 19), true)), [15, 13], [21]⟩,
 ⟨some 23, .pick (.tmp 19) (.tmp 22) (.cst (.bool false)), none, [13, 16], [19, 22]⟩,
 ⟨some 24, .mv (.tmp 23), none, [17, 13], [23]⟩,
 ⟨some 25, .faddr 2 (.tmp 1), (some ((some 24), true)), [18], [1]⟩,
 ⟨some 26, .load false 1 (.tmp 25), (some ((some 24), true)), [19, 18], [25]⟩,
 ⟨some 27, .call true i_r20_Valid [(.tmp 26)], (some ((some 24), true)), [20, 18, 18], [26]⟩,
 ⟨some 28, .pick (.tmp 24) (.tmp 27) (.cst (.bool false)), none, [18, 21], [24, 27]⟩,
 ⟨some 29, .mv (.tmp 28), none, [22, 21], [28]⟩,
 ⟨some 30, .faddr 2 (.tmp 1), (some ((some 29), true)), [23], [1]⟩,
 ⟨some 31, .load false 1 (.tmp 30), (some ((some 29), true)), [24, 23], [30]⟩,
 ⟨some 32, .faddr 0 (.tmp 3), (some ((some 29), true)), [23], [3]⟩,
 ⟨some 33, .load false 1 (.tmp 32), (some ((some 29), true)), [26, 23], [32]⟩,
 ⟨some 34, .iaddr 1 (.tmp 31) (.tmp 33), (some ((some 29), true)), [25, 27, 23], [31, 33]⟩,
 ⟨some 35, .load false 1 (.tmp 34), (some ((some 29), true)), [28, 23], [34]⟩,
 ⟨some 36, .faddr 1 (.tmp 3), (some ((some 29), true)), [23], [3]⟩,
 ⟨some 37, .load false 1 (.tmp 36), (some ((some 29), true)), [30, 23], [36]⟩,
 ⟨some 38, .bin .sub (.tmp 37) (.cst (.int .i64 1)), (some ((some 29), true)), [31, 23], [37]⟩,
 ⟨some 39, .bin .eql (.tmp 35) (.tmp 38), (some ((some 29), true)), [29, 32, 23], [35, 38]⟩,
 ⟨some 40, .pick (.tmp 29) (.tmp 39) (.cst (.bool false)), none, [23, 33], [29, 39]⟩,
 ⟨some 2, .mv (.tmp 40), none, [34, 23, 0, 1, 2, 3, 4, 5, 6, 7, 8, 9, 10, 11, 12, 13, 14, 15, 16, 17, 18, 19, 20, 21, 22, 23, 24, 25, 26, 27, 28, 29, 30, 31, 32, 33, 34], [40]⟩])
  .ret)))
def r20_WellFormed : AFunc := ⟨41, [.tmp 2], r20_WellFormed.main⟩
/-- slices.insertionSortCmpFunc[chapman/api.Commit] -/
def slices_insertionSortCmpFunc_Commit.c0 : ACode := (.ghost (.kill [0, 1, 2, 3, 8, 14]))
def slices_insertionSortCmpFunc_Commit.c1 : ACode := (.seq (.region false [
 ⟨some 15, .mv (.tmp 8), none, [], []⟩,
 ⟨some 16, .bin .add (.tmp 15) (.cst (.int .i64 1)), none, [], []⟩,
 ⟨some 8, .mv (.tmp 16), none, [], []⟩])
  (.ghost (.kill [15, 16])))
def slices_insertionSortCmpFunc_Commit.b1 : ACode := (.seq (.seq (.seq (.region true [
 ⟨some 18, .mv (.tmp 9), none, [], [9]⟩,
 ⟨some 19, .mv (.tmp 1), none, [], [1]⟩,
 ⟨some 20, .bin .gtr (.tmp 18) (.tmp 19), none, [0, 1], [18, 19]⟩,
 ⟨some 21, .mv (.tmp 20), none, [2], [20]⟩,
 ⟨some 22, .mv (.tmp 3), (some ((some 21), true)), [3], [3]⟩,
 ⟨some 23, .mv (.tmp 0), (some ((some 21), true)), [3], [0]⟩,
 ⟨some 24, .mv (.tmp 9), (some ((some 21), true)), [3], [9]⟩,
 ⟨some 25, .iaddr 5 (.tmp 23) (.tmp 24), (some ((some 21), true)), [5, 6, 3], [23, 24]⟩,
 ⟨some 26, .load true 5 (.tmp 25), (some ((some 21), true)), [7, 3], [25]⟩,
 ⟨some 27, .mv (.tmp 0), (some ((some 21), true)), [3], [0]⟩,
 ⟨some 28, .mv (.tmp 9), (some ((some 21), true)), [3], [9]⟩,
 ⟨some 29, .bin .sub (.tmp 28) (.cst (.int .i64 1)), (some ((some 21), true)), [10, 3], [28]⟩,
 ⟨some 30, .iaddr 5 (.tmp 27) (.tmp 29), (some ((some 21), true)), [9, 11, 3], [27, 29]⟩,
 ⟨some 31, .load true 5 (.tmp 30), (some ((some 21), true)), [12, 3], [30]⟩,
 ⟨some 32, .callv true (.tmp 22) [(.tmp 26), (.tmp 31)], (some ((some 21), true)), [4, 8, 13, 3, 3], [22, 26, 31]⟩,
 ⟨some 33, .bin .lss (.tmp 32) (.cst (.int .i64 0)), (some ((some 21), true)), [14, 3], [32]⟩,
 ⟨some 34, .pick (.tmp 21) (.tmp 33) (.cst (.bool false)), none, [3, 15], [21, 33]⟩])
  (.ghost (.kill [18, 19, 20, 21, 22, 23, 24, 25, 26, 27, 28, 29, 30, 31, 32, 33])))
  (.cond (.tmp 34) .skip
  (.exit 2)))
  (.seq (.block 3 (.seq (.region true [
 ⟨some 37, .mv (.tmp 0), none, [], [0]⟩,
 ⟨some 38, .mv (.tmp 9), none, [], [9]⟩,
 ⟨some 39, .mv (.tmp 0), none, [], [0]⟩,
 ⟨some 40, .mv (.tmp 9), none, [], [9]⟩,
 ⟨some 41, .bin .sub (.tmp 40) (.cst (.int .i64 1)), none, [3], [40]⟩,
 ⟨some 42, .mv (.tmp 0), none, [], [0]⟩,
 ⟨some 43, .mv (.tmp 9), none, [], [9]⟩,
 ⟨some 44, .bin .sub (.tmp 43) (.cst (.int .i64 1)), none, [6], [43]⟩,
 ⟨some 45, .iaddr 5 (.tmp 42) (.tmp 44), none, [5, 7], [42, 44]⟩,
 ⟨some 46, .load true 5 (.tmp 45), none, [8], [45]⟩,
 ⟨some 47, .mv (.tmp 0), none, [], [0]⟩,
 ⟨some 48, .mv (.tmp 9), none, [], [9]⟩,
 ⟨some 49, .iaddr 5 (.tmp 47) (.tmp 48), none, [10, 11], [47, 48]⟩,
 ⟨some 50, .load true 5 (.tmp 49), none, [12], [49]⟩,
 ⟨some 51, .iaddr 5 (.tmp 37) (.tmp 38), none, [0, 1, 0, 1, 5, 6, 7, 8, 9, 13], [37, 38]⟩,
 ⟨none, .store 5 (.tmp 51) (.tmp 46), none, [14, 9, 0, 1, 5, 6, 7, 8, 9, 13], [51, 46]⟩,
 ⟨some 52, .iaddr 5 (.tmp 39) (.tmp 41), none, [2, 4, 0, 1, 2, 3, 4, 5, 6, 7, 8, 9, 10, 11, 12, 13, 14, 15], [39, 41]⟩,
 ⟨none, .store 5 (.tmp 52) (.tmp 50), none, [16, 13, 15, 0, 1, 2, 3, 4, 5, 6, 7, 8, 9, 10, 11, 12, 13, 14, 15], [52, 50]⟩])
  (.ghost (.kill [34, 37, 38, 39, 40, 41, 42, 43, 44, 45, 46, 47, 48, 49, 50, 51, 52]))))
  (.seq (.region false [
 ⟨some 35, .mv (.tmp 9), none, [], []⟩,
 ⟨some 36, .bin .sub (.tmp 35) (.cst (.int .i64 1)), none, [], []⟩,
 ⟨some 9, .mv (.tmp 36), none, [], []⟩])
  (.ghost (.kill [35, 36])))))
def slices_insertionSortCmpFunc_Commit.b0 : ACode := (.seq (.seq (.seq (.region false [
 ⟨some 12, .mv (.tmp 8), none, [], []⟩,
 ⟨some 13, .mv (.tmp 2), none, [], []⟩,
 ⟨some 14, .bin .lss (.tmp 12) (.tmp 13), none, [], []⟩])
  (.ghost (.kill [12, 13])))
  (.cond (.tmp 14) .skip
  (.exit 0)))
  (.seq (.block 1 (.seq (.seq (.region false [
 ⟨some 17, .mv (.tmp 8), none, [], []⟩,
 ⟨some 9, .mv (.tmp 17), none, [], []⟩])
  (.ghost (.kill [14, 17])))
  (.seq (.block 2 (.loop slices_insertionSortCmpFunc_Commit.b1))
  (.ghost (.kill [9, 34])))))
  slices_insertionSortCmpFunc_Commit.c1))
def slices_insertionSortCmpFunc_Commit.main : ACode := (.seq (.seq (.region false [
 ⟨some 10, .mv (.tmp 1), none, [], []⟩,
 ⟨some 11, .bin .add (.tmp 10) (.cst (.int .i64 1)), none, [], []⟩,
 ⟨some 8, .mv (.tmp 11), none, [], []⟩])
  (.ghost (.kill [10, 11])))
  (.seq (.block 0 (.loop slices_insertionSortCmpFunc_Commit.b0))
  slices_insertionSortCmpFunc_Commit.c0))
def slices_insertionSortCmpFunc_Commit.k1 : List Item := [.inBlock 2, .code (.ghost (.kill [9, 34])), .inBlock 1, .code slices_insertionSortCmpFunc_Commit.c1, .inLoop slices_insertionSortCmpFunc_Commit.b0, .inBlock 0, .code slices_insertionSortCmpFunc_Commit.c0]
def slices_insertionSortCmpFunc_Commit.k0 : List Item := [.inBlock 0, .code slices_insertionSortCmpFunc_Commit.c0]
def slices_insertionSortCmpFunc_Commit : AFunc := ⟨53, [], slices_insertionSortCmpFunc_Commit.main⟩
/-- chapman/chapmanref20.Weight -/
def r20_Weight.c0 : ACode := (.seq (.region false [
 ⟨some 19, .mv (.tmp 3), none, [], []⟩,
 ⟨some 2, .mv (.tmp 19), none, [], []⟩])
  .ret)
def r20_Weight.b0 : ACode := (.seq (.seq (.seq (.region false [
 ⟨some 5, .mv (.tmp 4), none, [], []⟩,
 ⟨some 6, .faddr 2 (.tmp 1), none, [], []⟩,
 ⟨some 7, .load false 1 (.tmp 6), none, [], []⟩,
 ⟨some 8, .len .sl (.tmp 7), none, [], []⟩,
 ⟨some 9, .bin .lss (.tmp 5) (.tmp 8), none, [], []⟩])
  (.ghost (.kill [5, 6, 7, 8])))
  (.cond (.tmp 9) .skip
  (.exit 0)))
  (.seq (.block 1 (.seq (.region false [
 ⟨some 12, .mv (.tmp 3), none, [], []⟩,
 ⟨some 13, .faddr 2 (.tmp 1), none, [], []⟩,
 ⟨some 14, .load false 1 (.tmp 13), none, [], []⟩,
 ⟨some 15, .mv (.tmp 4), none, [], []⟩,
 ⟨some 16, .iaddr 1 (.tmp 14) (.tmp 15), none, [], []⟩,
 ⟨some 17, .load false 1 (.tmp 16), none, [], []⟩,
 ⟨some 18, .bin .add (.tmp 12) (.tmp 17), none, [], []⟩,
 ⟨some 3, .mv (.tmp 18), none, [], []⟩])
  (.ghost (.kill [9, 12, 13, 14, 15, 16, 17, 18]))))
  (.seq (.region false [
 ⟨some 10, .mv (.tmp 4), none, [], []⟩,
 ⟨some 11, .bin .add (.tmp 10) (.cst (.int .i64 1)), none, [], []⟩,
 ⟨some 4, .mv (.tmp 11), none, [], []⟩])
  (.ghost (.kill [10, 11])))))
def r20_Weight.main : ACode := (.seq (.seq (.region false [
 ⟨some 1, .box 5 (.tmp 0), none, [], []⟩,
 ⟨some 2, .mv (.cst (.int .i64 0)), none, [], []⟩])
  (.ghost (.kill [0, 2])))
  (.seq (.region false [
 ⟨some 3, .mv (.cst (.int .i64 0)), none, [], []⟩])
  (.seq (.seq (.region false [
 ⟨some 4, .mv (.cst (.int .i64 0)), none, [], []⟩])
  (.seq (.block 0 (.loop r20_Weight.b0))
  (.ghost (.kill [1, 4, 9]))))
  r20_Weight.c0)))
def r20_Weight.k0 : List Item := [.inBlock 0, .code (.ghost (.kill [1, 4, 9])), .code r20_Weight.c0]
def r20_Weight : AFunc := ⟨20, [.tmp 2], r20_Weight.main⟩
/-- chapman/chapmanref20.Find -/
def r20_Find.c0 : ACode := (.seq (.region false [
 ⟨some 4, .mv (.cst (.int .i64 (-1))), none, [], []⟩])
  .ret)
def r20_Find.b0 : ACode := (.seq (.seq (.seq (.region false [
 ⟨some 6, .mv (.tmp 5), none, [], []⟩,
 ⟨some 7, .mv (.tmp 0), none, [], []⟩,
 ⟨some 8, .len .sl (.tmp 7), none, [], []⟩,
 ⟨some 9, .bin .lss (.tmp 6) (.tmp 8), none, [], []⟩])
  (.ghost (.kill [6, 7, 8])))
  (.cond (.tmp 9) .skip
  (.exit 0)))
  (.seq (.seq (.block 1 (.seq (.seq (.region true [
 ⟨some 12, .mv (.tmp 0), none, [], [0]⟩,
 ⟨some 13, .mv (.tmp 5), none, [], [5]⟩,
 ⟨some 14, .iaddr 5 (.tmp 12) (.tmp 13), none, [0, 1], [12, 13]⟩,
 ⟨some 15, .faddr 0 (.tmp 14), none, [2], [14]⟩,
 ⟨some 16, .load true 2 (.tmp 15), none, [3], [15]⟩,
 ⟨some 17, .load true 2 (.tmp 3), none, [], [3]⟩,
 ⟨some 18, .eqs false (.row [(0, 1, false, (.int .i64)), (1, 1, false, (.int .i64))]) (.tmp 16) (.tmp 17), none, [4, 5], [16, 17]⟩])
  (.ghost (.kill [9, 12, 13, 14, 15, 16, 17])))
  (.cond (.tmp 18) (.seq (.region false [
      ⟨some 19, .mv (.tmp 5), none, [], []⟩,
      ⟨some 4, .mv (.tmp 19), none, [], []⟩])
    .ret)
  .skip)))
  (.ghost (.kill [18])))
  (.seq (.region false [
 ⟨some 10, .mv (.tmp 5), none, [], []⟩,
 ⟨some 11, .bin .add (.tmp 10) (.cst (.int .i64 1)), none, [], []⟩,
 ⟨some 5, .mv (.tmp 11), none, [], []⟩])
  (.ghost (.kill [10, 11])))))
def r20_Find.main : ACode := (.seq (.seq (.region false [
 ⟨some 3, .box 2 (.tmp 1), none, [], []⟩,
 ⟨some 4, .mv (.cst (.int .i64 0)), none, [], []⟩])
  (.ghost (.kill [1, 4])))
  (.seq (.seq (.region false [
 ⟨some 5, .mv (.cst (.int .i64 0)), none, [], []⟩])
  (.seq (.block 0 (.loop r20_Find.b0))
  (.ghost (.kill [0, 3, 5, 9]))))
  r20_Find.c0))
def r20_Find.k0 : List Item := [.inBlock 0, .code (.ghost (.kill [0, 3, 5, 9])), .code r20_Find.c0]
def r20_Find : AFunc := ⟨20, [.tmp 4], r20_Find.main⟩
/-- chapman/chapmanref20.Leq -/
def r20_Leq.c0 : ACode := (.seq (.region false [
 ⟨some 4, .mv (.cst (.bool true)), none, [], []⟩])
  .ret)
def r20_Leq.c1 : ACode := (.ghost (.kill [0, 1, 5, 17]))
def r20_Leq.b0 : ACode := (.seq (.seq (.seq (.region false [
 ⟨some 14, .mv (.tmp 5), none, [], []⟩,
 ⟨some 15, .mv (.tmp 0), none, [], []⟩,
 ⟨some 16, .len .sl (.tmp 15), none, [], []⟩,
 ⟨some 17, .bin .lss (.tmp 14) (.tmp 16), none, [], []⟩])
  (.ghost (.kill [14, 15, 16])))
  (.cond (.tmp 17) .skip
  (.exit 0)))
  (.seq (.seq (.block 1 (.seq (.seq (.region true [
 ⟨some 20, .mv (.tmp 0), none, [], [0]⟩,
 ⟨some 21, .mv (.tmp 5), none, [], [5]⟩,
 ⟨some 22, .iaddr 1 (.tmp 20) (.tmp 21), none, [0, 1], [20, 21]⟩,
 ⟨some 23, .load false 1 (.tmp 22), none, [2], [22]⟩,
 ⟨some 24, .mv (.tmp 1), none, [], [1]⟩,
 ⟨some 25, .mv (.tmp 5), none, [], [5]⟩,
 ⟨some 26, .iaddr 1 (.tmp 24) (.tmp 25), none, [4, 5], [24, 25]⟩,
 ⟨some 27, .load false 1 (.tmp 26), none, [6], [26]⟩,
 ⟨some 28, .bin .gtr (.tmp 23) (.tmp 27), none, [3, 7], [23, 27]⟩])
  (.ghost (.kill [17, 20, 21, 22, 23, 24, 25, 26, 27])))
  (.cond (.tmp 28) (.seq (.region false [
      ⟨some 4, .mv (.cst (.bool false)), none, [], []⟩])
    .ret)
  .skip)))
  (.ghost (.kill [28])))
  (.seq (.region false [
 ⟨some 18, .mv (.tmp 5), none, [], []⟩,
 ⟨some 19, .bin .add (.tmp 18) (.cst (.int .i64 1)), none, [], []⟩,
 ⟨some 5, .mv (.tmp 19), none, [], []⟩])
  (.ghost (.kill [18, 19])))))
def r20_Leq.main : ACode := (.seq (.seq (.region false [
 ⟨some 4, .mv (.cst (.bool false)), none, [], []⟩])
  (.ghost (.kill [4])))
  (.seq (.seq (.seq (.region false [
 ⟨some 6, .mv (.tmp 0), none, [], []⟩,
 ⟨some 7, .call true i_r20_Valid [(.tmp 6)], none, [], []⟩,
 ⟨some 8, .un .not (.tmp 7), none, [], []⟩,
 ⟨some 9, .mv (.tmp 8), none, [], []⟩,
 ⟨some 10, .mv (.tmp 1), (some ((some 9), false)), [], []⟩,
 ⟨some 11, .call true i_r20_Valid [(.tmp 10)], (some ((some 9), false)), [], []⟩,
 ⟨some 12, .un .not (.tmp 11), (some ((some 9), false)), [], []⟩,
 ⟨some 13, .pick (.tmp 9) (.cst (.bool true)) (.tmp 12), none, [], []⟩])
  (.ghost (.kill [6, 7, 8, 9, 10, 11, 12])))
  (.cond (.tmp 13) (.seq (.region false [
      ⟨some 4, .mv (.cst (.bool false)), none, [], []⟩])
    .ret)
  .skip))
  (.seq (.seq (.seq (.region false [
 ⟨some 5, .mv (.cst (.int .i64 0)), none, [], []⟩])
  (.ghost (.kill [13])))
  (.seq (.block 0 (.loop r20_Leq.b0))
  r20_Leq.c1))
  r20_Leq.c0)))
def r20_Leq.k0 : List Item := [.inBlock 0, .code r20_Leq.c1, .code r20_Leq.c0]
def r20_Leq : AFunc := ⟨29, [.tmp 4], r20_Leq.main⟩
/-- chapman/cut.Leq -/
def cut_Leq.c0 : ACode := (.seq (.region false [
 ⟨some 4, .mv (.cst (.bool true)), none, [], []⟩])
  .ret)
def cut_Leq.c1 : ACode := (.ghost (.kill [0, 1, 14, 15]))
def cut_Leq.b0 : ACode := (.seq (.region false [
 ⟨some 15, .bin .lss (.tmp 14) (.cst (.int .i64 6)), none, [], []⟩])
  (.seq (.cond (.tmp 15) .skip
  (.exit 0))
  (.seq (.seq (.block 1 (.seq (.seq (.region false [
 ⟨some 16, .mv (.tmp 14), none, [], []⟩,
 ⟨some 5, .mv (.tmp 16), none, [], []⟩])
  (.ghost (.kill [15, 16])))
  (.seq (.seq (.region true [
 ⟨some 17, .mv (.tmp 0), none, [], [0]⟩,
 ⟨some 18, .mv (.tmp 5), none, [], [5]⟩,
 ⟨some 19, .iaddr 1 (.tmp 17) (.tmp 18), none, [0, 1], [17, 18]⟩,
 ⟨some 20, .load false 1 (.tmp 19), none, [2], [19]⟩,
 ⟨some 21, .mv (.tmp 1), none, [], [1]⟩,
 ⟨some 22, .mv (.tmp 5), none, [], [5]⟩,
 ⟨some 23, .iaddr 1 (.tmp 21) (.tmp 22), none, [4, 5], [21, 22]⟩,
 ⟨some 24, .load false 1 (.tmp 23), none, [6], [23]⟩,
 ⟨some 25, .bin .gtr (.tmp 20) (.tmp 24), none, [3, 7], [20, 24]⟩])
  (.ghost (.kill [5, 17, 18, 19, 20, 21, 22, 23, 24])))
  (.cond (.tmp 25) (.seq (.region false [
      ⟨some 4, .mv (.cst (.bool false)), none, [], []⟩])
    .ret)
  .skip))))
  (.ghost (.kill [25])))
  (.seq (.region false [
 ⟨some 26, .bin .add (.tmp 14) (.cst (.int .i64 1)), none, [], []⟩,
 ⟨some 14, .mv (.tmp 26), none, [], []⟩])
  (.ghost (.kill [26]))))))
def cut_Leq.main : ACode := (.seq (.seq (.region false [
 ⟨some 4, .mv (.cst (.bool false)), none, [], []⟩])
  (.ghost (.kill [4])))
  (.seq (.seq (.seq (.region false [
 ⟨some 6, .mv (.tmp 0), none, [], []⟩,
 ⟨some 7, .call true i_cut_Valid [(.tmp 6)], none, [], []⟩,
 ⟨some 8, .un .not (.tmp 7), none, [], []⟩,
 ⟨some 9, .mv (.tmp 8), none, [], []⟩,
 ⟨some 10, .mv (.tmp 1), (some ((some 9), false)), [], []⟩,
 ⟨some 11, .call true i_cut_Valid [(.tmp 10)], (some ((some 9), false)), [], []⟩,
 ⟨some 12, .un .not (.tmp 11), (some ((some 9), false)), [], []⟩,
 ⟨some 13, .pick (.tmp 9) (.cst (.bool true)) (.tmp 12), none, [], []⟩])
  (.ghost (.kill [6, 7, 8, 9, 10, 11, 12])))
  (.cond (.tmp 13) (.seq (.region false [
      ⟨some 4, .mv (.cst (.bool false)), none, [], []⟩])
    .ret)
  .skip))
  (.seq (.seq (.seq (.region false [
 ⟨some 14, .mv (.cst (.int .i64 0)), none, [], []⟩])
  (.ghost (.kill [13])))
  (.seq (.block 0 (.loop cut_Leq.b0))
  cut_Leq.c1))
  cut_Leq.c0)))
def cut_Leq.k0 : List Item := [.inBlock 0, .code cut_Leq.c1, .code cut_Leq.c0]
def cut_Leq : AFunc := ⟨27, [.tmp 4], cut_Leq.main⟩
/-- slices.insertionSortCmpFunc[int] -/
def slices_insertionSortCmpFunc_int.c0 : ACode := (.ghost (.kill [0, 1, 2, 3, 8, 14]))
def slices_insertionSortCmpFunc_int.c1 : ACode := (.seq (.region false [
 ⟨some 15, .mv (.tmp 8), none, [], []⟩,
 ⟨some 16, .bin .add (.tmp 15) (.cst (.int .i64 1)), none, [], []⟩,
 ⟨some 8, .mv (.tmp 16), none, [], []⟩])
  (.ghost (.kill [15, 16])))
def slices_insertionSortCmpFunc_int.b1 : ACode := (.seq (.seq (.seq (.region true [
 ⟨some 18, .mv (.tmp 9), none, [], [9]⟩,
 ⟨some 19, .mv (.tmp 1), none, [], [1]⟩,
 ⟨some 20, .bin .gtr (.tmp 18) (.tmp 19), none, [0, 1], [18, 19]⟩,
 ⟨some 21, .mv (.tmp 20), none, [2], [20]⟩,
 ⟨some 22, .mv (.tmp 3), (some ((some 21), true)), [3], [3]⟩,
 ⟨some 23, .mv (.tmp 0), (some ((some 21), true)), [3], [0]⟩,
 ⟨some 24, .mv (.tmp 9), (some ((some 21), true)), [3], [9]⟩,
 ⟨some 25, .iaddr 1 (.tmp 23) (.tmp 24), (some ((some 21), true)), [5, 6, 3], [23, 24]⟩,
 ⟨some 26, .load false 1 (.tmp 25), (some ((some 21), true)), [7, 3], [25]⟩,
 ⟨some 27, .mv (.tmp 0), (some ((some 21), true)), [3], [0]⟩,
 ⟨some 28, .mv (.tmp 9), (some ((some 21), true)), [3], [9]⟩,
 ⟨some 29, .bin .sub (.tmp 28) (.cst (.int .i64 1)), (some ((some 21), true)), [10, 3], [28]⟩,
 ⟨some 30, .iaddr 1 (.tmp 27) (.tmp 29), (some ((some 21), true)), [9, 11, 3], [27, 29]⟩,
 ⟨some 31, .load false 1 (.tmp 30), (some ((some 21), true)), [12, 3], [30]⟩,
 ⟨some 32, .callv true (.tmp 22) [(.tmp 26), (.tmp 31)], (some ((some 21), true)), [4, 8, 13, 3, 3], [22, 26, 31]⟩,
 ⟨some 33, .bin .lss (.tmp 32) (.cst (.int .i64 0)), (some ((some 21), true)), [14, 3], [32]⟩,
 ⟨some 34, .pick (.tmp 21) (.tmp 33) (.cst (.bool false)), none, [3, 15], [21, 33]⟩])
  (.ghost (.kill [18, 19, 20, 21, 22, 23, 24, 25, 26, 27, 28, 29, 30, 31, 32, 33])))
  (.cond (.tmp 34) .skip
  (.exit 2)))
  (.seq (.block 3 (.seq (.region true [
 ⟨some 37, .mv (.tmp 0), none, [], [0]⟩,
 ⟨some 38, .mv (.tmp 9), none, [], [9]⟩,
 ⟨some 39, .mv (.tmp 0), none, [], [0]⟩,
 ⟨some 40, .mv (.tmp 9), none, [], [9]⟩,
 ⟨some 41, .bin .sub (.tmp 40) (.cst (.int .i64 1)), none, [3], [40]⟩,
 ⟨some 42, .mv (.tmp 0), none, [], [0]⟩,
 ⟨some 43, .mv (.tmp 9), none, [], [9]⟩,
 ⟨some 44, .bin .sub (.tmp 43) (.cst (.int .i64 1)), none, [6], [43]⟩,
 ⟨some 45, .iaddr 1 (.tmp 42) (.tmp 44), none, [5, 7], [42, 44]⟩,
 ⟨some 46, .load false 1 (.tmp 45), none, [8], [45]⟩,
 ⟨some 47, .mv (.tmp 0), none, [], [0]⟩,
 ⟨some 48, .mv (.tmp 9), none, [], [9]⟩,
 ⟨some 49, .iaddr 1 (.tmp 47) (.tmp 48), none, [10, 11], [47, 48]⟩,
 ⟨some 50, .load false 1 (.tmp 49), none, [12], [49]⟩,
 ⟨some 51, .iaddr 1 (.tmp 37) (.tmp 38), none, [0, 1, 0, 1, 5, 6, 7, 8, 9, 13], [37, 38]⟩,
 ⟨none, .store 1 (.tmp 51) (.tmp 46), none, [14, 9, 0, 1, 5, 6, 7, 8, 9, 13], [51, 46]⟩,
 ⟨some 52, .iaddr 1 (.tmp 39) (.tmp 41), none, [2, 4, 0, 1, 2, 3, 4, 5, 6, 7, 8, 9, 10, 11, 12, 13, 14, 15], [39, 41]⟩,
 ⟨none, .store 1 (.tmp 52) (.tmp 50), none, [16, 13, 15, 0, 1, 2, 3, 4, 5, 6, 7, 8, 9, 10, 11, 12, 13, 14, 15], [52, 50]⟩])
  (.ghost (.kill [34, 37, 38, 39, 40, 41, 42, 43, 44, 45, 46, 47, 48, 49, 50, 51, 52]))))
  (.seq (.region false [
 ⟨some 35, .mv (.tmp 9), none, [], []⟩,
 ⟨some 36, .bin .sub (.tmp 35) (.cst (.int .i64 1)), none, [], []⟩,
 ⟨some 9, .mv (.tmp 36), none, [], []⟩])
  (.ghost (.kill [35, 36])))))
def slices_insertionSortCmpFunc_int.b0 : ACode := (.seq (.seq (.seq (.region false [
 ⟨some 12, .mv (.tmp 8), none, [], []⟩,
 ⟨some 13, .mv (.tmp 2), none, [], []⟩,
 ⟨some 14, .bin .lss (.tmp 12) (.tmp 13), none, [], []⟩])
  (.ghost (.kill [12, 13])))
  (.cond (.tmp 14) .skip
  (.exit 0)))
  (.seq (.block 1 (.seq (.seq (.region false [
 ⟨some 17, .mv (.tmp 8), none, [], []⟩,
 ⟨some 9, .mv (.tmp 17), none, [], []⟩])
  (.ghost (.kill [14, 17])))
  (.seq (.block 2 (.loop slices_insertionSortCmpFunc_int.b1))
  (.ghost (.kill [9, 34])))))
  slices_insertionSortCmpFunc_int.c1))
def slices_insertionSortCmpFunc_int.main : ACode := (.seq (.seq (.region false [
 ⟨some 10, .mv (.tmp 1), none, [], []⟩,
 ⟨some 11, .bin .add (.tmp 10) (.cst (.int .i64 1)), none, [], []⟩,
 ⟨some 8, .mv (.tmp 11), none, [], []⟩])
  (.ghost (.kill [10, 11])))
  (.seq (.block 0 (.loop slices_insertionSortCmpFunc_int.b0))
  slices_insertionSortCmpFunc_int.c0))
def slices_insertionSortCmpFunc_int.k1 : List Item := [.inBlock 2, .code (.ghost (.kill [9, 34])), .inBlock 1, .code slices_insertionSortCmpFunc_int.c1, .inLoop slices_insertionSortCmpFunc_int.b0, .inBlock 0, .code slices_insertionSortCmpFunc_int.c0]
def slices_insertionSortCmpFunc_int.k0 : List Item := [.inBlock 0, .code slices_insertionSortCmpFunc_int.c0]
def slices_insertionSortCmpFunc_int : AFunc := ⟨53, [], slices_insertionSortCmpFunc_int.main⟩
/-- math/bits.Len32 -/
def bits_Len32.c0 : ACode := (.seq (.region false [
 ⟨some 13, .mv (.tmp 2), none, [], []⟩,
 ⟨some 14, .mv (.tmp 0), none, [], []⟩,
 ⟨some 15, .conv .u8 (.tmp 14), none, [], []⟩,
 ⟨some 16, .idxS (.cst (.str ⟨#[0, 1, 2, 2, 3, 3, 3, 3, 4, 4, 4, 4, 4, 4, 4, 4, 5, 5, 5, 5, 5, 5, 5, 5, 5, 5, 5, 5, 5, 5, 5, 5, 6, 6, 6, 6, 6, 6, 6, 6, 6, 6, 6, 6, 6, 6, 6, 6, 6, 6, 6, 6, 6, 6, 6, 6, 6, 6, 6, 6, 6, 6, 6, 6, 7, 7, 7, 7, 7, 7, 7, 7, 7, 7, 7, 7, 7, 7, 7, 7, 7, 7, 7, 7, 7, 7, 7, 7, 7, 7, 7, 7, 7, 7, 7, 7, 7, 7, 7, 7, 7, 7, 7, 7, 7, 7, 7, 7, 7, 7, 7, 7, 7, 7, 7, 7, 7, 7, 7, 7, 7, 7, 7, 7, 7, 7, 7, 7, 8, 8, 8, 8, 8, 8, 8, 8, 8, 8, 8, 8, 8, 8, 8, 8, 8, 8, 8, 8, 8, 8, 8, 8, 8, 8, 8, 8, 8, 8, 8, 8, 8, 8, 8, 8, 8, 8, 8, 8, 8, 8, 8, 8, 8, 8, 8, 8, 8, 8, 8, 8, 8, 8, 8, 8, 8, 8, 8, 8, 8, 8, 8, 8, 8, 8, 8, 8, 8, 8, 8, 8, 8, 8, 8, 8, 8, 8, 8, 8, 8, 8, 8, 8, 8, 8, 8, 8, 8, 8, 8, 8, 8, 8, 8, 8, 8, 8, 8, 8, 8, 8, 8, 8, 8, 8, 8, 8, 8, 8, 8, 8, 8, 8, 8, 8, 8, 8, 8, 8, 8, 8, 8, 8, 8, 8, 8, 8]⟩)) (.tmp 15), none, [], []⟩,
 ⟨some 17, .conv .i64 (.tmp 16), none, [], []⟩,
 ⟨some 18, .bin .add (.tmp 13) (.tmp 17), none, [], []⟩,
 ⟨some 2, .mv (.tmp 18), none, [], []⟩])
  .ret)
def bits_Len32.c1 : ACode := (.seq (.seq (.seq (.region false [
 ⟨some 7, .mv (.tmp 0), none, [], []⟩,
 ⟨some 8, .bin .geq (.tmp 7) (.cst (.int .u32 256)), none, [], []⟩])
  (.ghost (.kill [7])))
  (.seq (.cond (.tmp 8) (.seq (.seq (.region false [
      ⟨some 9, .mv (.tmp 0), none, [], []⟩,
      ⟨some 10, .bin .shr (.tmp 9) (.cst (.int .u64 8)), none, [], []⟩,
      ⟨some 0, .mv (.tmp 10), none, [], []⟩])
    (.ghost (.kill [8, 9, 10])))
    (.seq (.region false [
      ⟨some 11, .mv (.tmp 2), none, [], []⟩,
      ⟨some 12, .bin .add (.tmp 11) (.cst (.int .i64 8)), none, [], []⟩,
      ⟨some 2, .mv (.tmp 12), none, [], []⟩])
    (.ghost (.kill [11, 12]))))
  .skip)
  (.ghost (.kill [8]))))
  bits_Len32.c0)
def bits_Len32.main : ACode := (.seq (.region false [
 ⟨some 2, .mv (.cst (.int .i64 0)), none, [], []⟩])
  (.seq (.seq (.seq (.region false [
 ⟨some 3, .mv (.tmp 0), none, [], []⟩,
 ⟨some 4, .bin .geq (.tmp 3) (.cst (.int .u32 65536)), none, [], []⟩])
  (.ghost (.kill [3])))
  (.seq (.cond (.tmp 4) (.seq (.seq (.region false [
      ⟨some 5, .mv (.tmp 0), none, [], []⟩,
      ⟨some 6, .bin .shr (.tmp 5) (.cst (.int .u64 16)), none, [], []⟩,
      ⟨some 0, .mv (.tmp 6), none, [], []⟩])
    (.ghost (.kill [2, 4, 5, 6])))
    (.region false [
      ⟨some 2, .mv (.cst (.int .i64 16)), none, [], []⟩]))
  .skip)
  (.ghost (.kill [4]))))
  bits_Len32.c1))
def bits_Len32 : AFunc := ⟨19, [.tmp 2], bits_Len32.main⟩
/-- math/bits.Len64 -/
def bits_Len64.c0 : ACode := (.seq (.region false [
 ⟨some 19, .mv (.tmp 2), none, [], []⟩,
 ⟨some 20, .mv (.tmp 0), none, [], []⟩,
 ⟨some 21, .conv .u8 (.tmp 20), none, [], []⟩,
 ⟨some 22, .idxS (.cst (.str ⟨#[0, 1, 2, 2, 3, 3, 3, 3, 4, 4, 4, 4, 4, 4, 4, 4, 5, 5, 5, 5, 5, 5, 5, 5, 5, 5, 5, 5, 5, 5, 5, 5, 6, 6, 6, 6, 6, 6, 6, 6, 6, 6, 6, 6, 6, 6, 6, 6, 6, 6, 6, 6, 6, 6, 6, 6, 6, 6, 6, 6, 6, 6, 6, 6, 7, 7, 7, 7, 7, 7, 7, 7, 7, 7, 7, 7, 7, 7, 7, 7, 7, 7, 7, 7, 7, 7, 7, 7, 7, 7, 7, 7, 7, 7, 7, 7, 7, 7, 7, 7, 7, 7, 7, 7, 7, 7, 7, 7, 7, 7, 7, 7, 7, 7, 7, 7, 7, 7, 7, 7, 7, 7, 7, 7, 7, 7, 7, 7, 8, 8, 8, 8, 8, 8, 8, 8, 8, 8, 8, 8, 8, 8, 8, 8, 8, 8, 8, 8, 8, 8, 8, 8, 8, 8, 8, 8, 8, 8, 8, 8, 8, 8, 8, 8, 8, 8, 8, 8, 8, 8, 8, 8, 8, 8, 8, 8, 8, 8, 8, 8, 8, 8, 8, 8, 8, 8, 8, 8, 8, 8, 8, 8, 8, 8, 8, 8, 8, 8, 8, 8, 8, 8, 8, 8, 8, 8, 8, 8, 8, 8, 8, 8, 8, 8, 8, 8, 8, 8, 8, 8, 8, 8, 8, 8, 8, 8, 8, 8, 8, 8, 8, 8, 8, 8, 8, 8, 8, 8, 8, 8, 8, 8, 8, 8, 8, 8, 8, 8, 8, 8, 8, 8, 8, 8, 8, 8]⟩)) (.tmp 21), none, [], []⟩,
 ⟨some 23, .conv .i64 (.tmp 22), none, [], []⟩,
 ⟨some 24, .bin .add (.tmp 19) (.tmp 23), none, [], []⟩,
 ⟨some 2, .mv (.tmp 24), none, [], []⟩])
  .ret)
def bits_Len64.c1 : ACode := (.seq (.seq (.seq (.region false [
 ⟨some 13, .mv (.tmp 0), none, [], []⟩,
 ⟨some 14, .bin .geq (.tmp 13) (.cst (.int .u64 256)), none, [], []⟩])
  (.ghost (.kill [13])))
  (.seq (.cond (.tmp 14) (.seq (.seq (.region false [
      ⟨some 15, .mv (.tmp 0), none, [], []⟩,
      ⟨some 16, .bin .shr (.tmp 15) (.cst (.int .u64 8)), none, [], []⟩,
      ⟨some 0, .mv (.tmp 16), none, [], []⟩])
    (.ghost (.kill [14, 15, 16])))
    (.seq (.region false [
      ⟨some 17, .mv (.tmp 2), none, [], []⟩,
      ⟨some 18, .bin .add (.tmp 17) (.cst (.int .i64 8)), none, [], []⟩,
      ⟨some 2, .mv (.tmp 18), none, [], []⟩])
    (.ghost (.kill [17, 18]))))
  .skip)
  (.ghost (.kill [14]))))
  bits_Len64.c0)
def bits_Len64.c2 : ACode := (.seq (.seq (.seq (.region false [
 ⟨some 7, .mv (.tmp 0), none, [], []⟩,
 ⟨some 8, .bin .geq (.tmp 7) (.cst (.int .u64 65536)), none, [], []⟩])
  (.ghost (.kill [7])))
  (.seq (.cond (.tmp 8) (.seq (.seq (.region false [
      ⟨some 9, .mv (.tmp 0), none, [], []⟩,
      ⟨some 10, .bin .shr (.tmp 9) (.cst (.int .u64 16)), none, [], []⟩,
      ⟨some 0, .mv (.tmp 10), none, [], []⟩])
    (.ghost (.kill [8, 9, 10])))
    (.seq (.region false [
      ⟨some 11, .mv (.tmp 2), none, [], []⟩,
      ⟨some 12, .bin .add (.tmp 11) (.cst (.int .i64 16)), none, [], []⟩,
      ⟨some 2, .mv (.tmp 12), none, [], []⟩])
    (.ghost (.kill [11, 12]))))
  .skip)
  (.ghost (.kill [8]))))
  bits_Len64.c1)
def bits_Len64.main : ACode := (.seq (.region false [
 ⟨some 2, .mv (.cst (.int .i64 0)), none, [], []⟩])
  (.seq (.seq (.seq (.region false [
 ⟨some 3, .mv (.tmp 0), none, [], []⟩,
 ⟨some 4, .bin .geq (.tmp 3) (.cst (.int .u64 4294967296)), none, [], []⟩])
  (.ghost (.kill [3])))
  (.seq (.cond (.tmp 4) (.seq (.seq (.region false [
      ⟨some 5, .mv (.tmp 0), none, [], []⟩,
      ⟨some 6, .bin .shr (.tmp 5) (.cst (.int .u64 32)), none, [], []⟩,
      ⟨some 0, .mv (.tmp 6), none, [], []⟩])
    (.ghost (.kill [2, 4, 5, 6])))
    (.region false [
      ⟨some 2, .mv (.cst (.int .i64 32)), none, [], []⟩]))
  .skip)
  (.ghost (.kill [4]))))
  bits_Len64.c2))
def bits_Len64 : AFunc := ⟨25, [.tmp 2], bits_Len64.main⟩
/-- cmp.isNaN[int] -/
def cmp_isNaN_int.main : ACode := (.seq (.seq (.region false [
 ⟨some 2, .mv (.cst (.bool false)), none, [], []⟩])
  (.ghost (.kill [2])))
  (.seq (.region false [
 ⟨some 3, .mv (.tmp 0), none, [], []⟩,
 ⟨some 4, .mv (.tmp 0), none, [], []⟩,
 ⟨some 5, .bin .neq (.tmp 3) (.tmp 4), none, [], []⟩,
 ⟨some 2, .mv (.tmp 5), none, [], []⟩])
  .ret))
def cmp_isNaN_int : AFunc := ⟨6, [.tmp 2], cmp_isNaN_int.main⟩
/-- slices.IndexFunc[[]int,int] -/
def slices_IndexFunc_int.c0 : ACode := (.seq (.region false [
 ⟨some 4, .mv (.cst (.int .i64 (-1))), none, [], []⟩])
  .ret)
def slices_IndexFunc_int.c1 : ACode := (.ghost (.kill [0, 1, 7, 8, 9]))
def slices_IndexFunc_int.b0 : ACode := (.seq (.region false [
 ⟨some 9, .bin .lss (.tmp 8) (.tmp 7), none, [], []⟩])
  (.seq (.cond (.tmp 9) .skip
  (.exit 0))
  (.seq (.seq (.block 1 (.seq (.seq (.region false [
 ⟨some 10, .mv (.tmp 8), none, [], []⟩,
 ⟨some 5, .mv (.tmp 10), none, [], []⟩])
  (.ghost (.kill [9, 10])))
  (.seq (.seq (.region false [
 ⟨some 11, .mv (.tmp 1), none, [], []⟩,
 ⟨some 12, .mv (.tmp 0), none, [], []⟩,
 ⟨some 13, .mv (.tmp 5), none, [], []⟩,
 ⟨some 14, .iaddr 1 (.tmp 12) (.tmp 13), none, [], []⟩,
 ⟨some 15, .load false 1 (.tmp 14), none, [], []⟩,
 ⟨some 16, .callv true (.tmp 11) [(.tmp 15)], none, [], []⟩])
  (.ghost (.kill [11, 12, 13, 14, 15])))
  (.cond (.tmp 16) (.seq (.region false [
      ⟨some 17, .mv (.tmp 5), none, [], []⟩,
      ⟨some 4, .mv (.tmp 17), none, [], []⟩])
    .ret)
  .skip))))
  (.ghost (.kill [5, 16])))
  (.seq (.region false [
 ⟨some 18, .bin .add (.tmp 8) (.cst (.int .i64 1)), none, [], []⟩,
 ⟨some 8, .mv (.tmp 18), none, [], []⟩])
  (.ghost (.kill [18]))))))
def slices_IndexFunc_int.main : ACode := (.seq (.seq (.region false [
 ⟨some 4, .mv (.cst (.int .i64 0)), none, [], []⟩])
  (.ghost (.kill [4])))
  (.seq (.seq (.seq (.region false [
 ⟨some 6, .mv (.tmp 0), none, [], []⟩,
 ⟨some 7, .len .sl (.tmp 6), none, [], []⟩,
 ⟨some 8, .mv (.cst (.int .i64 0)), none, [], []⟩])
  (.ghost (.kill [6])))
  (.seq (.block 0 (.loop slices_IndexFunc_int.b0))
  slices_IndexFunc_int.c1))
  slices_IndexFunc_int.c0))
def slices_IndexFunc_int.k0 : List Item := [.inBlock 0, .code slices_IndexFunc_int.c1, .code slices_IndexFunc_int.c0]
def slices_IndexFunc_int : AFunc := ⟨19, [.tmp 4], slices_IndexFunc_int.main⟩
def T : FuncId → Option AFunc
  | 5 => some l23_EscrowIndependence
  | 8 => some l23_EscrowPromises
  | 9 => some l23_examples
  | 10 => some l23_short
  | 11 => some r23_With
  | 12 => some r20_Headers
  | 13 => some r23_Shares
  | 14 => some r23_Alike
  | 15 => some l23_created
  | 17 => some escrow_Valid
  | 18 => some r23_Valid
  | 19 => some escrow_Total
  | 21 => some l23_taken
  | 23 => some l23_granted
  | 25 => some r23_Same
  | 26 => some l23_played
  | 28 => some l23_did
  | 30 => some escrow_Covered
  | 32 => some l23_commit
  | 33 => some r20_Same
  | 34 => some l23_kept
  | 35 => some r20_CutOf
  | 36 => some cut_Order
  | 37 => some cut_Has
  | 38 => some l23_causal
  | 39 => some l23_all
  | 40 => some r20_Zero
  | 41 => some l23_take
  | 42 => some r23_Op
  | 43 => some r20_JoinIn
  | 44 => some r20_Own
  | 45 => some escrow_New
  | 47 => some escrow_Take
  | 49 => some escrow_Grant
  | 50 => some escrow_Play
  | 51 => some escrow_Do
  | 52 => some slices_DeleteFunc_Commit
  | 53 => some slices_Clone_Commit
  | 54 => some escrow_Covered_1
  | 55 => some cut_Sees
  | 56 => some slices_SortStableFunc_Commit
  | 57 => some escrow_Covered_2
  | 58 => some cut_Before
  | 60 => some r20_GreatestIn
  | 61 => some r20_All
  | 62 => some r20_Limit
  | 63 => some cut_Closed
  | 64 => some cut_indices
  | 65 => some slices_SortFunc_int
  | 66 => some cut_Order_1
  | 67 => some cut_compare
  | 68 => some cut_Valid
  | 69 => some r20_Sees
  | 70 => some r20_Valid
  | 71 => some escrow_station
  | 72 => some escrow_try
  | 73 => some escrow_Take_1
  | 74 => some escrow_stock_take
  | 75 => some escrow_Grant_1
  | 76 => some escrow_stock_grant
  | 77 => some slices_Clone_int
  | 78 => some escrow_Do_1
  | 79 => some slices_IndexFunc_Commit
  | 80 => some cut_WellFormed
  | 81 => some slices_stableCmpFunc_Commit
  | 82 => some r20_Before
  | 83 => some r20_Closed
  | 84 => some r20_fits
  | 85 => some cut_reach
  | 86 => some slices_Equal_int
  | 87 => some slices_pdqsortCmpFunc_int
  | 88 => some bits_Len
  | 89 => some cmp_Or_int
  | 90 => some cmp_Compare_int
  | 91 => some cut_weight
  | 92 => some slices_ContainsFunc_int
  | 93 => some cut_Valid_1
  | 94 => some r20_WellFormed
  | 95 => some slices_insertionSortCmpFunc_Commit
  | 97 => some r20_Weight
  | 98 => some r20_Find
  | 99 => some r20_Leq
  | 100 => some cut_Leq
  | 101 => some slices_insertionSortCmpFunc_int
  | 109 => some bits_Len32
  | 110 => some bits_Len64
  | 111 => some cmp_isNaN_int
  | 112 => some slices_IndexFunc_int
  | _ => none
theorem T_l23_EscrowIndependence : T i_l23_EscrowIndependence = some l23_EscrowIndependence := rfl
theorem T_l23_EscrowPromises : T i_l23_EscrowPromises = some l23_EscrowPromises := rfl
theorem T_l23_examples : T i_l23_examples = some l23_examples := rfl
theorem T_l23_short : T i_l23_short = some l23_short := rfl
theorem T_r23_With : T i_r23_With = some r23_With := rfl
theorem T_r20_Headers : T i_r20_Headers = some r20_Headers := rfl
theorem T_r23_Shares : T i_r23_Shares = some r23_Shares := rfl
theorem T_r23_Alike : T i_r23_Alike = some r23_Alike := rfl
theorem T_l23_created : T i_l23_created = some l23_created := rfl
theorem T_escrow_Valid : T i_escrow_Valid = some escrow_Valid := rfl
theorem T_r23_Valid : T i_r23_Valid = some r23_Valid := rfl
theorem T_escrow_Total : T i_escrow_Total = some escrow_Total := rfl
theorem T_l23_taken : T i_l23_taken = some l23_taken := rfl
theorem T_l23_granted : T i_l23_granted = some l23_granted := rfl
theorem T_r23_Same : T i_r23_Same = some r23_Same := rfl
theorem T_l23_played : T i_l23_played = some l23_played := rfl
theorem T_l23_did : T i_l23_did = some l23_did := rfl
theorem T_escrow_Covered : T i_escrow_Covered = some escrow_Covered := rfl
theorem T_l23_commit : T i_l23_commit = some l23_commit := rfl
theorem T_r20_Same : T i_r20_Same = some r20_Same := rfl
theorem T_l23_kept : T i_l23_kept = some l23_kept := rfl
theorem T_r20_CutOf : T i_r20_CutOf = some r20_CutOf := rfl
theorem T_cut_Order : T i_cut_Order = some cut_Order := rfl
theorem T_cut_Has : T i_cut_Has = some cut_Has := rfl
theorem T_l23_causal : T i_l23_causal = some l23_causal := rfl
theorem T_l23_all : T i_l23_all = some l23_all := rfl
theorem T_r20_Zero : T i_r20_Zero = some r20_Zero := rfl
theorem T_l23_take : T i_l23_take = some l23_take := rfl
theorem T_r23_Op : T i_r23_Op = some r23_Op := rfl
theorem T_r20_JoinIn : T i_r20_JoinIn = some r20_JoinIn := rfl
theorem T_r20_Own : T i_r20_Own = some r20_Own := rfl
theorem T_escrow_New : T i_escrow_New = some escrow_New := rfl
theorem T_escrow_Take : T i_escrow_Take = some escrow_Take := rfl
theorem T_escrow_Grant : T i_escrow_Grant = some escrow_Grant := rfl
theorem T_escrow_Play : T i_escrow_Play = some escrow_Play := rfl
theorem T_escrow_Do : T i_escrow_Do = some escrow_Do := rfl
theorem T_slices_DeleteFunc_Commit : T i_slices_DeleteFunc_Commit = some slices_DeleteFunc_Commit := rfl
theorem T_slices_Clone_Commit : T i_slices_Clone_Commit = some slices_Clone_Commit := rfl
theorem T_escrow_Covered_1 : T i_escrow_Covered_1 = some escrow_Covered_1 := rfl
theorem T_cut_Sees : T i_cut_Sees = some cut_Sees := rfl
theorem T_slices_SortStableFunc_Commit : T i_slices_SortStableFunc_Commit = some slices_SortStableFunc_Commit := rfl
theorem T_escrow_Covered_2 : T i_escrow_Covered_2 = some escrow_Covered_2 := rfl
theorem T_cut_Before : T i_cut_Before = some cut_Before := rfl
theorem T_r20_GreatestIn : T i_r20_GreatestIn = some r20_GreatestIn := rfl
theorem T_r20_All : T i_r20_All = some r20_All := rfl
theorem T_r20_Limit : T i_r20_Limit = some r20_Limit := rfl
theorem T_cut_Closed : T i_cut_Closed = some cut_Closed := rfl
theorem T_cut_indices : T i_cut_indices = some cut_indices := rfl
theorem T_slices_SortFunc_int : T i_slices_SortFunc_int = some slices_SortFunc_int := rfl
theorem T_cut_Order_1 : T i_cut_Order_1 = some cut_Order_1 := rfl
theorem T_cut_compare : T i_cut_compare = some cut_compare := rfl
theorem T_cut_Valid : T i_cut_Valid = some cut_Valid := rfl
theorem T_r20_Sees : T i_r20_Sees = some r20_Sees := rfl
theorem T_r20_Valid : T i_r20_Valid = some r20_Valid := rfl
theorem T_escrow_station : T i_escrow_station = some escrow_station := rfl
theorem T_escrow_try : T i_escrow_try = some escrow_try := rfl
theorem T_escrow_Take_1 : T i_escrow_Take_1 = some escrow_Take_1 := rfl
theorem T_escrow_stock_take : T i_escrow_stock_take = some escrow_stock_take := rfl
theorem T_escrow_Grant_1 : T i_escrow_Grant_1 = some escrow_Grant_1 := rfl
theorem T_escrow_stock_grant : T i_escrow_stock_grant = some escrow_stock_grant := rfl
theorem T_slices_Clone_int : T i_slices_Clone_int = some slices_Clone_int := rfl
theorem T_escrow_Do_1 : T i_escrow_Do_1 = some escrow_Do_1 := rfl
theorem T_slices_IndexFunc_Commit : T i_slices_IndexFunc_Commit = some slices_IndexFunc_Commit := rfl
theorem T_cut_WellFormed : T i_cut_WellFormed = some cut_WellFormed := rfl
theorem T_slices_stableCmpFunc_Commit : T i_slices_stableCmpFunc_Commit = some slices_stableCmpFunc_Commit := rfl
theorem T_r20_Before : T i_r20_Before = some r20_Before := rfl
theorem T_r20_Closed : T i_r20_Closed = some r20_Closed := rfl
theorem T_r20_fits : T i_r20_fits = some r20_fits := rfl
theorem T_cut_reach : T i_cut_reach = some cut_reach := rfl
theorem T_slices_Equal_int : T i_slices_Equal_int = some slices_Equal_int := rfl
theorem T_slices_pdqsortCmpFunc_int : T i_slices_pdqsortCmpFunc_int = some slices_pdqsortCmpFunc_int := rfl
theorem T_bits_Len : T i_bits_Len = some bits_Len := rfl
theorem T_cmp_Or_int : T i_cmp_Or_int = some cmp_Or_int := rfl
theorem T_cmp_Compare_int : T i_cmp_Compare_int = some cmp_Compare_int := rfl
theorem T_cut_weight : T i_cut_weight = some cut_weight := rfl
theorem T_slices_ContainsFunc_int : T i_slices_ContainsFunc_int = some slices_ContainsFunc_int := rfl
theorem T_cut_Valid_1 : T i_cut_Valid_1 = some cut_Valid_1 := rfl
theorem T_r20_WellFormed : T i_r20_WellFormed = some r20_WellFormed := rfl
theorem T_slices_insertionSortCmpFunc_Commit : T i_slices_insertionSortCmpFunc_Commit = some slices_insertionSortCmpFunc_Commit := rfl
theorem T_r20_Weight : T i_r20_Weight = some r20_Weight := rfl
theorem T_r20_Find : T i_r20_Find = some r20_Find := rfl
theorem T_r20_Leq : T i_r20_Leq = some r20_Leq := rfl
theorem T_cut_Leq : T i_cut_Leq = some cut_Leq := rfl
theorem T_slices_insertionSortCmpFunc_int : T i_slices_insertionSortCmpFunc_int = some slices_insertionSortCmpFunc_int := rfl
theorem T_bits_Len32 : T i_bits_Len32 = some bits_Len32 := rfl
theorem T_bits_Len64 : T i_bits_Len64 = some bits_Len64 := rfl
theorem T_cmp_isNaN_int : T i_cmp_isNaN_int = some cmp_isNaN_int := rfl
theorem T_slices_IndexFunc_int : T i_slices_IndexFunc_int = some slices_IndexFunc_int := rfl
end Go.Abs
